/- models and walks -/
import Derived.Test.YtnbkkljhdnkiaaaGPayoffs
namespace Go.Proofs.Ytnbkkljhdnkiaaa
open Go.AM
set_option maxRecDepth 100000
set_option maxHeartbeats 4000000
noncomputable def E253 : Env := ⟨Try.prog,tys,(Try.f4.body).getD .skip,209,tysOk,mixedOk⟩
abbrev K171 (r : Bool) (σ' : ASt) : Prop := isRes E253.T Try.f4 (.bool r) [] σ'
noncomputable def l_laws_FnPayoffs_0 (v14 : List Q) (v23 : Int) : Option (Int ⊕ (Unit ⊕ Bool)) :=
bif decide (v23 < (v14.length : Int)) then
(grd (0 ≤ IntKind.i64.wrap (v23 - 1) ∧ IntKind.i64.wrap (v23 - 1) < (v14.length : Int)) <|
grd (0 ≤ v23 ∧ v23 < (v14.length : Int)) <|
(m_impl_CompareRat ((v14.getD ((IntKind.i64.wrap (v23 - 1)).toNat) ⟨0,0⟩).num) ((v14.getD ((IntKind.i64.wrap (v23 - 1)).toNat) ⟨0,0⟩).den) ((v14.getD v23.toNat ⟨0,0⟩).num) ((v14.getD v23.toNat ⟨0,0⟩).den)).bind fun v24 =>
bif decide (v24 < 0) then
(some (.inr (.inr false)))
else
(some (.inl (IntKind.i64.wrap (v23 + 1)))))
else
(some (.inr (.inl ())))
noncomputable def m_laws_FnPayoffs (a0 : List UInt8) : Option Bool :=
(m_laws_big a0).bind fun v1 =>
bif v1 then
(some true)
else
((m_spec_DrawInCore a0).bind fun (v2,v3,v4) =>
(m_impl_InCore v2 v3 v4).bind fun v5 =>
(m_impl_WorstExcess v2 v3 v4).bind fun (v6,v7,v8,v9) =>
(m_spec_WorstExcess v2 v3 v4).bind fun (v10,v11,v12,v13) =>
(m_impl_ExcessVector v2 v3 v4).bind fun v14 =>
(m_spec_InCore v2 v3 v4).bind fun v15 =>
bif v5 != v15 then
(some false)
else
(bif !(v6 == v10 && v7 == v11) then
(some false)
else
(bif v8 != v12 then
(some false)
else
((m_laws_sameInts v9 v13).bind fun v16 =>
bif !v16 then
(some false)
else
((m_spec_ExcessVector v2 v3 v4).bind fun v17 =>
(m_spec_EqualVector v14 v17).bind fun v18 =>
bif !v18 then
(some false)
else
((m_impl_IsPayoff v2 v3 v4).bind fun v19 =>
(m_spec_IsPayoff v2 v3 v4).bind fun v20 =>
bif v19 != v20 then
(some false)
else
((m_impl_IsImputation v2 v3 v4).bind fun v21 =>
(m_spec_IsImputation v2 v3 v4).bind fun v22 =>
bif v21 != v22 then
(some false)
else
((iter (l_laws_FnPayoffs_0 v14) (1 : Int)).bind fun
| (.inl _) => (
bif v8 then
(bif v5 != (decide (v6 ≤ 0)) then
(some false)
else
(bif (v14.length : Int) == 0 then
(some false)
else
(grd ((0 : Int) ≤ (0 : Int) ∧ (0 : Int) < (v14.length : Int)) <|
bif !(((v14.getD ((0 : Int).toNat) ⟨0,0⟩).num) == v6 && ((v14.getD ((0 : Int).toNat) ⟨0,0⟩).den) == v7) then
(some false)
else
((m_spec_DrawCompareExcesses a0).bind fun (v25,v26) =>
(m_spec_DrawShareOf a0).bind fun (v27,v28) =>
(m_impl_ShareOf v28 v27).bind fun (v29,v30,v31) =>
(m_spec_ShareOf v28 v27).bind fun (v32,v33,v34) =>
(m_spec_DrawExcessOf a0).bind fun (v35,v36,v37,v38) =>
(m_impl_ExcessOf v35 v36 v37 v38).bind fun (v39,v40,v41) =>
(m_spec_ExcessOf v35 v36 v37 v38).bind fun (v42,v43,v44) =>
bif v29 == v32 && v30 == v33 then
(bif v31 == v34 then
(bif v39 == v42 && v40 == v43 then
(bif v41 == v44 then
((m_impl_CompareExcesses v25 v26).bind fun v45 =>
(m_spec_CompareExcesses v25 v26).bind fun v46 =>
some (v45 == v46))
else
(some false))
else
(some false))
else
(some false))
else
(some false)))))
else
((m_spec_DrawCompareExcesses a0).bind fun (v47,v48) =>
(m_spec_DrawShareOf a0).bind fun (v49,v50) =>
(m_impl_ShareOf v50 v49).bind fun (v51,v52,v53) =>
(m_spec_ShareOf v50 v49).bind fun (v54,v55,v56) =>
(m_spec_DrawExcessOf a0).bind fun (v57,v58,v59,v60) =>
(m_impl_ExcessOf v57 v58 v59 v60).bind fun (v61,v62,v63) =>
(m_spec_ExcessOf v57 v58 v59 v60).bind fun (v64,v65,v66) =>
bif v51 == v54 && v52 == v55 then
(bif v53 == v56 then
(bif v61 == v64 && v62 == v65 then
(bif v63 == v66 then
((m_impl_CompareExcesses v47 v48).bind fun v67 =>
(m_spec_CompareExcesses v47 v48).bind fun v68 =>
some (v67 == v68))
else
(some false))
else
(some false))
else
(some false))
else
(some false)))
| (.inr r) => some r))))))))
theorem w_laws_FnPayoffs (a0 : List UInt8) (r : Bool) (h : m_laws_FnPayoffs a0 = some r) : AM.Spec Try.prog 4 [.list (.bytes a0)] [] (.bool r) [] := by
 refine spec_of (E := E253) Try.func4 rfl rfl rfl rfl ?_
 refine Tri.f 1 [] [.keep [0] []] rfl trivial ?_
 obtain ⟨v1,hk1,h⟩ := bind_some h
 refine Tri.f 1 [.v (.bool v1)] [.keep [0,30] []] rfl ⟨fun _ => W0 a0 v1 hk1,trivial⟩ ?_
 rcases bif_some h with ⟨hd2,h⟩ | ⟨hd2,h⟩
 ·refine Tri.f 2 [.g true] [.keep [2] []] rfl ⟨hd2,trivial⟩ ?_
  cases h
  exact Tri.ret rfl ⟨.inl rfl,rfl,rfl⟩
 ·obtain ⟨⟨v2,v3,v4⟩,hk3,h⟩ := bind_some h
  refine Tri.f 2 [.g false,.r ⟨[],.tuple [.agg [.i v2,.sl 1100 0],.sl 1101 0],[(1100,.arr 3 0 0 (.ints v3)),(1101,.arr 44 0 0 (.rats v4))]⟩] [.keep [0,3,4] [3,1100,1101]] rfl ⟨fun _ => ((W27 a0 (v2,v3,v4) hk3).swap 1000 1100).swap 1001 1101,hd2,trivial⟩ ?_
  obtain ⟨v5,hk4,h⟩ := bind_some h
  obtain ⟨⟨v6,v7,v8,v9⟩,hk5,h⟩ := bind_some h
  refine Tri.f 2 [.v (.bool v5),.r ⟨[],.tuple [.agg [.i v6,.i v7],.sl 1102 0,.bool v8],[(1102,.arr 3 0 0 (.ints v9))]⟩] [.keep [0,3,4,5,6,7,8] [3,6,1100,1101,1102]] rfl ⟨fun _ => (W56 v2 v3 v4 (v6,v7,v8,v9) hk5).swap 1000 1102,fun _ => W53 v2 v3 v4 v5 hk4,trivial⟩ ?_
  obtain ⟨⟨v10,v11,v12,v13⟩,hk6,h⟩ := bind_some h
  obtain ⟨v14,hk7,h⟩ := bind_some h
  refine Tri.f 2 [.r ⟨[],.tuple [.agg [.i v10,.i v11],.sl 1103 0,.bool v12],[(1103,.arr 3 0 0 (.ints v13))]⟩,.r ⟨[],.sl 1104 0,[(1104,.arr 44 0 0 (.rats v14))]⟩] [.keep [0,3,4,5,6,7,8,9,10,11,12] [3,6,9,1100,1101,1102,1103,1104]] rfl ⟨fun _ => (W70 v2 v3 v4 v14 hk7).swap 1000 1104,fun _ => (W67 v2 v3 v4 (v10,v11,v12,v13) hk6).swap 1000 1103,trivial⟩ ?_
  obtain ⟨v15,hk8,h⟩ := bind_some h
  rcases bif_some h with ⟨hd9,h⟩ | ⟨hd9,h⟩
  ·refine Tri.f 1 [.v (.bool v15),.g true,.g true,.g true,.g true,.g true,.g true] [.keep [0,5,6,8,12,102] [6,1104]] rfl ⟨rfl,rfl,rfl,rfl,rfl,hd9,fun _ => W71 v2 v3 v4 v15 hk8,trivial⟩ ?_
   refine Tri.f 2 [.g true] [.keep [2] []] rfl ⟨rfl,trivial⟩ ?_
   cases h
   exact Tri.ret rfl ⟨.inl rfl,rfl,rfl⟩
  ·rcases bif_some h with ⟨hd10,h⟩ | ⟨hd10,h⟩
   ·refine Tri.f 1 [.v (.bool v15),.g false,.g true,.g true,.g true,.g true,.g true] [.keep [0,5,6,8,12,102] [6,1104]] rfl ⟨rfl,rfl,rfl,rfl,hd10,hd9,fun _ => W71 v2 v3 v4 v15 hk8,trivial⟩ ?_
    refine Tri.f 2 [.g true] [.keep [2] []] rfl ⟨rfl,trivial⟩ ?_
    cases h
    exact Tri.ret rfl ⟨.inl rfl,rfl,rfl⟩
   ·rcases bif_some h with ⟨hd11,h⟩ | ⟨hd11,h⟩
    ·refine Tri.f 1 [.v (.bool v15),.g false,.g false,.g true,.g true,.g true,.g true] [.keep [0,5,6,8,12,102] [6,1104]] rfl ⟨rfl,rfl,rfl,hd11,hd10,hd9,fun _ => W71 v2 v3 v4 v15 hk8,trivial⟩ ?_
     refine Tri.f 2 [.g true] [.keep [2] []] rfl ⟨rfl,trivial⟩ ?_
     cases h
     exact Tri.ret rfl ⟨.inl rfl,rfl,rfl⟩
    ·obtain ⟨v16,hk12,h⟩ := bind_some h
     rcases bif_some h with ⟨hd13,h⟩ | ⟨hd13,h⟩
     ·refine Tri.f 1 [.v (.bool v15),.g false,.g false,.g false,.v (.bool v16),.g true,.g true,.g true] [.keep [0,5,6,8,12,102] [6,1104]] rfl ⟨rfl,rfl,hd13,fun _ => W72 v9 v13 v16 hk12,hd11,hd10,hd9,fun _ => W71 v2 v3 v4 v15 hk8,trivial⟩ ?_
      refine Tri.f 2 [.g true] [.keep [2] []] rfl ⟨rfl,trivial⟩ ?_
      cases h
      exact Tri.ret rfl ⟨.inl rfl,rfl,rfl⟩
     ·obtain ⟨v17,hk14,h⟩ := bind_some h
      obtain ⟨v18,hk15,h⟩ := bind_some h
      rcases bif_some h with ⟨hd16,h⟩ | ⟨hd16,h⟩
      ·refine Tri.f 1 [.v (.bool v15),.g false,.g false,.g false,.v (.bool v16),.g false,.r ⟨[],.sl 1105 0,[(1105,.arr 44 0 0 (.rats v17))]⟩,.v (.bool v18),.g true,.g true] [.keep [0,5,6,8,12,102] [6,1104]] rfl ⟨rfl,hd16,fun _ => W74 v14 v17 v18 hk15,fun _ => (W73 v2 v3 v4 v17 hk14).swap 1000 1105,hd13,fun _ => W72 v9 v13 v16 hk12,hd11,hd10,hd9,fun _ => W71 v2 v3 v4 v15 hk8,trivial⟩ ?_
       refine Tri.f 2 [.g true] [.keep [2] []] rfl ⟨rfl,trivial⟩ ?_
       cases h
       exact Tri.ret rfl ⟨.inl rfl,rfl,rfl⟩
      ·obtain ⟨v19,hk17,h⟩ := bind_some h
       obtain ⟨v20,hk18,h⟩ := bind_some h
       rcases bif_some h with ⟨hd19,h⟩ | ⟨hd19,h⟩
       ·refine Tri.f 1 [.v (.bool v15),.g false,.g false,.g false,.v (.bool v16),.g false,.r ⟨[],.sl 1105 0,[(1105,.arr 44 0 0 (.rats v17))]⟩,.v (.bool v18),.g false,.v (.bool v19),.v (.bool v20),.g true] [.keep [0,5,6,8,12,102] [6,1104]] rfl ⟨hd19,fun _ => W62 v2 v3 v4 v20 hk18,fun _ => W46 v2 v3 v4 v19 hk17,hd16,fun _ => W74 v14 v17 v18 hk15,fun _ => (W73 v2 v3 v4 v17 hk14).swap 1000 1105,hd13,fun _ => W72 v9 v13 v16 hk12,hd11,hd10,hd9,fun _ => W71 v2 v3 v4 v15 hk8,trivial⟩ ?_
        refine Tri.f 2 [.g true] [.keep [2] []] rfl ⟨rfl,trivial⟩ ?_
        cases h
        exact Tri.ret rfl ⟨.inl rfl,rfl,rfl⟩
       ·obtain ⟨v21,hk20,h⟩ := bind_some h
        obtain ⟨v22,hk21,h⟩ := bind_some h
        refine Tri.f 1 [.v (.bool v15),.g false,.g false,.g false,.v (.bool v16),.g false,.r ⟨[],.sl 1105 0,[(1105,.arr 44 0 0 (.rats v17))]⟩,.v (.bool v18),.g false,.v (.bool v19),.v (.bool v20),.g false,.v (.bool v21),.v (.bool v22)] [.keep [0,5,6,8,12,102] [6,1104]] rfl ⟨fun _ => W77 v2 v3 v4 v22 hk21,fun _ => W75 v2 v3 v4 v21 hk20,hd19,fun _ => W62 v2 v3 v4 v20 hk18,fun _ => W46 v2 v3 v4 v19 hk17,hd16,fun _ => W74 v14 v17 v18 hk15,fun _ => (W73 v2 v3 v4 v17 hk14).swap 1000 1105,hd13,fun _ => W72 v9 v13 v16 hk12,hd11,hd10,hd9,fun _ => W71 v2 v3 v4 v15 hk8,trivial⟩ ?_
        rcases bif_some h with ⟨hd22,h⟩ | ⟨hd22,h⟩
        ·refine Tri.f 2 [.g true] [.keep [2] []] rfl ⟨hd22,trivial⟩ ?_
         cases h
         exact Tri.ret rfl ⟨.inl rfl,rfl,rfl⟩
        ·refine Tri.f 2 [.g false] [.keep [0,5,6,8,12,13] [6,1104]] rfl ⟨hd22,trivial⟩ ?_
         obtain ⟨x1,hk28,h⟩ := bind_some h
         refine Tri.loop (K1 := [.code [(8,0),(1,0),(0,0)] 0]) (K2 := [.blk 0,.code [] 9]) (fun v23 => ⟨[(0,.list (.bytes a0)),(5,.bool v5),(6,.ptr 6 0),(8,.bool v8),(12,.sl 1104 0),(13,.i v23)],[(6,.box [.i v6,.i v7]),(1104,.arr 44 0 0 (.rats v14))]⟩) (fun x e σ' => match x with | (.inl _) => e = .exit 0 ∧ σ' = ⟨[(0,.list (.bytes a0)),(5,.bool v5),(6,.ptr 6 0),(8,.bool v8),(12,.sl 1104 0)],[(6,.box [.i v6,.i v7]),(1104,.arr 44 0 0 (.rats v14))]⟩ | (.inr r) => e = .ret ∧ K171 r σ') hk28 rfl rfl ?_ ?_
         ·intro v23 x hs
          clear h
          have h := hs
          clear hs
          refine Tri.f 1 [] [.keep [0,5,6,8,12,13,106] [6,1104]] rfl trivial ?_
          rcases bif_some h with ⟨hd23,h⟩ | ⟨hd23,h⟩
          ·obtain ⟨hg24,h⟩ := grd_some h
           obtain ⟨hg25,h⟩ := grd_some h
           obtain ⟨v24,hk26,h⟩ := bind_some h
           refine Tri.f 2 [.g true,.v (.i v24)] [.keep [0,5,6,8,12,13,119] [6,1104]] rfl ⟨fun _ => W54 ((v14.getD ((IntKind.i64.wrap (v23 - 1)).toNat) ⟨0,0⟩).num) ((v14.getD ((IntKind.i64.wrap (v23 - 1)).toNat) ⟨0,0⟩).den) ((v14.getD v23.toNat ⟨0,0⟩).num) ((v14.getD v23.toNat ⟨0,0⟩).den) v24 hk26,hg25,hg24,hd23,trivial⟩ ?_
           rcases bif_some h with ⟨hd27,h⟩ | ⟨hd27,h⟩
           ·refine Tri.f 2 [.g true] [.keep [2] []] rfl ⟨hd27,trivial⟩ ?_
            cases h
            exact Tri.ret rfl ⟨nofun,rfl,rfl,rfl⟩
           ·refine Tri.f 2 [.g false] [.keep [0,5,6,8,12,13] [6,1104]] rfl ⟨hd27,trivial⟩ ?_
            cases h
            exact Tri.nil ⟨rfl,rfl⟩
          ·refine Tri.f 1 [.g false] [.keep [0,5,6,8,12] [6,1104]] rfl ⟨hd23,trivial⟩ ?_
           cases h
           exact Tri.out 0 rfl ⟨nofun,rfl,rfl⟩
         ·intro e σ' hne hq
          rcases x1 with _ | r
          ·obtain ⟨rfl,rfl⟩ := hq
           refine TriX.exit (K' := [.code [] 9]) rfl ?_
           rcases bif_some h with ⟨hd29,h⟩ | ⟨hd29,h⟩
           ·rcases bif_some h with ⟨hd30,h⟩ | ⟨hd30,h⟩
            ·refine Tri.f 1 [.g true,.g true,.g true] [.keep [0,139] []] rfl ⟨rfl,hd30,hd29,trivial⟩ ?_
             refine Tri.f 2 [.g true] [.keep [2] []] rfl ⟨rfl,trivial⟩ ?_
             cases h
             exact Tri.ret rfl ⟨.inl rfl,rfl,rfl⟩
            ·rcases bif_some h with ⟨hd31,h⟩ | ⟨hd31,h⟩
             ·refine Tri.f 1 [.g true,.g false,.g true] [.keep [0,139] []] rfl ⟨hd31,hd30,hd29,trivial⟩ ?_
              refine Tri.f 2 [.g true] [.keep [2] []] rfl ⟨rfl,trivial⟩ ?_
              cases h
              exact Tri.ret rfl ⟨.inl rfl,rfl,rfl⟩
             ·obtain ⟨hg32,h⟩ := grd_some h
              refine Tri.f 1 [.g true,.g false,.g false] [.keep [0,139] []] rfl ⟨hg32,hd31,hd30,hd29,trivial⟩ ?_
              rcases bif_some h with ⟨hd33,h⟩ | ⟨hd33,h⟩
              ·refine Tri.f 2 [.g true] [.keep [2] []] rfl ⟨hd33,trivial⟩ ?_
               cases h
               exact Tri.ret rfl ⟨.inl rfl,rfl,rfl⟩
              ·obtain ⟨⟨v25,v26⟩,hk34,h⟩ := bind_some h
               refine Tri.f 2 [.g false,.r ⟨[],.tuple [.sl 1106 0,.sl 1107 0],[(1106,.arr 44 0 0 (.rats v25)),(1107,.arr 44 0 0 (.rats v26))]⟩] [.keep [0,14,15] [1106,1107]] rfl ⟨fun _ => ((W78 a0 (v25,v26) hk34).swap 1000 1106).swap 1001 1107,hd33,trivial⟩ ?_
               obtain ⟨⟨v27,v28⟩,hk35,h⟩ := bind_some h
               obtain ⟨⟨v29,v30,v31⟩,hk36,h⟩ := bind_some h
               refine Tri.f 2 [.r ⟨[],.tuple [.sl 1108 0,.i v27],[(1108,.arr 44 0 0 (.rats v28))]⟩,.v (.tuple [.agg [.i v29,.i v30],.bool v31])] [.keep [0,14,15,16,17,18,19] [18,1106,1107,1108]] rfl ⟨fun _ => W44 v28 v27 (v29,v30,v31) hk36,fun _ => (W81 a0 (v27,v28) hk35).swap 1000 1108,trivial⟩ ?_
               obtain ⟨⟨v32,v33,v34⟩,hk37,h⟩ := bind_some h
               refine Tri.f 1 [.v (.tuple [.agg [.i v32,.i v33],.bool v34])] [.keep [0,14,15,18,19,20,21] [18,20,1106,1107],.give [],.keep [0,14,15,18,19,20,21] []] rfl ⟨fun _ => W61 v28 v27 (v32,v33,v34) hk37,trivial⟩ ?_
               obtain ⟨⟨v35,v36,v37,v38⟩,hk38,h⟩ := bind_some h
               obtain ⟨⟨v39,v40,v41⟩,hk39,h⟩ := bind_some h
               refine Tri.f 2 [.v (.tuple [.agg [.i v35,.list (.ints v36)],.list (.rats v37),.i v38]),.v (.tuple [.agg [.i v39,.i v40],.bool v41])] [.keep [14,15,18,19,20,21,22,23,24,25,26] [22,25]] rfl ⟨fun _ => W48 v35 v36 v37 v38 (v39,v40,v41) hk39,fun _ => W83 a0 (v35,v36,v37,v38) hk38,trivial⟩ ?_
               obtain ⟨⟨v42,v43,v44⟩,hk40,h⟩ := bind_some h
               rcases bif_some h with ⟨hd41,h⟩ | ⟨hd41,h⟩
               ·rcases bif_some h with ⟨hd42,h⟩ | ⟨hd42,h⟩
                ·rcases bif_some h with ⟨hd43,h⟩ | ⟨hd43,h⟩
                 ·rcases bif_some h with ⟨hd44,h⟩ | ⟨hd44,h⟩
                  ·obtain ⟨v45,hk45,h⟩ := bind_some h
                   obtain ⟨v46,hk46,h⟩ := bind_some h
                   refine Tri.f 2 [.v (.tuple [.agg [.i v42,.i v43],.bool v44]),.g true,.g true,.g true,.g true,.v (.i v45),.v (.i v46)] [.keep [2] []] rfl ⟨fun _ => W85 v25 v26 v46 hk46,fun _ => W84 v25 v26 v45 hk45,hd44,hd43,hd42,hd41,fun _ => W64 v35 v36 v37 v38 (v42,v43,v44) hk40,trivial⟩ ?_
                   cases h
                   exact Tri.ret rfl ⟨.inl rfl,rfl,rfl⟩
                  ·refine Tri.f 2 [.v (.tuple [.agg [.i v42,.i v43],.bool v44]),.g true,.g true,.g true,.g false] [.keep [2] []] rfl ⟨hd44,hd43,hd42,hd41,fun _ => W64 v35 v36 v37 v38 (v42,v43,v44) hk40,trivial⟩ ?_
                   cases h
                   exact Tri.ret rfl ⟨.inl rfl,rfl,rfl⟩
                 ·refine Tri.f 2 [.v (.tuple [.agg [.i v42,.i v43],.bool v44]),.g true,.g true,.g false,.g false] [.keep [2] []] rfl ⟨rfl,hd43,hd42,hd41,fun _ => W64 v35 v36 v37 v38 (v42,v43,v44) hk40,trivial⟩ ?_
                  cases h
                  exact Tri.ret rfl ⟨.inl rfl,rfl,rfl⟩
                ·refine Tri.f 2 [.v (.tuple [.agg [.i v42,.i v43],.bool v44]),.g true,.g false,.g false,.g false] [.keep [2] []] rfl ⟨rfl,rfl,hd42,hd41,fun _ => W64 v35 v36 v37 v38 (v42,v43,v44) hk40,trivial⟩ ?_
                 cases h
                 exact Tri.ret rfl ⟨.inl rfl,rfl,rfl⟩
               ·refine Tri.f 2 [.v (.tuple [.agg [.i v42,.i v43],.bool v44]),.g false,.g false,.g false,.g false] [.keep [2] []] rfl ⟨rfl,rfl,rfl,hd41,fun _ => W64 v35 v36 v37 v38 (v42,v43,v44) hk40,trivial⟩ ?_
                cases h
                exact Tri.ret rfl ⟨.inl rfl,rfl,rfl⟩
           ·refine Tri.f 1 [.g false] [.keep [0,139] []] rfl ⟨hd29,trivial⟩ ?_
            obtain ⟨⟨v47,v48⟩,hk47,h⟩ := bind_some h
            refine Tri.f 2 [.g false,.r ⟨[],.tuple [.sl 1109 0,.sl 1110 0],[(1109,.arr 44 0 0 (.rats v47)),(1110,.arr 44 0 0 (.rats v48))]⟩] [.keep [0,14,15] [1109,1110]] rfl ⟨fun _ => ((W78 a0 (v47,v48) hk47).swap 1000 1109).swap 1001 1110,rfl,trivial⟩ ?_
            obtain ⟨⟨v49,v50⟩,hk48,h⟩ := bind_some h
            obtain ⟨⟨v51,v52,v53⟩,hk49,h⟩ := bind_some h
            refine Tri.f 2 [.r ⟨[],.tuple [.sl 1111 0,.i v49],[(1111,.arr 44 0 0 (.rats v50))]⟩,.v (.tuple [.agg [.i v51,.i v52],.bool v53])] [.keep [0,14,15,16,17,18,19] [18,1109,1110,1111]] rfl ⟨fun _ => W44 v50 v49 (v51,v52,v53) hk49,fun _ => (W81 a0 (v49,v50) hk48).swap 1000 1111,trivial⟩ ?_
            obtain ⟨⟨v54,v55,v56⟩,hk50,h⟩ := bind_some h
            refine Tri.f 1 [.v (.tuple [.agg [.i v54,.i v55],.bool v56])] [.keep [0,14,15,18,19,20,21] [18,20,1109,1110],.give [],.keep [0,14,15,18,19,20,21] []] rfl ⟨fun _ => W61 v50 v49 (v54,v55,v56) hk50,trivial⟩ ?_
            obtain ⟨⟨v57,v58,v59,v60⟩,hk51,h⟩ := bind_some h
            obtain ⟨⟨v61,v62,v63⟩,hk52,h⟩ := bind_some h
            refine Tri.f 2 [.v (.tuple [.agg [.i v57,.list (.ints v58)],.list (.rats v59),.i v60]),.v (.tuple [.agg [.i v61,.i v62],.bool v63])] [.keep [14,15,18,19,20,21,22,23,24,25,26] [22,25]] rfl ⟨fun _ => W48 v57 v58 v59 v60 (v61,v62,v63) hk52,fun _ => W83 a0 (v57,v58,v59,v60) hk51,trivial⟩ ?_
            obtain ⟨⟨v64,v65,v66⟩,hk53,h⟩ := bind_some h
            rcases bif_some h with ⟨hd54,h⟩ | ⟨hd54,h⟩
            ·rcases bif_some h with ⟨hd55,h⟩ | ⟨hd55,h⟩
             ·rcases bif_some h with ⟨hd56,h⟩ | ⟨hd56,h⟩
              ·rcases bif_some h with ⟨hd57,h⟩ | ⟨hd57,h⟩
               ·obtain ⟨v67,hk58,h⟩ := bind_some h
                obtain ⟨v68,hk59,h⟩ := bind_some h
                refine Tri.f 2 [.v (.tuple [.agg [.i v64,.i v65],.bool v66]),.g true,.g true,.g true,.g true,.v (.i v67),.v (.i v68)] [.keep [2] []] rfl ⟨fun _ => W85 v47 v48 v68 hk59,fun _ => W84 v47 v48 v67 hk58,hd57,hd56,hd55,hd54,fun _ => W64 v57 v58 v59 v60 (v64,v65,v66) hk53,trivial⟩ ?_
                cases h
                exact Tri.ret rfl ⟨.inl rfl,rfl,rfl⟩
               ·refine Tri.f 2 [.v (.tuple [.agg [.i v64,.i v65],.bool v66]),.g true,.g true,.g true,.g false] [.keep [2] []] rfl ⟨hd57,hd56,hd55,hd54,fun _ => W64 v57 v58 v59 v60 (v64,v65,v66) hk53,trivial⟩ ?_
                cases h
                exact Tri.ret rfl ⟨.inl rfl,rfl,rfl⟩
              ·refine Tri.f 2 [.v (.tuple [.agg [.i v64,.i v65],.bool v66]),.g true,.g true,.g false,.g false] [.keep [2] []] rfl ⟨rfl,hd56,hd55,hd54,fun _ => W64 v57 v58 v59 v60 (v64,v65,v66) hk53,trivial⟩ ?_
               cases h
               exact Tri.ret rfl ⟨.inl rfl,rfl,rfl⟩
             ·refine Tri.f 2 [.v (.tuple [.agg [.i v64,.i v65],.bool v66]),.g true,.g false,.g false,.g false] [.keep [2] []] rfl ⟨rfl,rfl,hd55,hd54,fun _ => W64 v57 v58 v59 v60 (v64,v65,v66) hk53,trivial⟩ ?_
              cases h
              exact Tri.ret rfl ⟨.inl rfl,rfl,rfl⟩
            ·refine Tri.f 2 [.v (.tuple [.agg [.i v64,.i v65],.bool v66]),.g false,.g false,.g false,.g false] [.keep [2] []] rfl ⟨rfl,rfl,rfl,hd54,fun _ => W64 v57 v58 v59 v60 (v64,v65,v66) hk53,trivial⟩ ?_
             cases h
             exact Tri.ret rfl ⟨.inl rfl,rfl,rfl⟩
          ·obtain ⟨rfl,hq⟩ := hq
           cases h
           exact TriX.ret ⟨.inl rfl,hq⟩
end Go.Proofs.Ytnbkkljhdnkiaaa
