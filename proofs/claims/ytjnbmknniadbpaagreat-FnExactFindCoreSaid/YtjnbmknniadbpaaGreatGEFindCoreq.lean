/- models and walks -/
import Derived.Test.YtjnbmknniadbpaaGreatGEFindCorep
namespace Go.Proofs.YtjnbmknniadbpaaGreat
open Go.AM
set_option maxRecDepth 100000
set_option maxHeartbeats 4000000
noncomputable def E58_laws_markCoreResult : Env := ⟨Tryz.prog,tys,(Tryz.f58.body).getD .skip,14,tysOk,mixedOk⟩
abbrev q_laws_markCoreResult_io2 (r : Int × (List Q) × (List Q)) (σ' : ASt) : Prop := isRes E58_laws_markCoreResult.T Tryz.f58 (.i r.1) [(2200,.arr 31 0 0 (.rats r.2.1)),(2201,.arr 31 0 0 (.rats r.2.2))] σ'
noncomputable def m_laws_markCoreResult_io2 (_a0 : Int) (a1 : List Q) (a2 : List Q) (a3 : Int) : Option (Int × (List Q) × (List Q)) :=
(m_laws_markRatS_io1 a1 a3).bind fun (v1,v2) =>
(m_laws_markRatS_io1 a2 v1).bind fun (v3,v4) =>
some (v3,v2,v4)
theorem w_laws_markCoreResult_io2 (a0 : Int) (a1 : List Q) (a2 : List Q) (a3 : Int) (r : Int × (List Q) × (List Q)) (h : m_laws_markCoreResult_io2 a0 a1 a2 a3 = some r) : AM.Spec Tryz.prog 58 [.agg [.i a0,.sl 2200 0,.sl 2201 0],.i a3] [(2200,.arr 31 0 0 (.rats a1)),(2201,.arr 31 0 0 (.rats a2))] (.i r.1) [(2200,.arr 31 0 0 (.rats r.2.1)),(2201,.arr 31 0 0 (.rats r.2.2))] := by
 refine spec_of (E := E58_laws_markCoreResult) Tryz.func58 rfl rfl rfl rfl ?_
 refine Tri.f 1 [] [.keep [1,2] [2,2200,2201]] rfl trivial ?_
 obtain ⟨⟨v1,v2⟩,hk1,h⟩ := bind_some h
 obtain ⟨⟨v3,v4⟩,hk2,h⟩ := bind_some h
 refine Tri.f 3 [.r ⟨[2200],.i v1,[(2200,.arr 31 0 0 (.rats v2))]⟩,.r ⟨[2201],.i v3,[(2201,.arr 31 0 0 (.rats v4))]⟩] [.keep [4] [2200,2201]] rfl ⟨(fun _ => ((w_laws_markRatS_io1 a2 v1 (v3,v4) hk2).swap 2220 2201)),(fun _ => ((w_laws_markRatS_io1 a1 a3 (v1,v2) hk1).swap 2220 2200)),trivial⟩ ?_
 cases h
 exact Tri.ret rfl ⟨.inl rfl,rfl,rfl⟩
noncomputable def E140_laws_heldRatS : Env := ⟨Tryz.prog,tys,(Tryz.f140.body).getD .skip,31,tysOk,mixedOk⟩
abbrev q_laws_heldRatS (r : Int) (σ' : ASt) : Prop := isRes E140_laws_heldRatS.T Tryz.f140 (.i r) [] σ'
noncomputable def l_laws_heldRatS_0 (a0 : List Q) : (Int × Int) → Option ((Int × Int) ⊕ (Int ⊕ Int))
 | (v1,v2) => (
bif decide (v2 < (a0.length : Int)) then
(grd ((0 : Int) ≤ v2 ∧ v2 < (a0.length : Int)) <|
bif ((a0.getD v2.toNat ⟨0,0⟩).num) != v1 then
(some (.inr (.inr (-1 : Int))))
else
(grd ((0 : Int) ≤ v2 ∧ v2 < (a0.length : Int)) <|
bif ((a0.getD v2.toNat ⟨0,0⟩).den) != (IntKind.i64.wrap (v1 + (1 : Int))) then
(some (.inr (.inr (-1 : Int))))
else
(some (.inl (IntKind.i64.wrap ((IntKind.i64.wrap (v1 + (1 : Int))) + (1 : Int)),IntKind.i64.wrap (v2 + (1 : Int)))))))
else
(some (.inr (.inl v1))))
noncomputable def m_laws_heldRatS (a0 : List Q) (a1 : Int) : Option Int :=
(iter (l_laws_heldRatS_0 a0) (a1,(0 : Int))).bind fun
| (.inl v3) => (
some v3)
| (.inr r) => some r
theorem w_laws_heldRatS (a0 : List Q) (a1 : Int) (r : Int) (h : m_laws_heldRatS a0 a1 = some r) : AM.Spec Tryz.prog 140 [.list (.rats a0),.i a1] [] (.i r) [] := by
 refine spec_of (E := E140_laws_heldRatS) Tryz.func140 rfl rfl rfl rfl ?_
 refine Tri.f 2 [] [.keep [0,1,5] []] rfl trivial ?_
 obtain ⟨x1,hk6,h⟩ := bind_some h
 refine Tri.loop (K1 := [.code [(1,0),(1,0),(0,0)] 0]) (K2 := [.blk 0,.code [] 2]) (fun (v1,v2) => ⟨[(0,.list (.rats a0)),(1,.i v1),(5,.i v2)],[]⟩) (fun x e σ' => match x with | (.inl v3) => e = .exit 0 ∧ σ' = ⟨[(1,.i v3)],[]⟩ | (.inr r) => e = .ret ∧ q_laws_heldRatS r σ') hk6 rfl rfl ?_ ?_
 ·intro s x hs
  clear h
  have h := hs
  clear hs
  obtain ⟨v1,v2⟩ := s
  refine Tri.f 1 [] [.keep [0,1,5,9] []] rfl trivial ?_
  rcases bif_some h with ⟨hd1,h⟩ | ⟨hd1,h⟩
  ·obtain ⟨hg2,h⟩ := grd_some h
   refine Tri.f 2 [.g true] [.keep [0,1,5,18] []] rfl ⟨hg2,hd1,trivial⟩ ?_
   rcases bif_some h with ⟨hd3,h⟩ | ⟨hd3,h⟩
   ·refine Tri.f 2 [.g true] [.keep [4] []] rfl ⟨hd3,trivial⟩ ?_
    cases h
    exact Tri.ret rfl ⟨nofun,rfl,rfl,rfl⟩
   ·obtain ⟨hg4,h⟩ := grd_some h
    refine Tri.f 3 [.g false] [.keep [0,1,5,27] []] rfl ⟨hg4,hd3,trivial⟩ ?_
    rcases bif_some h with ⟨hd5,h⟩ | ⟨hd5,h⟩
    ·refine Tri.f 2 [.g true] [.keep [4] []] rfl ⟨hd5,trivial⟩ ?_
     cases h
     exact Tri.ret rfl ⟨nofun,rfl,rfl,rfl⟩
    ·refine Tri.f 3 [.g false] [.keep [0,1,5] []] rfl ⟨hd5,trivial⟩ ?_
     cases h
     exact Tri.nil ⟨rfl,rfl⟩
  ·refine Tri.f 1 [.g false] [.keep [1] []] rfl ⟨hd1,trivial⟩ ?_
   cases h
   exact Tri.out 0 rfl ⟨nofun,rfl,rfl⟩
 ·intro e σ' hne hq
  rcases x1 with v3 | r
  ·obtain ⟨rfl,rfl⟩ := hq
   refine TriX.exit (K' := [.code [] 2]) rfl ?_
   refine Tri.f 1 [] [.keep [4] []] rfl trivial ?_
   cases h
   exact Tri.ret rfl ⟨.inl rfl,rfl,rfl⟩
  ·obtain ⟨rfl,hq⟩ := hq
   cases h
   exact TriX.ret ⟨.inl rfl,hq⟩
noncomputable def E59_laws_heldCoreResult : Env := ⟨Tryz.prog,tys,(Tryz.f59.body).getD .skip,18,tysOk,mixedOk⟩
abbrev q_laws_heldCoreResult (r : Int) (σ' : ASt) : Prop := isRes E59_laws_heldCoreResult.T Tryz.f59 (.i r) [] σ'
noncomputable def m_laws_heldCoreResult (_a0 : Int) (a1 : List Q) (a2 : List Q) (a3 : Int) : Option Int :=
(m_laws_heldRatS a1 a3).bind fun v1 =>
bif decide (v1 < (0 : Int)) then
(some (-1 : Int))
else
((m_laws_heldRatS a2 v1).bind fun v2 =>
bif decide (v2 < (0 : Int)) then
(some (-1 : Int))
else
(some v2))
theorem w_laws_heldCoreResult (a0 : Int) (a1 : List Q) (a2 : List Q) (a3 : Int) (r : Int) (h : m_laws_heldCoreResult a0 a1 a2 a3 = some r) : AM.Spec Tryz.prog 59 [.agg [.i a0,.list (.rats a1),.list (.rats a2)],.i a3] [] (.i r) [] := by
 refine spec_of (E := E59_laws_heldCoreResult) Tryz.func59 rfl rfl rfl rfl ?_
 refine Tri.f 1 [] [.keep [1,2] [2]] rfl trivial ?_
 obtain ⟨v1,hk1,h⟩ := bind_some h
 refine Tri.f 2 [.r ⟨[],.i v1,[]⟩] [.keep [1,2,10] [2]] rfl ⟨(fun _ => (w_laws_heldRatS a1 a3 v1 hk1)),trivial⟩ ?_
 rcases bif_some h with ⟨hd2,h⟩ | ⟨hd2,h⟩
 ·refine Tri.f 2 [.g true] [.keep [4] []] rfl ⟨hd2,trivial⟩ ?_
  cases h
  exact Tri.ret rfl ⟨.inl rfl,rfl,rfl⟩
 ·obtain ⟨v2,hk3,h⟩ := bind_some h
  refine Tri.f 3 [.g false,.r ⟨[],.i v2,[]⟩] [.keep [1,16] []] rfl ⟨(fun _ => (w_laws_heldRatS a2 v1 v2 hk3)),hd2,trivial⟩ ?_
  rcases bif_some h with ⟨hd4,h⟩ | ⟨hd4,h⟩
  ·refine Tri.f 2 [.g true] [.keep [4] []] rfl ⟨hd4,trivial⟩ ?_
   cases h
   exact Tri.ret rfl ⟨.inl rfl,rfl,rfl⟩
  ·refine Tri.f 2 [.g false] [.keep [4] []] rfl ⟨hd4,trivial⟩ ?_
   cases h
   exact Tri.ret rfl ⟨.inl rfl,rfl,rfl⟩
noncomputable def E7_laws_FnExactFindCore : Env := ⟨Tryz.prog,tys,(Tryz.f7.body).getD .skip,69,tysOk,mixedOk⟩
abbrev q_laws_FnExactFindCore (r : Bool) (σ' : ASt) : Prop := isRes E7_laws_FnExactFindCore.T Tryz.f7 (.bool r) [] σ'
noncomputable def m_laws_FnExactFindCore (a0 : Int) (a1 : List Int) : Option Bool :=
(m_laws_szGame a0 a1 (1048576 : Int)).bind fun v1 =>
bif decide (v1 < (0 : Int)) then
(some true)
else
((m_laws_toGame a0 a1).bind fun (v2,v3) =>
(m_spec_FindCore v2 v3).bind fun (v4,v5,v6) =>
(m_laws_toGame a0 a1).bind fun (v7,v8) =>
(m_impl_FindCore v7 v8).bind fun (v9,v10,v11) =>
(m_laws_eqCoreResult v9 v10 v11 v4 v5 v6).bind fun v12 =>
bif !v12 then
(some false)
else
((m_laws_toGame a0 a1).bind fun (v13,v14) =>
(m_laws_eqGame v7 v8 v13 v14).bind fun v15 =>
bif !v15 then
(some false)
else
((m_laws_markGame_io1 v7 v8 (1 : Int)).bind fun (v16,_) =>
bif decide (v16 < (0 : Int)) then
(some false)
else
((m_laws_eqCoreResult v9 v10 v11 v4 v5 v6).bind fun v18 =>
bif !v18 then
(some false)
else
((m_laws_markCoreResult_io2 v9 v10 v11 (1 : Int)).bind fun (v19,v20,v21) =>
(m_laws_heldCoreResult v9 v20 v21 (1 : Int)).bind fun v22 =>
bif decide (v22 < (0 : Int)) then
(some false)
else
(bif v22 != v19 then
(some false)
else
((m_laws_toGame a0 a1).bind fun (v23,v24) =>
(m_impl_FindCore v23 v24).bind fun (v25,v26,v27) =>
(m_laws_eqCoreResult v25 v26 v27 v4 v5 v6).bind fun v28 =>
bif !v28 then
(some false)
else
((m_laws_heldCoreResult v9 v20 v21 (1 : Int)).bind fun v29 =>
bif decide (v29 < (0 : Int)) then
(some false)
else
(bif v29 != v19 then
(some false)
else
(some true))))))))))
theorem w_laws_FnExactFindCore (a0 : Int) (a1 : List Int) (r : Bool) (h : m_laws_FnExactFindCore a0 a1 = some r) : AM.Spec Tryz.prog 7 [.agg [.i a0,.list (.ints a1)]] [] (.bool r) [] := by
 refine spec_of (E := E7_laws_FnExactFindCore) Tryz.func7 rfl rfl rfl rfl ?_
 refine Tri.f 2 [] [.keep [1,3] [1]] rfl trivial ?_
 obtain ⟨v1,hk1,h⟩ := bind_some h
 refine Tri.f 2 [.r ⟨[],.i v1,[]⟩] [.keep [1,15] [1]] rfl ⟨(fun _ => (w_laws_szGame a0 a1 (1048576 : Int) v1 hk1)),trivial⟩ ?_
 rcases bif_some h with ⟨hd2,h⟩ | ⟨hd2,h⟩
 ·refine Tri.f 2 [.g true] [.keep [2] []] rfl ⟨hd2,trivial⟩ ?_
  cases h
  exact Tri.ret rfl ⟨.inl rfl,rfl,rfl⟩
 ·obtain ⟨⟨v2,v3⟩,hk3,h⟩ := bind_some h
  obtain ⟨⟨v4,v5,v6⟩,hk4,h⟩ := bind_some h
  refine Tri.f 2 [.g false,.r ⟨[],.agg [.i v2,.sl 1100 0],[(1100,.arr 3 0 0 (.ints v3))]⟩,.r ⟨[],.agg [.i v4,.sl 1101 0,.sl 1102 0],[(1101,.arr 31 0 0 (.rats v5)),(1102,.arr 31 0 0 (.rats v6))]⟩] [.keep [1,4] [1,4,1101,1102]] rfl ⟨(fun _ => (((w_spec_FindCore v2 v3 (v4,v5,v6) hk4).swap 1000 1101).swap 1001 1102)),(fun _ => ((w_laws_toGame a0 a1 (v2,v3) hk3).swap 1000 1100)),hd2,trivial⟩ ?_
  obtain ⟨⟨v7,v8⟩,hk5,h⟩ := bind_some h
  obtain ⟨⟨v9,v10,v11⟩,hk6,h⟩ := bind_some h
  refine Tri.f 2 [.r ⟨[],.agg [.i v7,.sl 1103 0],[(1103,.arr 3 0 0 (.ints v8))]⟩,.r ⟨[],.agg [.i v9,.sl 1104 0,.sl 1105 0],[(1104,.arr 31 0 0 (.rats v10)),(1105,.arr 31 0 0 (.rats v11))]⟩] [.keep [1,4,5,6] [1,4,5,6,1101,1102,1103,1104,1105]] rfl ⟨(fun _ => (((w_impl_FindCore v7 v8 (v9,v10,v11) hk6).swap 1000 1104).swap 1001 1105)),(fun _ => ((w_laws_toGame a0 a1 (v7,v8) hk5).swap 1000 1103)),trivial⟩ ?_
  obtain ⟨v12,hk7,h⟩ := bind_some h
  refine Tri.f 1 [.r ⟨[],.bool v12,[]⟩] [.keep [1,4,5,6,26] [1,4,5,6,1101,1102,1103,1104,1105]] rfl ⟨(fun _ => (w_laws_eqCoreResult v9 v10 v11 v4 v5 v6 v12 hk7)),trivial⟩ ?_
  rcases bif_some h with ⟨hd8,h⟩ | ⟨hd8,h⟩
  ·refine Tri.f 2 [.g true] [.keep [2] []] rfl ⟨hd8,trivial⟩ ?_
   cases h
   exact Tri.ret rfl ⟨.inl rfl,rfl,rfl⟩
  ·obtain ⟨⟨v13,v14⟩,hk9,h⟩ := bind_some h
   obtain ⟨v15,hk10,h⟩ := bind_some h
   refine Tri.f 2 [.g false,.r ⟨[],.agg [.i v13,.sl 1106 0],[(1106,.arr 3 0 0 (.ints v14))]⟩,.r ⟨[],.bool v15,[]⟩] [.keep [1,4,5,6,31] [1,4,5,6,1101,1102,1103,1104,1105]] rfl ⟨(fun _ => (w_laws_eqGame v7 v8 v13 v14 v15 hk10)),(fun _ => ((w_laws_toGame a0 a1 (v13,v14) hk9).swap 1000 1106)),hd8,trivial⟩ ?_
   rcases bif_some h with ⟨hd11,h⟩ | ⟨hd11,h⟩
   ·refine Tri.f 2 [.g true] [.keep [2] []] rfl ⟨hd11,trivial⟩ ?_
    cases h
    exact Tri.ret rfl ⟨.inl rfl,rfl,rfl⟩
   ·refine Tri.f 2 [.g false] [.keep [1,4,5,6,7] [1,4,5,6,1101,1102,1103,1104,1105]] rfl ⟨hd11,trivial⟩ ?_
    obtain ⟨⟨v16,v17⟩,hk12,h⟩ := bind_some h
    rcases bif_some h with ⟨hd13,h⟩ | ⟨hd13,h⟩
    ·refine Tri.f 2 [.r ⟨[1103],.i v16,[(1103,.arr 3 0 0 (.ints v17))]⟩,.g true] [.keep [1,4,6,42] [1,4,6,1101,1102,1104,1105]] rfl ⟨hd13,(fun _ => ((w_laws_markGame_io1 v7 v8 (1 : Int) (v16,v17) hk12).swap 2160 1103)),trivial⟩ ?_
     refine Tri.f 2 [.g true] [.keep [2] []] rfl ⟨rfl,trivial⟩ ?_
     cases h
     exact Tri.ret rfl ⟨.inl rfl,rfl,rfl⟩
    ·obtain ⟨v18,hk14,h⟩ := bind_some h
     refine Tri.f 2 [.r ⟨[1103],.i v16,[(1103,.arr 3 0 0 (.ints v17))]⟩,.g false,.r ⟨[],.bool v18,[]⟩] [.keep [1,4,6,42] [1,4,6,1101,1102,1104,1105]] rfl ⟨(fun _ => (w_laws_eqCoreResult v9 v10 v11 v4 v5 v6 v18 hk14)),hd13,(fun _ => ((w_laws_markGame_io1 v7 v8 (1 : Int) (v16,v17) hk12).swap 2160 1103)),trivial⟩ ?_
     rcases bif_some h with ⟨hd15,h⟩ | ⟨hd15,h⟩
     ·refine Tri.f 2 [.g true] [.keep [2] []] rfl ⟨hd15,trivial⟩ ?_
      cases h
      exact Tri.ret rfl ⟨.inl rfl,rfl,rfl⟩
     ·refine Tri.f 2 [.g false] [.keep [1,4,6,8] [1,4,6,1101,1102,1104,1105]] rfl ⟨hd15,trivial⟩ ?_
      obtain ⟨⟨v19,v20,v21⟩,hk16,h⟩ := bind_some h
      refine Tri.f 2 [.r ⟨[1104,1105],.i v19,[(1104,.arr 31 0 0 (.rats v20)),(1105,.arr 31 0 0 (.rats v21))]⟩] [.keep [1,4,6,8,9] [1,4,6,1101,1102,1104,1105]] rfl ⟨(fun _ => (((w_laws_markCoreResult_io2 v9 v10 v11 (1 : Int) (v19,v20,v21) hk16).swap 2200 1104).swap 2201 1105)),trivial⟩ ?_
      obtain ⟨v22,hk17,h⟩ := bind_some h
      refine Tri.f 2 [.r ⟨[],.i v22,[]⟩] [.keep [1,4,6,8,9,50] [1,4,6,1101,1102,1104,1105]] rfl ⟨(fun _ => (w_laws_heldCoreResult v9 v20 v21 (1 : Int) v22 hk17)),trivial⟩ ?_
      rcases bif_some h with ⟨hd18,h⟩ | ⟨hd18,h⟩
      ·refine Tri.f 2 [.g true] [.keep [2] []] rfl ⟨hd18,trivial⟩ ?_
       cases h
       exact Tri.ret rfl ⟨.inl rfl,rfl,rfl⟩
      ·refine Tri.f 2 [.g false] [.keep [1,4,6,8,53] [1,4,6,1101,1102,1104,1105]] rfl ⟨hd18,trivial⟩ ?_
       rcases bif_some h with ⟨hd19,h⟩ | ⟨hd19,h⟩
       ·refine Tri.f 2 [.g true] [.keep [2] []] rfl ⟨hd19,trivial⟩ ?_
        cases h
        exact Tri.ret rfl ⟨.inl rfl,rfl,rfl⟩
       ·obtain ⟨⟨v23,v24⟩,hk20,h⟩ := bind_some h
        obtain ⟨⟨v25,v26,v27⟩,hk21,h⟩ := bind_some h
        refine Tri.f 2 [.g false,.r ⟨[],.agg [.i v23,.sl 1107 0],[(1107,.arr 3 0 0 (.ints v24))]⟩,.r ⟨[],.agg [.i v25,.sl 1108 0,.sl 1109 0],[(1108,.arr 31 0 0 (.rats v26)),(1109,.arr 31 0 0 (.rats v27))]⟩] [.keep [4,6,8,10] [4,6,10,1101,1102,1104,1105,1108,1109]] rfl ⟨(fun _ => (((w_impl_FindCore v23 v24 (v25,v26,v27) hk21).swap 1000 1108).swap 1001 1109)),(fun _ => ((w_laws_toGame a0 a1 (v23,v24) hk20).swap 1000 1107)),hd19,trivial⟩ ?_
        obtain ⟨v28,hk22,h⟩ := bind_some h
        refine Tri.f 1 [.r ⟨[],.bool v28,[]⟩] [.keep [6,8,60] [6,1104,1105]] rfl ⟨(fun _ => (w_laws_eqCoreResult v25 v26 v27 v4 v5 v6 v28 hk22)),trivial⟩ ?_
        rcases bif_some h with ⟨hd23,h⟩ | ⟨hd23,h⟩
        ·refine Tri.f 2 [.g true] [.keep [2] []] rfl ⟨hd23,trivial⟩ ?_
         cases h
         exact Tri.ret rfl ⟨.inl rfl,rfl,rfl⟩
        ·refine Tri.f 2 [.g false] [.keep [6,8,9] [6,1104,1105]] rfl ⟨hd23,trivial⟩ ?_
         obtain ⟨v29,hk24,h⟩ := bind_some h
         refine Tri.f 2 [.r ⟨[],.i v29,[]⟩] [.keep [8,9,65] []] rfl ⟨(fun _ => (w_laws_heldCoreResult v9 v20 v21 (1 : Int) v29 hk24)),trivial⟩ ?_
         rcases bif_some h with ⟨hd25,h⟩ | ⟨hd25,h⟩
         ·refine Tri.f 2 [.g true] [.keep [2] []] rfl ⟨hd25,trivial⟩ ?_
          cases h
          exact Tri.ret rfl ⟨.inl rfl,rfl,rfl⟩
         ·refine Tri.f 2 [.g false] [.keep [68] []] rfl ⟨hd25,trivial⟩ ?_
          rcases bif_some h with ⟨hd26,h⟩ | ⟨hd26,h⟩
          ·refine Tri.f 2 [.g true] [.keep [2] []] rfl ⟨hd26,trivial⟩ ?_
           cases h
           exact Tri.ret rfl ⟨.inl rfl,rfl,rfl⟩
          ·refine Tri.f 2 [.g false] [.keep [2] []] rfl ⟨hd26,trivial⟩ ?_
           cases h
           exact Tri.ret rfl ⟨.inl rfl,rfl,rfl⟩
end Go.Proofs.YtjnbmknniadbpaaGreat
