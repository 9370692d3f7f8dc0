/- models and walks -/
import Derived.Test.YtbkpiknmlomjnaaGreatGSimplex
namespace Go.Proofs.YtbkpiknmlomjnaaGreat
open Go.AM
set_option maxRecDepth 100000
set_option maxHeartbeats 4000000
noncomputable def E300 : Env := ⟨Tryz.prog,tys,(Tryz.f16.body).getD .skip,200,tysOk,mixedOk⟩
abbrev K185 (r : Bool) (σ' : ASt) : Prop := isRes E300.T Tryz.f16 (.bool r) [] σ'
noncomputable def l_impl_CheckLP_0 (a0 : List (List Int)) (a1 : List Int) (a2 a5 : List Q) (v3 : Int) : Option (Int ⊕ (Unit ⊕ Bool)) :=
bif decide (v3 < (a2.length : Int)) then
(grd (0 ≤ v3 ∧ v3 < (a2.length : Int)) <|
(m_impl_column a0 a1 a2 v3).bind fun v4 =>
(m_impl_rats v4).bind fun v5 =>
(m_impl_DotRat a5 v5).bind fun (v6,v7,v8) =>
(m_impl_SubRat ((a2.getD v3.toNat ⟨0,0⟩).num) ((a2.getD v3.toNat ⟨0,0⟩).den) v6 v7).bind fun (v9,_,v11) =>
bif !v8 then
(some (.inr (.inr false)))
else
(bif !v11 then
(some (.inr (.inr false)))
else
(bif decide (v9 < 0) then
(some (.inr (.inr false)))
else
(some (.inl (IntKind.i64.wrap (v3 + 1)))))))
else
(some (.inr (.inl ())))
noncomputable def l_impl_CheckLP_1 (a0 : List (List Int)) (a1 : List Int) (a2 a5 : List Q) (v19 : Int) : Option (Int ⊕ (Unit ⊕ Bool)) :=
bif decide (v19 < (a2.length : Int)) then
((m_impl_column a0 a1 a2 v19).bind fun v20 =>
(m_impl_rats v20).bind fun v21 =>
(m_impl_DotRat a5 v21).bind fun (v22,_,v24) =>
bif !v24 then
(some (.inr (.inr false)))
else
(bif decide (v22 > 0) then
(some (.inr (.inr false)))
else
(some (.inl (IntKind.i64.wrap (v19 + 1))))))
else
(some (.inr (.inl ())))
noncomputable def m_impl_CheckLP (a0 : List (List Int)) (a1 : List Int) (a2 : List Q) (a3 : Int) (a4 a5 a6 : List Q) (a7 a8 _a9 : Int) : Option Bool :=
(m_impl_IsValidLP a0 a1 a2).bind fun v1 =>
bif !v1 then
(some false)
else
(bif a3 == 1 then
((m_impl_IsFeasible a0 a1 a2 a4).bind fun v2 =>
bif !v2 then
(some false)
else
(bif (a5.length : Int) != (a1.length : Int) then
(some false)
else
((iter (l_impl_CheckLP_0 a0 a1 a2 a5) (0 : Int)).bind fun
| (.inl _) => (
(m_impl_DotRat a2 a4).bind fun (v12,v13,v14) =>
(m_impl_rats a1).bind fun v15 =>
(m_impl_DotRat a5 v15).bind fun (v16,v17,v18) =>
bif v14 then
(bif v18 then
(bif v12 == v16 && v13 == v17 then
(some (v12 == a7 && v13 == a8))
else
(some false))
else
(some false))
else
(some false))
| (.inr r) => some r)))
else
(bif a3 == 2 then
(bif (a5.length : Int) != (a1.length : Int) then
(some false)
else
((iter (l_impl_CheckLP_1 a0 a1 a2 a5) (0 : Int)).bind fun
| (.inl _) => (
(m_impl_rats a1).bind fun v25 =>
(m_impl_DotRat a5 v25).bind fun (v26,_,v28) =>
bif v28 then
(some (decide (v26 > 0)))
else
(some false))
| (.inr r) => some r))
else
(bif a3 == 3 then
((m_impl_IsFeasible a0 a1 a2 a4).bind fun v29 =>
bif !v29 then
(some false)
else
((m_impl_notNegative a6 (a2.length : Int)).bind fun v30 =>
bif !v30 then
(some false)
else
(grd ((0 : Int) ≤ (a1.length : Int) ∧ (a1.length : Int) = (a1.length : Int) ∧ (a1.length : Int) ≤ (room : Int)) <|
(m_impl_gives a0 a1 a2 a6 (List.replicate (a1.length : Int).toNat (0 : Int))).bind fun v31 =>
bif !v31 then
(some false)
else
((m_impl_DotRat a2 a6).bind fun (v32,_,v34) =>
bif v34 then
(some (decide (v32 < 0)))
else
(some false)))))
else
(some false))))
theorem W67 (a0 : List (List Int)) (a1 : List Int) (a2 : List Q) (a3 : Int) (a4 a5 a6 : List Q) (a7 a8 a9 : Int) (r : Bool) (h : m_impl_CheckLP a0 a1 a2 a3 a4 a5 a6 a7 a8 a9 = some r) : AM.Spec Tryz.prog 16 [.agg [.list (.intss a0),.list (.ints a1),.list (.rats a2)],.agg [.i a3,.list (.rats a4),.list (.rats a5),.list (.rats a6),.i a7,.i a8,.i a9]] [] (.bool r) [] := by
 refine spec_of (E := E300) Tryz.func16 rfl rfl rfl rfl ?_
 refine Tri.f 1 [] [.keep [2,3] [2,3]] rfl trivial ?_
 obtain ⟨v1,hk1,h⟩ := bind_some h
 refine Tri.f 1 [.v (.bool v1)] [.keep [2,3,24] [2,3]] rfl ⟨fun _ => W26 a0 a1 a2 v1 hk1,trivial⟩ ?_
 rcases bif_some h with ⟨hd2,h⟩ | ⟨hd2,h⟩
 ·refine Tri.f 2 [.g true] [.keep [4] []] rfl ⟨hd2,trivial⟩ ?_
  cases h
  exact Tri.ret rfl ⟨.inl rfl,rfl,rfl⟩
 ·refine Tri.f 3 [.g false] [.keep [2,3,26,27] [2,3]] rfl ⟨hd2,trivial⟩ ?_
  rcases bif_some h with ⟨hd3,h⟩ | ⟨hd3,h⟩
  ·obtain ⟨v2,hk4,h⟩ := bind_some h
   rcases bif_some h with ⟨hd5,h⟩ | ⟨hd5,h⟩
   ·refine Tri.f 2 [.g true,.v (.bool v2),.g true] [.keep [2,3,42] [2,3]] rfl ⟨hd5,fun _ => W65 a0 a1 a2 a4 v2 hk4,hd3,trivial⟩ ?_
    refine Tri.f 2 [.g true] [.keep [4] []] rfl ⟨rfl,trivial⟩ ?_
    cases h
    exact Tri.ret rfl ⟨.inl rfl,rfl,rfl⟩
   ·refine Tri.f 2 [.g true,.v (.bool v2),.g false] [.keep [2,3,42] [2,3]] rfl ⟨hd5,fun _ => W65 a0 a1 a2 a4 v2 hk4,hd3,trivial⟩ ?_
    rcases bif_some h with ⟨hd6,h⟩ | ⟨hd6,h⟩
    ·refine Tri.f 2 [.g true] [.keep [4] []] rfl ⟨hd6,trivial⟩ ?_
     cases h
     exact Tri.ret rfl ⟨.inl rfl,rfl,rfl⟩
    ·refine Tri.f 2 [.g false] [.keep [2,3,44,45,46] [2,3]] rfl ⟨hd6,trivial⟩ ?_
     obtain ⟨x1,hk16,h⟩ := bind_some h
     refine Tri.loop (K1 := [.code [(2,0),(1,0),(1,0),(1,0),(1,0),(0,0)] 0]) (K2 := [.blk 1,.code [(2,0),(1,0),(1,0)] 2,.blk 0,.code [] 3]) (fun v3 => ⟨[(2,.ptr 2 0),(3,.ptr 3 0),(44,.list (.rats a2)),(45,.i (a2.length : Int)),(46,.i v3)],[(2,.box [.list (.intss a0),.list (.ints a1),.list (.rats a2)]),(3,.box [.i a3,.list (.rats a4),.list (.rats a5),.list (.rats a6),.i a7,.i a8,.i a9])]⟩) (fun x e σ' => match x with | (.inl _) => e = .exit 1 ∧ σ' = ⟨[(2,.ptr 2 0),(3,.ptr 3 0)],[(2,.box [.list (.intss a0),.list (.ints a1),.list (.rats a2)]),(3,.box [.i a3,.list (.rats a4),.list (.rats a5),.list (.rats a6),.i a7,.i a8,.i a9])]⟩ | (.inr r) => e = .ret ∧ K185 r σ') hk16 rfl rfl ?_ ?_
     ·intro v3 x hs
      clear h
      have h := hs
      clear hs
      refine Tri.f 1 [] [.keep [2,3,44,45,46,47] [2,3]] rfl trivial ?_
      rcases bif_some h with ⟨hd7,h⟩ | ⟨hd7,h⟩
      ·obtain ⟨hg8,h⟩ := grd_some h
       refine Tri.f 2 [.g true] [.keep [2,3,5,6,44,45,46] [2,3,6]] rfl ⟨hg8,hd7,trivial⟩ ?_
       obtain ⟨v4,hk9,h⟩ := bind_some h
       obtain ⟨v5,hk10,h⟩ := bind_some h
       obtain ⟨⟨v6,v7,v8⟩,hk11,h⟩ := bind_some h
       obtain ⟨⟨v9,v10,v11⟩,hk12,h⟩ := bind_some h
       refine Tri.f 2 [.r ⟨[],.sl 1100 0,[(1100,.arr 3 0 0 (.ints v4))]⟩,.r ⟨[],.sl 1101 0,[(1101,.arr 31 0 0 (.rats v5))]⟩,.v (.tuple [.agg [.i v6,.i v7],.bool v8]),.v (.tuple [.agg [.i v9,.i v10],.bool v11])] [.keep [2,3,8,9,10,44,45,46] [2,3,9]] rfl ⟨fun _ => W56 ((a2.getD v3.toNat ⟨0,0⟩).num) ((a2.getD v3.toNat ⟨0,0⟩).den) v6 v7 (v9,v10,v11) hk12,fun _ => W63 a5 v5 (v6,v7,v8) hk11,fun _ => (W30 v4 v5 hk10).swap 1000 1101,fun _ => (W66 a0 a1 a2 v3 v4 hk9).swap 1000 1100,trivial⟩ ?_
       rcases bif_some h with ⟨hd13,h⟩ | ⟨hd13,h⟩
       ·refine Tri.f 1 [.g true,.g true] [.keep [2,3,44,45,46,77] [2,3]] rfl ⟨rfl,hd13,trivial⟩ ?_
        refine Tri.f 2 [.g true] [.keep [4] []] rfl ⟨rfl,trivial⟩ ?_
        cases h
        exact Tri.ret rfl ⟨nofun,rfl,rfl,rfl⟩
       ·rcases bif_some h with ⟨hd14,h⟩ | ⟨hd14,h⟩
        ·refine Tri.f 1 [.g false,.g true] [.keep [2,3,44,45,46,77] [2,3]] rfl ⟨hd14,hd13,trivial⟩ ?_
         refine Tri.f 2 [.g true] [.keep [4] []] rfl ⟨rfl,trivial⟩ ?_
         cases h
         exact Tri.ret rfl ⟨nofun,rfl,rfl,rfl⟩
        ·refine Tri.f 1 [.g false,.g false] [.keep [2,3,44,45,46,77] [2,3]] rfl ⟨hd14,hd13,trivial⟩ ?_
         rcases bif_some h with ⟨hd15,h⟩ | ⟨hd15,h⟩
         ·refine Tri.f 2 [.g true] [.keep [4] []] rfl ⟨hd15,trivial⟩ ?_
          cases h
          exact Tri.ret rfl ⟨nofun,rfl,rfl,rfl⟩
         ·refine Tri.f 2 [.g false] [.keep [2,3,44,45,46] [2,3]] rfl ⟨hd15,trivial⟩ ?_
          cases h
          exact Tri.nil ⟨rfl,rfl⟩
      ·refine Tri.f 1 [.g false] [.keep [2,3] [2,3]] rfl ⟨hd7,trivial⟩ ?_
       cases h
       exact Tri.out 1 rfl ⟨nofun,rfl,rfl⟩
     ·intro e σ' hne hq
      rcases x1 with _ | r
      ·obtain ⟨rfl,rfl⟩ := hq
       refine TriX.exit (K' := [.code [(2,0),(1,0),(1,0)] 2,.blk 0,.code [] 3]) rfl ?_
       obtain ⟨⟨v12,v13,v14⟩,hk17,h⟩ := bind_some h
       obtain ⟨v15,hk18,h⟩ := bind_some h
       obtain ⟨⟨v16,v17,v18⟩,hk19,h⟩ := bind_some h
       refine Tri.f 2 [.v (.tuple [.agg [.i v12,.i v13],.bool v14]),.r ⟨[],.sl 1102 0,[(1102,.arr 31 0 0 (.rats v15))]⟩,.v (.tuple [.agg [.i v16,.i v17],.bool v18])] [.keep [3,11,12,13,14] [3,11,13]] rfl ⟨fun _ => W63 a5 v15 (v16,v17,v18) hk19,fun _ => (W30 a1 v15 hk18).swap 1000 1102,fun _ => W63 a2 a4 (v12,v13,v14) hk17,trivial⟩ ?_
       rcases bif_some h with ⟨hd20,h⟩ | ⟨hd20,h⟩
       ·rcases bif_some h with ⟨hd21,h⟩ | ⟨hd21,h⟩
        ·rcases bif_some h with ⟨hd22,h⟩ | ⟨hd22,h⟩
         ·refine Tri.f 1 [.g true,.g true,.g true] [.keep [4] []] rfl ⟨hd22,hd21,hd20,trivial⟩ ?_
          cases h
          exact Tri.ret rfl ⟨.inl rfl,rfl,rfl⟩
         ·refine Tri.f 1 [.g true,.g true,.g false] [.keep [4] []] rfl ⟨hd22,hd21,hd20,trivial⟩ ?_
          cases h
          exact Tri.ret rfl ⟨.inl rfl,rfl,rfl⟩
        ·refine Tri.f 1 [.g true,.g false,.g false] [.keep [4] []] rfl ⟨rfl,hd21,hd20,trivial⟩ ?_
         cases h
         exact Tri.ret rfl ⟨.inl rfl,rfl,rfl⟩
       ·refine Tri.f 1 [.g false,.g false,.g false] [.keep [4] []] rfl ⟨rfl,rfl,hd20,trivial⟩ ?_
        cases h
        exact Tri.ret rfl ⟨.inl rfl,rfl,rfl⟩
      ·obtain ⟨rfl,hq⟩ := hq
       cases h
       exact TriX.ret ⟨.inl rfl,hq⟩
  ·refine Tri.f 2 [.g false] [.keep [2,3,26,111] [2,3]] rfl ⟨hd3,trivial⟩ ?_
   rcases bif_some h with ⟨hd23,h⟩ | ⟨hd23,h⟩
   ·refine Tri.f 2 [.g true] [.keep [2,3,119] [2,3]] rfl ⟨hd23,trivial⟩ ?_
    rcases bif_some h with ⟨hd24,h⟩ | ⟨hd24,h⟩
    ·refine Tri.f 2 [.g true] [.keep [4] []] rfl ⟨hd24,trivial⟩ ?_
     cases h
     exact Tri.ret rfl ⟨.inl rfl,rfl,rfl⟩
    ·refine Tri.f 2 [.g false] [.keep [2,3,122,123] [2,3]] rfl ⟨hd24,trivial⟩ ?_
     obtain ⟨x2,hk31,h⟩ := bind_some h
     refine Tri.loop (K1 := [.code [(2,0),(1,0),(1,1),(1,0),(1,0),(1,0),(0,0)] 0]) (K2 := [.blk 3,.code [(2,0),(1,0),(1,1),(1,0)] 2,.blk 0,.code [] 3]) (fun v19 => ⟨[(2,.ptr 2 0),(3,.ptr 3 0),(122,.i (a2.length : Int)),(123,.i v19)],[(2,.box [.list (.intss a0),.list (.ints a1),.list (.rats a2)]),(3,.box [.i a3,.list (.rats a4),.list (.rats a5),.list (.rats a6),.i a7,.i a8,.i a9])]⟩) (fun x e σ' => match x with | (.inl _) => e = .exit 3 ∧ σ' = ⟨[(2,.ptr 2 0),(3,.ptr 3 0)],[(2,.box [.list (.intss a0),.list (.ints a1),.list (.rats a2)]),(3,.box [.i a3,.list (.rats a4),.list (.rats a5),.list (.rats a6),.i a7,.i a8,.i a9])]⟩ | (.inr r) => e = .ret ∧ K185 r σ') hk31 rfl rfl ?_ ?_
     ·intro v19 x hs
      clear h
      have h := hs
      clear hs
      refine Tri.f 1 [] [.keep [2,3,122,123,124] [2,3]] rfl trivial ?_
      rcases bif_some h with ⟨hd25,h⟩ | ⟨hd25,h⟩
      ·refine Tri.f 2 [.g true] [.keep [2,3,15,122,123] [2,3]] rfl ⟨hd25,trivial⟩ ?_
       obtain ⟨v20,hk26,h⟩ := bind_some h
       obtain ⟨v21,hk27,h⟩ := bind_some h
       obtain ⟨⟨v22,v23,v24⟩,hk28,h⟩ := bind_some h
       rcases bif_some h with ⟨hd29,h⟩ | ⟨hd29,h⟩
       ·refine Tri.f 2 [.r ⟨[],.sl 1103 0,[(1103,.arr 3 0 0 (.ints v20))]⟩,.r ⟨[],.sl 1104 0,[(1104,.arr 31 0 0 (.rats v21))]⟩,.v (.tuple [.agg [.i v22,.i v23],.bool v24]),.g true] [.keep [2,3,122,123,142] [2,3]] rfl ⟨hd29,fun _ => W63 a5 v21 (v22,v23,v24) hk28,fun _ => (W30 v20 v21 hk27).swap 1000 1104,fun _ => (W66 a0 a1 a2 v19 v20 hk26).swap 1000 1103,trivial⟩ ?_
        refine Tri.f 2 [.g true] [.keep [4] []] rfl ⟨rfl,trivial⟩ ?_
        cases h
        exact Tri.ret rfl ⟨nofun,rfl,rfl,rfl⟩
       ·refine Tri.f 2 [.r ⟨[],.sl 1103 0,[(1103,.arr 3 0 0 (.ints v20))]⟩,.r ⟨[],.sl 1104 0,[(1104,.arr 31 0 0 (.rats v21))]⟩,.v (.tuple [.agg [.i v22,.i v23],.bool v24]),.g false] [.keep [2,3,122,123,142] [2,3]] rfl ⟨hd29,fun _ => W63 a5 v21 (v22,v23,v24) hk28,fun _ => (W30 v20 v21 hk27).swap 1000 1104,fun _ => (W66 a0 a1 a2 v19 v20 hk26).swap 1000 1103,trivial⟩ ?_
        rcases bif_some h with ⟨hd30,h⟩ | ⟨hd30,h⟩
        ·refine Tri.f 2 [.g true] [.keep [4] []] rfl ⟨hd30,trivial⟩ ?_
         cases h
         exact Tri.ret rfl ⟨nofun,rfl,rfl,rfl⟩
        ·refine Tri.f 2 [.g false] [.keep [2,3,122,123] [2,3]] rfl ⟨hd30,trivial⟩ ?_
         cases h
         exact Tri.nil ⟨rfl,rfl⟩
      ·refine Tri.f 1 [.g false] [.keep [2,3] [2,3]] rfl ⟨hd25,trivial⟩ ?_
       cases h
       exact Tri.out 3 rfl ⟨nofun,rfl,rfl⟩
     ·intro e σ' hne hq
      rcases x2 with _ | r
      ·obtain ⟨rfl,rfl⟩ := hq
       refine TriX.exit (K' := [.code [(2,0),(1,0),(1,1),(1,0)] 2,.blk 0,.code [] 3]) rfl ?_
       obtain ⟨v25,hk32,h⟩ := bind_some h
       obtain ⟨⟨v26,v27,v28⟩,hk33,h⟩ := bind_some h
       rcases bif_some h with ⟨hd34,h⟩ | ⟨hd34,h⟩
       ·refine Tri.f 2 [.r ⟨[],.sl 1105 0,[(1105,.arr 31 0 0 (.rats v25))]⟩,.v (.tuple [.agg [.i v26,.i v27],.bool v28]),.g true] [.keep [4] []] rfl ⟨hd34,fun _ => W63 a5 v25 (v26,v27,v28) hk33,fun _ => (W30 a1 v25 hk32).swap 1000 1105,trivial⟩ ?_
        cases h
        exact Tri.ret rfl ⟨.inl rfl,rfl,rfl⟩
       ·refine Tri.f 2 [.r ⟨[],.sl 1105 0,[(1105,.arr 31 0 0 (.rats v25))]⟩,.v (.tuple [.agg [.i v26,.i v27],.bool v28]),.g false] [.keep [4] []] rfl ⟨hd34,fun _ => W63 a5 v25 (v26,v27,v28) hk33,fun _ => (W30 a1 v25 hk32).swap 1000 1105,trivial⟩ ?_
        cases h
        exact Tri.ret rfl ⟨.inl rfl,rfl,rfl⟩
      ·obtain ⟨rfl,hq⟩ := hq
       cases h
       exact TriX.ret ⟨.inl rfl,hq⟩
   ·refine Tri.f 2 [.g false] [.keep [2,3,159] [2,3]] rfl ⟨hd23,trivial⟩ ?_
    rcases bif_some h with ⟨hd35,h⟩ | ⟨hd35,h⟩
    ·obtain ⟨v29,hk36,h⟩ := bind_some h
     rcases bif_some h with ⟨hd37,h⟩ | ⟨hd37,h⟩
     ·refine Tri.f 2 [.g true,.v (.bool v29),.g true,.g true] [.keep [2,3,185] [2,3]] rfl ⟨rfl,hd37,fun _ => W65 a0 a1 a2 a4 v29 hk36,hd35,trivial⟩ ?_
      refine Tri.f 2 [.g true] [.keep [4] []] rfl ⟨rfl,trivial⟩ ?_
      cases h
      exact Tri.ret rfl ⟨.inl rfl,rfl,rfl⟩
     ·obtain ⟨v30,hk38,h⟩ := bind_some h
      rcases bif_some h with ⟨hd39,h⟩ | ⟨hd39,h⟩
      ·refine Tri.f 2 [.g true,.v (.bool v29),.g false,.v (.bool v30),.g true] [.keep [2,3,185] [2,3]] rfl ⟨hd39,fun _ => W62 a6 (a2.length : Int) v30 hk38,hd37,fun _ => W65 a0 a1 a2 a4 v29 hk36,hd35,trivial⟩ ?_
       refine Tri.f 2 [.g true] [.keep [4] []] rfl ⟨rfl,trivial⟩ ?_
       cases h
       exact Tri.ret rfl ⟨.inl rfl,rfl,rfl⟩
      ·obtain ⟨hg40,h⟩ := grd_some h
       obtain ⟨v31,hk41,h⟩ := bind_some h
       refine Tri.f 2 [.g true,.v (.bool v29),.g false,.v (.bool v30),.g false,.v (.bool v31)] [.keep [2,3,185] [2,3]] rfl ⟨fun _ => W64 a0 a1 a2 a6 (List.replicate (a1.length : Int).toNat (0 : Int)) v31 hk41,hg40,hd39,fun _ => W62 a6 (a2.length : Int) v30 hk38,hd37,fun _ => W65 a0 a1 a2 a4 v29 hk36,hd35,trivial⟩ ?_
       rcases bif_some h with ⟨hd42,h⟩ | ⟨hd42,h⟩
       ·refine Tri.f 2 [.g true] [.keep [4] []] rfl ⟨hd42,trivial⟩ ?_
        cases h
        exact Tri.ret rfl ⟨.inl rfl,rfl,rfl⟩
       ·obtain ⟨⟨v32,v33,v34⟩,hk43,h⟩ := bind_some h
        refine Tri.f 2 [.g false,.v (.tuple [.agg [.i v32,.i v33],.bool v34])] [.keep [20,21] [20]] rfl ⟨fun _ => W63 a2 a6 (v32,v33,v34) hk43,hd42,trivial⟩ ?_
        rcases bif_some h with ⟨hd44,h⟩ | ⟨hd44,h⟩
        ·refine Tri.f 1 [.g true] [.keep [4] []] rfl ⟨hd44,trivial⟩ ?_
         cases h
         exact Tri.ret rfl ⟨.inl rfl,rfl,rfl⟩
        ·refine Tri.f 1 [.g false] [.keep [4] []] rfl ⟨hd44,trivial⟩ ?_
         cases h
         exact Tri.ret rfl ⟨.inl rfl,rfl,rfl⟩
    ·refine Tri.f 2 [.g false] [.keep [4] []] rfl ⟨hd35,trivial⟩ ?_
     cases h
     exact Tri.ret rfl ⟨.inl rfl,rfl,rfl⟩
noncomputable def E301 : Env := ⟨Tryz.prog,tys,(Tryz.f6.body).getD .skip,24,tysOk,mixedOk⟩
abbrev K186 (r : Int × Int × Int × Int × (List Q) × (List Q) × (List Q)) (σ' : ASt) : Prop := isRes E301.T Tryz.f6 (.agg [.i r.1,.sl 1000 0,.sl 1001 0,.sl 1002 0,.i r.2.1,.i r.2.2.1,.i r.2.2.2.1]) [(1000,.arr 31 0 0 (.rats r.2.2.2.2.1)),(1001,.arr 31 0 0 (.rats r.2.2.2.2.2.1)),(1002,.arr 31 0 0 (.rats r.2.2.2.2.2.2))] σ'
noncomputable def m_impl_SolveLP (a0 : List (List Int)) (a1 : List Int) (a2 : List Q) : Option (Int × Int × Int × Int × (List Q) × (List Q) × (List Q)) :=
(m_impl_IsValidLP a0 a1 a2).bind fun v1 =>
bif !v1 then
(some ((0 : Int),0,0,0,[],[],[]))
else
((m_impl_solve a0 a1 a2).bind fun (v2,v3,v4,v5,v6,v7,v8,v9) =>
bif !v6 then
(some ((4 : Int),0,0,0,[],[],[]))
else
((m_impl_CheckLP a0 a1 a2 v2 v7 v8 v9 v3 v4 v5).bind fun v10 =>
bif !v10 then
(some ((4 : Int),0,0,0,[],[],[]))
else
(some (v2,v3,v4,v5,v7,v8,v9))))
theorem W68 (a0 : List (List Int)) (a1 : List Int) (a2 : List Q) (r : Int × Int × Int × Int × (List Q) × (List Q) × (List Q)) (h : m_impl_SolveLP a0 a1 a2 = some r) : AM.Spec Tryz.prog 6 [.agg [.list (.intss a0),.list (.ints a1),.list (.rats a2)]] [] (.agg [.i r.1,.sl 1000 0,.sl 1001 0,.sl 1002 0,.i r.2.1,.i r.2.2.1,.i r.2.2.2.1]) [(1000,.arr 31 0 0 (.rats r.2.2.2.2.1)),(1001,.arr 31 0 0 (.rats r.2.2.2.2.2.1)),(1002,.arr 31 0 0 (.rats r.2.2.2.2.2.2))] := by
 refine spec_of (E := E301) Tryz.func6 rfl rfl rfl rfl ?_
 refine Tri.f 1 [] [.keep [1,2] [1,2],.ownc 2 1 1100 31,.ownc 2 2 1101 31,.ownc 2 3 1102 31,.keep [1,2] [1,2,1100,1101,1102]] rfl trivial ?_
 obtain ⟨v1,hk1,h⟩ := bind_some h
 refine Tri.f 1 [.v (.bool v1)] [.keep [1,2,7] [1,2,1100,1101,1102]] rfl ⟨fun _ => W26 a0 a1 a2 v1 hk1,trivial⟩ ?_
 rcases bif_some h with ⟨hd2,h⟩ | ⟨hd2,h⟩
 ·refine Tri.f 2 [.g true] [.ownc 2 1 1103 31,.ownc 2 2 1104 31,.ownc 2 3 1105 31,.swap 1103 1000,.swap 1104 1001,.swap 1105 1002,.keep [2] [2,1000,1001,1002]] rfl ⟨hd2,trivial⟩ ?_
  cases h
  exact Tri.ret rfl ⟨.inl rfl,rfl,rfl⟩
 ·obtain ⟨⟨v2,v3,v4,v5,v6,v7,v8,v9⟩,hk3,h⟩ := bind_some h
  refine Tri.f 2 [.g false,.r ⟨[],.tuple [.agg [.i v2,.sl 1106 0,.sl 1107 0,.sl 1108 0,.i v3,.i v4,.i v5],.bool v6],[(1106,.arr 31 0 0 (.rats v7)),(1107,.arr 31 0 0 (.rats v8)),(1108,.arr 31 0 0 (.rats v9))]⟩] [.keep [1,2,3,4] [1,2,3,1100,1101,1102,1106,1107,1108]] rfl ⟨fun _ => (((W58 a0 a1 a2 (v2,v3,v4,v5,v6,v7,v8,v9) hk3).swap 1000 1106).swap 1001 1107).swap 1002 1108,hd2,trivial⟩ ?_
  rcases bif_some h with ⟨hd4,h⟩ | ⟨hd4,h⟩
  ·refine Tri.f 1 [.g true] [.keep [2,3,21] [2,3,1100,1101,1102,1106,1107,1108]] rfl ⟨hd4,trivial⟩ ?_
   refine Tri.f 2 [.g true] [.ownc 2 1 1109 31,.ownc 2 2 1110 31,.ownc 2 3 1111 31,.swap 1109 1000,.swap 1110 1001,.swap 1111 1002,.keep [2] [2,1000,1001,1002]] rfl ⟨rfl,trivial⟩ ?_
   cases h
   exact Tri.ret rfl ⟨.inl rfl,rfl,rfl⟩
  ·obtain ⟨v10,hk5,h⟩ := bind_some h
   refine Tri.f 1 [.g false,.v (.bool v10)] [.keep [2,3,21] [2,3,1100,1101,1102,1106,1107,1108]] rfl ⟨fun _ => W67 a0 a1 a2 v2 v7 v8 v9 v3 v4 v5 v10 hk5,hd4,trivial⟩ ?_
   rcases bif_some h with ⟨hd6,h⟩ | ⟨hd6,h⟩
   ·refine Tri.f 2 [.g true] [.ownc 2 1 1112 31,.ownc 2 2 1113 31,.ownc 2 3 1114 31,.swap 1112 1000,.swap 1113 1001,.swap 1114 1002,.keep [2] [2,1000,1001,1002]] rfl ⟨hd6,trivial⟩ ?_
    cases h
    exact Tri.ret rfl ⟨.inl rfl,rfl,rfl⟩
   ·refine Tri.f 2 [.g false] [.swap 1106 1000,.swap 1107 1001,.swap 1108 1002,.keep [2] [2,1000,1001,1002]] rfl ⟨hd6,trivial⟩ ?_
    cases h
    exact Tri.ret rfl ⟨.inl rfl,rfl,rfl⟩
noncomputable def E302 : Env := ⟨Tryz.prog,tys,(Tryz.f67.body).getD .skip,16,tysOk,mixedOk⟩
abbrev K187 (r : Bool) (σ' : ASt) : Prop := isRes E302.T Tryz.f67 (.bool r) [] σ'
noncomputable def l_spec_l5Small_0 (a0 : List Int) (v1 : Int) : Option (Int ⊕ (Unit ⊕ Bool)) :=
bif decide (v1 < (a0.length : Int)) then
(grd (0 ≤ v1 ∧ v1 < (a0.length : Int)) <|
(m_spec_l1In (a0.getD v1.toNat 0) (-5000 : Int) (5000 : Int)).bind fun v2 =>
bif !v2 then
(some (.inr (.inr false)))
else
(some (.inl (IntKind.i64.wrap (v1 + 1)))))
else
(some (.inr (.inl ())))
noncomputable def m_spec_l5Small (a0 : List Int) : Option Bool :=
(iter (l_spec_l5Small_0 a0) (0 : Int)).bind fun
| (.inl _) => (
some true)
| (.inr r) => some r
theorem W69 (a0 : List Int) (r : Bool) (h : m_spec_l5Small a0 = some r) : AM.Spec Tryz.prog 67 [.list (.ints a0)] [] (.bool r) [] := by
 refine spec_of (E := E302) Tryz.func67 rfl rfl rfl rfl ?_
 refine Tri.f 2 [] [.keep [0,3] []] rfl trivial ?_
 obtain ⟨x1,hk5,h⟩ := bind_some h
 refine Tri.loop (K1 := [.code [(1,0),(1,0),(0,0)] 0]) (K2 := [.blk 0,.code [] 2]) (fun v1 => ⟨[(0,.list (.ints a0)),(3,.i v1)],[]⟩) (fun x e σ' => match x with | (.inl _) => e = .exit 0 ∧ σ' = ⟨[],[]⟩ | (.inr r) => e = .ret ∧ K187 r σ') hk5 rfl rfl ?_ ?_
 ·intro v1 x hs
  clear h
  have h := hs
  clear hs
  refine Tri.f 1 [] [.keep [0,3,7] []] rfl trivial ?_
  rcases bif_some h with ⟨hd1,h⟩ | ⟨hd1,h⟩
  ·obtain ⟨hg2,h⟩ := grd_some h
   obtain ⟨v2,hk3,h⟩ := bind_some h
   refine Tri.f 2 [.g true,.v (.bool v2)] [.keep [0,3,15] []] rfl ⟨fun _ => W7 (a0.getD v1.toNat 0) (-5000 : Int) (5000 : Int) v2 hk3,hg2,hd1,trivial⟩ ?_
   rcases bif_some h with ⟨hd4,h⟩ | ⟨hd4,h⟩
   ·refine Tri.f 2 [.g true] [.keep [2] []] rfl ⟨hd4,trivial⟩ ?_
    cases h
    exact Tri.ret rfl ⟨nofun,rfl,rfl,rfl⟩
   ·refine Tri.f 2 [.g false] [.keep [0,3] []] rfl ⟨hd4,trivial⟩ ?_
    cases h
    exact Tri.nil ⟨rfl,rfl⟩
  ·refine Tri.f 1 [.g false] [.keep [] []] rfl ⟨hd1,trivial⟩ ?_
   cases h
   exact Tri.out 0 rfl ⟨nofun,rfl,rfl⟩
 ·intro e σ' hne hq
  rcases x1 with _ | r
  ·obtain ⟨rfl,rfl⟩ := hq
   refine TriX.exit (K' := [.code [] 2]) rfl ?_
   refine Tri.f 1 [] [.keep [2] []] rfl trivial ?_
   cases h
   exact Tri.ret rfl ⟨.inl rfl,rfl,rfl⟩
  ·obtain ⟨rfl,hq⟩ := hq
   cases h
   exact TriX.ret ⟨.inl rfl,hq⟩
noncomputable def E303 : Env := ⟨Tryz.prog,tys,(Tryz.f68.body).getD .skip,16,tysOk,mixedOk⟩
abbrev K188 (r : Bool) (σ' : ASt) : Prop := isRes E303.T Tryz.f68 (.bool r) [] σ'
noncomputable def l_spec_AllValid_0 (a0 : List Q) (v1 : Int) : Option (Int ⊕ (Unit ⊕ Bool)) :=
bif decide (v1 < (a0.length : Int)) then
(grd (0 ≤ v1 ∧ v1 < (a0.length : Int)) <|
(m_spec_IsValidRat ((a0.getD v1.toNat ⟨0,0⟩).num) ((a0.getD v1.toNat ⟨0,0⟩).den)).bind fun v2 =>
bif !v2 then
(some (.inr (.inr false)))
else
(some (.inl (IntKind.i64.wrap (v1 + 1)))))
else
(some (.inr (.inl ())))
noncomputable def m_spec_AllValid (a0 : List Q) : Option Bool :=
(iter (l_spec_AllValid_0 a0) (0 : Int)).bind fun
| (.inl _) => (
some true)
| (.inr r) => some r
theorem W70 (a0 : List Q) (r : Bool) (h : m_spec_AllValid a0 = some r) : AM.Spec Tryz.prog 68 [.list (.rats a0)] [] (.bool r) [] := by
 refine spec_of (E := E303) Tryz.func68 rfl rfl rfl rfl ?_
 refine Tri.f 2 [] [.keep [0,3] []] rfl trivial ?_
 obtain ⟨x1,hk5,h⟩ := bind_some h
 refine Tri.loop (K1 := [.code [(1,0),(1,0),(0,0)] 0]) (K2 := [.blk 0,.code [] 2]) (fun v1 => ⟨[(0,.list (.rats a0)),(3,.i v1)],[]⟩) (fun x e σ' => match x with | (.inl _) => e = .exit 0 ∧ σ' = ⟨[],[]⟩ | (.inr r) => e = .ret ∧ K188 r σ') hk5 rfl rfl ?_ ?_
 ·intro v1 x hs
  clear h
  have h := hs
  clear hs
  refine Tri.f 1 [] [.keep [0,3,7] []] rfl trivial ?_
  rcases bif_some h with ⟨hd1,h⟩ | ⟨hd1,h⟩
  ·obtain ⟨hg2,h⟩ := grd_some h
   obtain ⟨v2,hk3,h⟩ := bind_some h
   refine Tri.f 2 [.g true,.v (.bool v2)] [.keep [0,3,15] []] rfl ⟨fun _ => W9 ((a0.getD v1.toNat ⟨0,0⟩).num) ((a0.getD v1.toNat ⟨0,0⟩).den) v2 hk3,hg2,hd1,trivial⟩ ?_
   rcases bif_some h with ⟨hd4,h⟩ | ⟨hd4,h⟩
   ·refine Tri.f 2 [.g true] [.keep [2] []] rfl ⟨hd4,trivial⟩ ?_
    cases h
    exact Tri.ret rfl ⟨nofun,rfl,rfl,rfl⟩
   ·refine Tri.f 2 [.g false] [.keep [0,3] []] rfl ⟨hd4,trivial⟩ ?_
    cases h
    exact Tri.nil ⟨rfl,rfl⟩
  ·refine Tri.f 1 [.g false] [.keep [] []] rfl ⟨hd1,trivial⟩ ?_
   cases h
   exact Tri.out 0 rfl ⟨nofun,rfl,rfl⟩
 ·intro e σ' hne hq
  rcases x1 with _ | r
  ·obtain ⟨rfl,rfl⟩ := hq
   refine TriX.exit (K' := [.code [] 2]) rfl ?_
   refine Tri.f 1 [] [.keep [2] []] rfl trivial ?_
   cases h
   exact Tri.ret rfl ⟨.inl rfl,rfl,rfl⟩
  ·obtain ⟨rfl,hq⟩ := hq
   cases h
   exact TriX.ret ⟨.inl rfl,hq⟩
noncomputable def E304 : Env := ⟨Tryz.prog,tys,(Tryz.f22.body).getD .skip,59,tysOk,mixedOk⟩
abbrev K189 (r : Bool) (σ' : ASt) : Prop := isRes E304.T Tryz.f22 (.bool r) [] σ'
noncomputable def l_spec_IsValidLP_0 (a0 : List (List Int)) (a2 : List Q) (v1 : Int) : Option (Int ⊕ (Unit ⊕ Bool)) :=
bif decide (v1 < (a0.length : Int)) then
(grd (0 ≤ v1 ∧ v1 < (a0.length : Int)) <|
bif ((a0.getD v1.toNat []).length : Int) != (a2.length : Int) then
(some (.inr (.inr false)))
else
(grd (0 ≤ v1 ∧ v1 < (a0.length : Int)) <|
(m_spec_l5Small (a0.getD v1.toNat [])).bind fun v2 =>
bif !v2 then
(some (.inr (.inr false)))
else
(some (.inl (IntKind.i64.wrap (v1 + 1))))))
else
(some (.inr (.inl ())))
noncomputable def m_spec_IsValidLP (a0 : List (List Int)) (a1 : List Int) (a2 : List Q) : Option Bool :=
(iter (l_spec_IsValidLP_0 a0 a2) (0 : Int)).bind fun
| (.inl _) => (
bif decide ((a2.length : Int) ≤ 70) then
(bif decide ((a0.length : Int) ≤ 8) then
(bif (a1.length : Int) == (a0.length : Int) then
((m_spec_l5Small a1).bind fun v3 =>
bif v3 then
((m_spec_AllValid a2).bind fun v4 =>
some v4)
else
(some false))
else
(some false))
else
(some false))
else
(some false))
| (.inr r) => some r
theorem W71 (a0 : List (List Int)) (a1 : List Int) (a2 : List Q) (r : Bool) (h : m_spec_IsValidLP a0 a1 a2 = some r) : AM.Spec Tryz.prog 22 [.agg [.list (.intss a0),.list (.ints a1),.list (.rats a2)]] [] (.bool r) [] := by
 refine spec_of (E := E304) Tryz.func22 rfl rfl rfl rfl ?_
 refine Tri.f 2 [] [.keep [1,3] [1]] rfl trivial ?_
 obtain ⟨x1,hk7,h⟩ := bind_some h
 refine Tri.loop (K1 := [.code [(1,0),(1,0),(0,0)] 0]) (K2 := [.blk 0,.code [] 2]) (fun v1 => ⟨[(1,.ptr 1 0),(3,.i v1)],[(1,.box [.list (.intss a0),.list (.ints a1),.list (.rats a2)])]⟩) (fun x e σ' => match x with | (.inl _) => e = .exit 0 ∧ σ' = ⟨[(1,.ptr 1 0)],[(1,.box [.list (.intss a0),.list (.ints a1),.list (.rats a2)])]⟩ | (.inr r) => e = .ret ∧ K189 r σ') hk7 rfl rfl ?_ ?_
 ·intro v1 x hs
  clear h
  have h := hs
  clear hs
  refine Tri.f 1 [] [.keep [1,3,8] [1]] rfl trivial ?_
  rcases bif_some h with ⟨hd1,h⟩ | ⟨hd1,h⟩
  ·obtain ⟨hg2,h⟩ := grd_some h
   rcases bif_some h with ⟨hd3,h⟩ | ⟨hd3,h⟩
   ·refine Tri.f 2 [.g true,.g true] [.keep [1,3,29] [1]] rfl ⟨hd3,hg2,hd1,trivial⟩ ?_
    refine Tri.f 2 [.g true] [.keep [2] []] rfl ⟨rfl,trivial⟩ ?_
    cases h
    exact Tri.ret rfl ⟨nofun,rfl,rfl,rfl⟩
   ·obtain ⟨hg4,h⟩ := grd_some h
    obtain ⟨v2,hk5,h⟩ := bind_some h
    refine Tri.f 2 [.g true,.g false,.v (.bool v2)] [.keep [1,3,29] [1]] rfl ⟨fun _ => W69 (a0.getD v1.toNat []) v2 hk5,hg4,hd3,hg2,hd1,trivial⟩ ?_
    rcases bif_some h with ⟨hd6,h⟩ | ⟨hd6,h⟩
    ·refine Tri.f 2 [.g true] [.keep [2] []] rfl ⟨hd6,trivial⟩ ?_
     cases h
     exact Tri.ret rfl ⟨nofun,rfl,rfl,rfl⟩
    ·refine Tri.f 2 [.g false] [.keep [1,3] [1]] rfl ⟨hd6,trivial⟩ ?_
     cases h
     exact Tri.nil ⟨rfl,rfl⟩
  ·refine Tri.f 1 [.g false] [.keep [1] [1]] rfl ⟨hd1,trivial⟩ ?_
   cases h
   exact Tri.out 0 rfl ⟨nofun,rfl,rfl⟩
 ·intro e σ' hne hq
  rcases x1 with _ | r
  ·obtain ⟨rfl,rfl⟩ := hq
   refine TriX.exit (K' := [.code [] 2]) rfl ?_
   rcases bif_some h with ⟨hd8,h⟩ | ⟨hd8,h⟩
   ·rcases bif_some h with ⟨hd9,h⟩ | ⟨hd9,h⟩
    ·rcases bif_some h with ⟨hd10,h⟩ | ⟨hd10,h⟩
     ·obtain ⟨v3,hk11,h⟩ := bind_some h
      rcases bif_some h with ⟨hd12,h⟩ | ⟨hd12,h⟩
      ·obtain ⟨v4,hk13,h⟩ := bind_some h
       refine Tri.f 1 [.g true,.g true,.g true,.v (.bool v3),.g true,.v (.bool v4)] [.keep [2] []] rfl ⟨fun _ => W70 a2 v4 hk13,hd12,fun _ => W69 a1 v3 hk11,hd10,hd9,hd8,trivial⟩ ?_
       cases h
       exact Tri.ret rfl ⟨.inl rfl,rfl,rfl⟩
      ·refine Tri.f 1 [.g true,.g true,.g true,.v (.bool v3),.g false] [.keep [2] []] rfl ⟨hd12,fun _ => W69 a1 v3 hk11,hd10,hd9,hd8,trivial⟩ ?_
       cases h
       exact Tri.ret rfl ⟨.inl rfl,rfl,rfl⟩
     ·refine Tri.f 1 [.g true,.g true,.g false,.g false] [.keep [2] []] rfl ⟨rfl,hd10,hd9,hd8,trivial⟩ ?_
      cases h
      exact Tri.ret rfl ⟨.inl rfl,rfl,rfl⟩
    ·refine Tri.f 1 [.g true,.g false,.g false,.g false] [.keep [2] []] rfl ⟨rfl,rfl,hd9,hd8,trivial⟩ ?_
     cases h
     exact Tri.ret rfl ⟨.inl rfl,rfl,rfl⟩
   ·refine Tri.f 1 [.g false,.g false,.g false,.g false] [.keep [2] []] rfl ⟨rfl,rfl,rfl,hd8,trivial⟩ ?_
    cases h
    exact Tri.ret rfl ⟨.inl rfl,rfl,rfl⟩
  ·obtain ⟨rfl,hq⟩ := hq
   cases h
   exact TriX.ret ⟨.inl rfl,hq⟩
noncomputable def E305 : Env := ⟨Tryz.prog,tys,(Tryz.f23.body).getD .skip,94,tysOk,mixedOk⟩
abbrev K190 (r : Int × (List (List Q)) × (List Int)) (σ' : ASt) : Prop := isRes E305.T Tryz.f23 (.agg [.sl 1000 0,.sl 1001 0,.i r.1]) [(1000,.arr 26 0 0 (.ratss r.2.1)),(1001,.arr 3 0 0 (.ints r.2.2))] σ'
noncomputable def l_spec_StartTableau_1 (a0 : List (List Int)) (a2 : List Q) (v2 : Int) : (Int × (List Q)) → Option ((Int × (List Q)) ⊕ ((List Q)))
 | (v5,v6) => (
bif decide (v5 < (a2.length : Int)) then
(grd (0 ≤ v2 ∧ v2 < (a0.length : Int)) <|
grd (0 ≤ v5 ∧ v5 < ((a0.getD v2.toNat []).length : Int)) <|
(m_spec_l3Int (IntKind.i64.wrap ((-1 : Int) * ((a0.getD v2.toNat []).getD v5.toNat 0)))).bind fun (v7,v8) =>
grd (v6.length + ([⟨v7,v8⟩] : List Q).length ≤ room) <|
some (.inl (IntKind.i64.wrap (v5 + 1),v6 ++ [⟨v7,v8⟩])))
else
(some (.inr v6)))
noncomputable def l_spec_StartTableau_2 (a0 : List (List Int)) (v2 : Int) : (Int × (List Q)) → Option ((Int × (List Q)) ⊕ ((List Q)))
 | (v10,v11) => (
bif decide (v10 < (a0.length : Int)) then
((m_spec_l1Bit (v10 == v2)).bind fun v12 =>
(m_spec_l3Int v12).bind fun (v13,v14) =>
grd (v11.length + ([⟨v13,v14⟩] : List Q).length ≤ room) <|
some (.inl (IntKind.i64.wrap (v10 + 1),v11 ++ [⟨v13,v14⟩])))
else
(some (.inr v11)))
noncomputable def l_spec_StartTableau_3 (a0 : List (List Int)) (a2 : List Q) (v2 : Int) : (Int × (List Q)) → Option ((Int × (List Q)) ⊕ ((List Q)))
 | (v18,v19) => (
bif decide (v18 < (a2.length : Int)) then
(grd (0 ≤ v2 ∧ v2 < (a0.length : Int)) <|
grd (0 ≤ v18 ∧ v18 < ((a0.getD v2.toNat []).length : Int)) <|
(m_spec_l3Int (IntKind.i64.wrap ((1 : Int) * ((a0.getD v2.toNat []).getD v18.toNat 0)))).bind fun (v20,v21) =>
grd (v19.length + ([⟨v20,v21⟩] : List Q).length ≤ room) <|
some (.inl (IntKind.i64.wrap (v18 + 1),v19 ++ [⟨v20,v21⟩])))
else
(some (.inr v19)))
noncomputable def l_spec_StartTableau_4 (a0 : List (List Int)) (v2 : Int) : (Int × (List Q)) → Option ((Int × (List Q)) ⊕ ((List Q)))
 | (v23,v24) => (
bif decide (v23 < (a0.length : Int)) then
((m_spec_l1Bit (v23 == v2)).bind fun v25 =>
(m_spec_l3Int v25).bind fun (v26,v27) =>
grd (v24.length + ([⟨v26,v27⟩] : List Q).length ≤ room) <|
some (.inl (IntKind.i64.wrap (v23 + 1),v24 ++ [⟨v26,v27⟩])))
else
(some (.inr v24)))
noncomputable def l_spec_StartTableau_0 (a0 : List (List Int)) (a1 : List Int) (a2 : List Q) : (Int × (List (List Q)) × (List Int)) → Option ((Int × (List (List Q)) × (List Int)) ⊕ (((List (List Q)) × (List Int))))
 | (v2,v3,v4) => (
bif decide (v2 < (a0.length : Int)) then
(grd (0 ≤ v2 ∧ v2 < (a1.length : Int)) <|
bif decide ((a1.getD v2.toNat 0) < 0) then
((iter (l_spec_StartTableau_1 a0 a2 v2) ((0 : Int),[])).bind fun
| v9 => (
(iter (l_spec_StartTableau_2 a0 v2) ((0 : Int),v9)).bind fun
| v15 => (
grd (0 ≤ v2 ∧ v2 < (a1.length : Int)) <|
(m_spec_l3Int (IntKind.i64.wrap ((-1 : Int) * (a1.getD v2.toNat 0)))).bind fun (v16,v17) =>
grd (v15.length + ([⟨v16,v17⟩] : List Q).length ≤ room) <|
grd (v3.length + ([v15 ++ [⟨v16,v17⟩]] : List (List Q)).length ≤ room) <|
grd (v4.length + ([IntKind.i64.wrap ((a2.length : Int) + v2)] : List Int).length ≤ room) <|
some (.inl (IntKind.i64.wrap (v2 + 1),v3 ++ [v15 ++ [⟨v16,v17⟩]],v4 ++ [IntKind.i64.wrap ((a2.length : Int) + v2)])))))
else
((iter (l_spec_StartTableau_3 a0 a2 v2) ((0 : Int),[])).bind fun
| v22 => (
(iter (l_spec_StartTableau_4 a0 v2) ((0 : Int),v22)).bind fun
| v28 => (
grd (0 ≤ v2 ∧ v2 < (a1.length : Int)) <|
(m_spec_l3Int (IntKind.i64.wrap ((1 : Int) * (a1.getD v2.toNat 0)))).bind fun (v29,v30) =>
grd (v28.length + ([⟨v29,v30⟩] : List Q).length ≤ room) <|
grd (v3.length + ([v28 ++ [⟨v29,v30⟩]] : List (List Q)).length ≤ room) <|
grd (v4.length + ([IntKind.i64.wrap ((a2.length : Int) + v2)] : List Int).length ≤ room) <|
some (.inl (IntKind.i64.wrap (v2 + 1),v3 ++ [v28 ++ [⟨v29,v30⟩]],v4 ++ [IntKind.i64.wrap ((a2.length : Int) + v2)]))))))
else
(some (.inr (v3,v4))))
noncomputable def m_spec_StartTableau (a0 : List (List Int)) (a1 : List Int) (a2 : List Q) : Option (Int × (List (List Q)) × (List Int)) :=
(m_spec_IsValidLP a0 a1 a2).bind fun v1 =>
bif !v1 then
(some (0,[],[]))
else
((iter (l_spec_StartTableau_0 a0 a1 a2) ((0 : Int),[],[])).bind fun
| (v31,v32) => (
some ((a2.length : Int),v31,v32)))
theorem W72 (a0 : List (List Int)) (a1 : List Int) (a2 : List Q) (r : Int × (List (List Q)) × (List Int)) (h : m_spec_StartTableau a0 a1 a2 = some r) : AM.Spec Tryz.prog 23 [.agg [.list (.intss a0),.list (.ints a1),.list (.rats a2)]] [] (.agg [.sl 1000 0,.sl 1001 0,.i r.1]) [(1000,.arr 26 0 0 (.ratss r.2.1)),(1001,.arr 3 0 0 (.ints r.2.2))] := by
 refine spec_of (E := E305) Tryz.func23 rfl rfl rfl rfl ?_
 refine Tri.f 1 [] [.keep [1,2] [1,2],.ownc 2 0 1100 26,.ownc 2 1 1101 3,.keep [1,2] [1,2,1100,1101]] rfl trivial ?_
 obtain ⟨v1,hk1,h⟩ := bind_some h
 refine Tri.f 1 [.v (.bool v1)] [.keep [1,2,11] [1,2,1100,1101]] rfl ⟨fun _ => W71 a0 a1 a2 v1 hk1,trivial⟩ ?_
 rcases bif_some h with ⟨hd2,h⟩ | ⟨hd2,h⟩
 ·refine Tri.f 2 [.g true] [.ownc 2 0 1102 26,.ownc 2 1 1103 3,.swap 1102 1000,.swap 1103 1001,.keep [2] [2,1000,1001]] rfl ⟨hd2,trivial⟩ ?_
  cases h
  exact Tri.ret rfl ⟨.inl rfl,rfl,rfl⟩
 ·refine Tri.f 3 [.g false] [.ownc 3 0 1104 26,.ownc 3 1 1105 3,.keep [1,2,3,4] [1,2,3,1100,1101,1104,1105]] rfl ⟨hd2,trivial⟩ ?_
  obtain ⟨x5,hk38,h⟩ := bind_some h
  refine Tri.loop (K1 := [.code [(3,0),(1,0),(0,0)] 0]) (K2 := [.blk 0,.code [] 4]) (fun (v2,v3,v4) => ⟨[(1,.ptr 1 0),(2,.ptr 2 0),(3,.ptr 3 0),(4,.i v2)],[(1,.box [.list (.intss a0),.list (.ints a1),.list (.rats a2)]),(2,.box [.sl 1100 0,.sl 1101 0,.i 0]),(3,.box [.sl 1104 0,.sl 1105 0,.i (a2.length : Int)]),(1100,.arr 26 0 0 (.ratss [])),(1101,.arr 3 0 0 (.ints [])),(1104,.arr 26 0 0 (.ratss v3)),(1105,.arr 3 0 0 (.ints v4))]⟩) (fun x e σ' => match x with | (v31,v32) => e = .exit 0 ∧ σ' = ⟨[(2,.ptr 2 0),(3,.ptr 3 0)],[(2,.box [.sl 1100 0,.sl 1101 0,.i 0]),(3,.box [.sl 1104 0,.sl 1105 0,.i (a2.length : Int)]),(1100,.arr 26 0 0 (.ratss [])),(1101,.arr 3 0 0 (.ints [])),(1104,.arr 26 0 0 (.ratss v31)),(1105,.arr 3 0 0 (.ints v32))]⟩) hk38 rfl rfl ?_ ?_
  ·intro s x hs
   clear h
   have h := hs
   clear hs
   obtain ⟨v2,v3,v4⟩ := s
   refine Tri.f 1 [] [.keep [1,2,3,4,21] [1,2,3,1100,1101,1104,1105]] rfl trivial ?_
   rcases bif_some h with ⟨hd3,h⟩ | ⟨hd3,h⟩
   ·obtain ⟨hg4,h⟩ := grd_some h
    refine Tri.f 3 [.g true] [.keep [1,2,3,4,5,29] [1,2,3,1100,1101,1104,1105]] rfl ⟨hg4,hd3,trivial⟩ ?_
    rcases bif_some h with ⟨hd5,h⟩ | ⟨hd5,h⟩
    ·refine Tri.f 3 [.g true] [.keep [1,2,3,4,5,6] [1,2,3,30,1100,1101,1104,1105]] rfl ⟨hd5,trivial⟩ ?_
     refine Tri.f 1 [] [.keep [1,2,3,4,5,6,7] [1,2,3,30,1100,1101,1104,1105]] rfl trivial ?_
     obtain ⟨v9,hk11,h⟩ := bind_some h
     refine Tri.loop (K1 := [.code [(3,0),(1,0),(0,0),(1,0),(0,0),(3,0),(1,0),(0,0)] 0]) (K2 := [.blk 2,.code [(3,0),(1,0),(0,0),(1,0),(0,0)] 4,.blk 1,.code [(3,0),(1,0),(0,0)] 2]) (fun (v5,v6) => ⟨[(1,.ptr 1 0),(2,.ptr 2 0),(3,.ptr 3 0),(4,.i v2),(5,.i (-1 : Int)),(6,.sl 30 0),(7,.i v5)],[(1,.box [.list (.intss a0),.list (.ints a1),.list (.rats a2)]),(2,.box [.sl 1100 0,.sl 1101 0,.i 0]),(3,.box [.sl 1104 0,.sl 1105 0,.i (a2.length : Int)]),(30,.arr 31 0 0 (.rats v6)),(1100,.arr 26 0 0 (.ratss [])),(1101,.arr 3 0 0 (.ints [])),(1104,.arr 26 0 0 (.ratss v3)),(1105,.arr 3 0 0 (.ints v4))]⟩) (fun x e σ' => match x with | v9 => e = .exit 2 ∧ σ' = ⟨[(1,.ptr 1 0),(2,.ptr 2 0),(3,.ptr 3 0),(4,.i v2),(5,.i (-1 : Int)),(6,.sl 30 0)],[(1,.box [.list (.intss a0),.list (.ints a1),.list (.rats a2)]),(2,.box [.sl 1100 0,.sl 1101 0,.i 0]),(3,.box [.sl 1104 0,.sl 1105 0,.i (a2.length : Int)]),(30,.arr 31 0 0 (.rats v9)),(1100,.arr 26 0 0 (.ratss [])),(1101,.arr 3 0 0 (.ints [])),(1104,.arr 26 0 0 (.ratss v3)),(1105,.arr 3 0 0 (.ints v4))]⟩) hk11 rfl rfl ?_ ?_
     ·intro s x hs
      clear h
      have h := hs
      clear hs
      obtain ⟨v5,v6⟩ := s
      refine Tri.f 1 [] [.keep [1,2,3,4,5,6,7,35] [1,2,3,30,1100,1101,1104,1105]] rfl trivial ?_
      rcases bif_some h with ⟨hd6,h⟩ | ⟨hd6,h⟩
      ·obtain ⟨hg7,h⟩ := grd_some h
       obtain ⟨hg8,h⟩ := grd_some h
       obtain ⟨⟨v7,v8⟩,hk9,h⟩ := bind_some h
       obtain ⟨hg10,h⟩ := grd_some h
       refine Tri.f 3 [.g true,.v (.agg [.i v7,.i v8])] [.rever 30,.keep [1,2,3,4,5,6,7] [1,2,3,30,1100,1101,1104,1105]] rfl ⟨hg10,fun _ => W12 (IntKind.i64.wrap ((-1 : Int) * ((a0.getD v2.toNat []).getD v5.toNat 0))) (v7,v8) hk9,hg8,hg7,hd6,trivial⟩ ?_
       cases h
       exact Tri.nil ⟨rfl,rfl⟩
      ·refine Tri.f 1 [.g false] [.keep [1,2,3,4,5,6] [1,2,3,30,1100,1101,1104,1105]] rfl ⟨hd6,trivial⟩ ?_
       cases h
       exact Tri.out 2 rfl ⟨nofun,rfl,rfl⟩
     ·intro e σ' hne hq
      obtain ⟨rfl,rfl⟩ := hq
      refine TriX.exit (K' := [.code [(3,0),(1,0),(0,0),(1,0),(0,0)] 4,.blk 1,.code [(3,0),(1,0),(0,0)] 2]) rfl ?_
      refine Tri.f 1 [] [.keep [1,2,3,4,5,6,8] [1,2,3,30,1100,1101,1104,1105]] rfl trivial ?_
      obtain ⟨v15,hk16,h⟩ := bind_some h
      refine Tri.loop (K1 := [.code [(3,0),(1,0),(0,0),(1,0),(0,0),(4,0),(1,0),(0,0)] 0]) (K2 := [.blk 4,.code [(3,0),(1,0),(0,0),(1,0),(0,0)] 5,.blk 1,.code [(3,0),(1,0),(0,0)] 2]) (fun (v10,v11) => ⟨[(1,.ptr 1 0),(2,.ptr 2 0),(3,.ptr 3 0),(4,.i v2),(5,.i (-1 : Int)),(6,.sl 30 0),(8,.i v10)],[(1,.box [.list (.intss a0),.list (.ints a1),.list (.rats a2)]),(2,.box [.sl 1100 0,.sl 1101 0,.i 0]),(3,.box [.sl 1104 0,.sl 1105 0,.i (a2.length : Int)]),(30,.arr 31 0 0 (.rats v11)),(1100,.arr 26 0 0 (.ratss [])),(1101,.arr 3 0 0 (.ints [])),(1104,.arr 26 0 0 (.ratss v3)),(1105,.arr 3 0 0 (.ints v4))]⟩) (fun x e σ' => match x with | v15 => e = .exit 4 ∧ σ' = ⟨[(1,.ptr 1 0),(2,.ptr 2 0),(3,.ptr 3 0),(4,.i v2),(5,.i (-1 : Int)),(6,.sl 30 0)],[(1,.box [.list (.intss a0),.list (.ints a1),.list (.rats a2)]),(2,.box [.sl 1100 0,.sl 1101 0,.i 0]),(3,.box [.sl 1104 0,.sl 1105 0,.i (a2.length : Int)]),(30,.arr 31 0 0 (.rats v15)),(1100,.arr 26 0 0 (.ratss [])),(1101,.arr 3 0 0 (.ints [])),(1104,.arr 26 0 0 (.ratss v3)),(1105,.arr 3 0 0 (.ints v4))]⟩) hk16 rfl rfl ?_ ?_
      ·intro s x hs
       clear h
       have h := hs
       clear hs
       obtain ⟨v10,v11⟩ := s
       refine Tri.f 1 [] [.keep [1,2,3,4,5,6,8,56] [1,2,3,30,1100,1101,1104,1105]] rfl trivial ?_
       rcases bif_some h with ⟨hd12,h⟩ | ⟨hd12,h⟩
       ·obtain ⟨v12,hk13,h⟩ := bind_some h
        obtain ⟨⟨v13,v14⟩,hk14,h⟩ := bind_some h
        obtain ⟨hg15,h⟩ := grd_some h
        refine Tri.f 3 [.g true,.v (.i v12),.v (.agg [.i v13,.i v14])] [.rever 30,.keep [1,2,3,4,5,6,8] [1,2,3,30,1100,1101,1104,1105]] rfl ⟨hg15,fun _ => W12 v12 (v13,v14) hk14,fun _ => W11 (v10 == v2) v12 hk13,hd12,trivial⟩ ?_
        cases h
        exact Tri.nil ⟨rfl,rfl⟩
       ·refine Tri.f 1 [.g false] [.keep [1,2,3,4,5,6] [1,2,3,30,1100,1101,1104,1105]] rfl ⟨hd12,trivial⟩ ?_
        cases h
        exact Tri.out 4 rfl ⟨nofun,rfl,rfl⟩
      ·intro e σ' hne hq
       obtain ⟨rfl,rfl⟩ := hq
       refine TriX.exit (K' := [.code [(3,0),(1,0),(0,0),(1,0),(0,0)] 5,.blk 1,.code [(3,0),(1,0),(0,0)] 2]) rfl ?_
       obtain ⟨hg17,h⟩ := grd_some h
       obtain ⟨⟨v16,v17⟩,hk18,h⟩ := bind_some h
       obtain ⟨hg19,h⟩ := grd_some h
       obtain ⟨hg20,h⟩ := grd_some h
       obtain ⟨hg21,h⟩ := grd_some h
       refine Tri.f 3 [.v (.agg [.i v16,.i v17])] [.rever 1104,.rever 1105,.keep [1,2,3,4] [1,2,3,1100,1101,1104,1105]] rfl ⟨hg21,hg20,hg19,fun _ => W12 (IntKind.i64.wrap ((-1 : Int) * (a1.getD v2.toNat 0))) (v16,v17) hk18,hg17,trivial⟩ ?_
       cases h
       exact Tri.nil ⟨rfl,rfl⟩
    ·refine Tri.f 3 [.g false] [.keep [1,2,3,4,5,6,7] [1,2,3,30,1100,1101,1104,1105]] rfl ⟨hd5,trivial⟩ ?_
     obtain ⟨v22,hk27,h⟩ := bind_some h
     refine Tri.loop (K1 := [.code [(3,0),(1,0),(0,0),(1,0),(0,0),(3,0),(1,0),(0,0)] 0]) (K2 := [.blk 2,.code [(3,0),(1,0),(0,0),(1,0),(0,0)] 4,.blk 1,.code [(3,0),(1,0),(0,0)] 2]) (fun (v18,v19) => ⟨[(1,.ptr 1 0),(2,.ptr 2 0),(3,.ptr 3 0),(4,.i v2),(5,.i (1 : Int)),(6,.sl 30 0),(7,.i v18)],[(1,.box [.list (.intss a0),.list (.ints a1),.list (.rats a2)]),(2,.box [.sl 1100 0,.sl 1101 0,.i 0]),(3,.box [.sl 1104 0,.sl 1105 0,.i (a2.length : Int)]),(30,.arr 31 0 0 (.rats v19)),(1100,.arr 26 0 0 (.ratss [])),(1101,.arr 3 0 0 (.ints [])),(1104,.arr 26 0 0 (.ratss v3)),(1105,.arr 3 0 0 (.ints v4))]⟩) (fun x e σ' => match x with | v22 => e = .exit 2 ∧ σ' = ⟨[(1,.ptr 1 0),(2,.ptr 2 0),(3,.ptr 3 0),(4,.i v2),(5,.i (1 : Int)),(6,.sl 30 0)],[(1,.box [.list (.intss a0),.list (.ints a1),.list (.rats a2)]),(2,.box [.sl 1100 0,.sl 1101 0,.i 0]),(3,.box [.sl 1104 0,.sl 1105 0,.i (a2.length : Int)]),(30,.arr 31 0 0 (.rats v22)),(1100,.arr 26 0 0 (.ratss [])),(1101,.arr 3 0 0 (.ints [])),(1104,.arr 26 0 0 (.ratss v3)),(1105,.arr 3 0 0 (.ints v4))]⟩) hk27 rfl rfl ?_ ?_
     ·intro s x hs
      clear h
      have h := hs
      clear hs
      obtain ⟨v18,v19⟩ := s
      refine Tri.f 1 [] [.keep [1,2,3,4,5,6,7,35] [1,2,3,30,1100,1101,1104,1105]] rfl trivial ?_
      rcases bif_some h with ⟨hd22,h⟩ | ⟨hd22,h⟩
      ·obtain ⟨hg23,h⟩ := grd_some h
       obtain ⟨hg24,h⟩ := grd_some h
       obtain ⟨⟨v20,v21⟩,hk25,h⟩ := bind_some h
       obtain ⟨hg26,h⟩ := grd_some h
       refine Tri.f 3 [.g true,.v (.agg [.i v20,.i v21])] [.rever 30,.keep [1,2,3,4,5,6,7] [1,2,3,30,1100,1101,1104,1105]] rfl ⟨hg26,fun _ => W12 (IntKind.i64.wrap ((1 : Int) * ((a0.getD v2.toNat []).getD v18.toNat 0))) (v20,v21) hk25,hg24,hg23,hd22,trivial⟩ ?_
       cases h
       exact Tri.nil ⟨rfl,rfl⟩
      ·refine Tri.f 1 [.g false] [.keep [1,2,3,4,5,6] [1,2,3,30,1100,1101,1104,1105]] rfl ⟨hd22,trivial⟩ ?_
       cases h
       exact Tri.out 2 rfl ⟨nofun,rfl,rfl⟩
     ·intro e σ' hne hq
      obtain ⟨rfl,rfl⟩ := hq
      refine TriX.exit (K' := [.code [(3,0),(1,0),(0,0),(1,0),(0,0)] 4,.blk 1,.code [(3,0),(1,0),(0,0)] 2]) rfl ?_
      refine Tri.f 1 [] [.keep [1,2,3,4,5,6,8] [1,2,3,30,1100,1101,1104,1105]] rfl trivial ?_
      obtain ⟨v28,hk32,h⟩ := bind_some h
      refine Tri.loop (K1 := [.code [(3,0),(1,0),(0,0),(1,0),(0,0),(4,0),(1,0),(0,0)] 0]) (K2 := [.blk 4,.code [(3,0),(1,0),(0,0),(1,0),(0,0)] 5,.blk 1,.code [(3,0),(1,0),(0,0)] 2]) (fun (v23,v24) => ⟨[(1,.ptr 1 0),(2,.ptr 2 0),(3,.ptr 3 0),(4,.i v2),(5,.i (1 : Int)),(6,.sl 30 0),(8,.i v23)],[(1,.box [.list (.intss a0),.list (.ints a1),.list (.rats a2)]),(2,.box [.sl 1100 0,.sl 1101 0,.i 0]),(3,.box [.sl 1104 0,.sl 1105 0,.i (a2.length : Int)]),(30,.arr 31 0 0 (.rats v24)),(1100,.arr 26 0 0 (.ratss [])),(1101,.arr 3 0 0 (.ints [])),(1104,.arr 26 0 0 (.ratss v3)),(1105,.arr 3 0 0 (.ints v4))]⟩) (fun x e σ' => match x with | v28 => e = .exit 4 ∧ σ' = ⟨[(1,.ptr 1 0),(2,.ptr 2 0),(3,.ptr 3 0),(4,.i v2),(5,.i (1 : Int)),(6,.sl 30 0)],[(1,.box [.list (.intss a0),.list (.ints a1),.list (.rats a2)]),(2,.box [.sl 1100 0,.sl 1101 0,.i 0]),(3,.box [.sl 1104 0,.sl 1105 0,.i (a2.length : Int)]),(30,.arr 31 0 0 (.rats v28)),(1100,.arr 26 0 0 (.ratss [])),(1101,.arr 3 0 0 (.ints [])),(1104,.arr 26 0 0 (.ratss v3)),(1105,.arr 3 0 0 (.ints v4))]⟩) hk32 rfl rfl ?_ ?_
      ·intro s x hs
       clear h
       have h := hs
       clear hs
       obtain ⟨v23,v24⟩ := s
       refine Tri.f 1 [] [.keep [1,2,3,4,5,6,8,56] [1,2,3,30,1100,1101,1104,1105]] rfl trivial ?_
       rcases bif_some h with ⟨hd28,h⟩ | ⟨hd28,h⟩
       ·obtain ⟨v25,hk29,h⟩ := bind_some h
        obtain ⟨⟨v26,v27⟩,hk30,h⟩ := bind_some h
        obtain ⟨hg31,h⟩ := grd_some h
        refine Tri.f 3 [.g true,.v (.i v25),.v (.agg [.i v26,.i v27])] [.rever 30,.keep [1,2,3,4,5,6,8] [1,2,3,30,1100,1101,1104,1105]] rfl ⟨hg31,fun _ => W12 v25 (v26,v27) hk30,fun _ => W11 (v23 == v2) v25 hk29,hd28,trivial⟩ ?_
        cases h
        exact Tri.nil ⟨rfl,rfl⟩
       ·refine Tri.f 1 [.g false] [.keep [1,2,3,4,5,6] [1,2,3,30,1100,1101,1104,1105]] rfl ⟨hd28,trivial⟩ ?_
        cases h
        exact Tri.out 4 rfl ⟨nofun,rfl,rfl⟩
      ·intro e σ' hne hq
       obtain ⟨rfl,rfl⟩ := hq
       refine TriX.exit (K' := [.code [(3,0),(1,0),(0,0),(1,0),(0,0)] 5,.blk 1,.code [(3,0),(1,0),(0,0)] 2]) rfl ?_
       obtain ⟨hg33,h⟩ := grd_some h
       obtain ⟨⟨v29,v30⟩,hk34,h⟩ := bind_some h
       obtain ⟨hg35,h⟩ := grd_some h
       obtain ⟨hg36,h⟩ := grd_some h
       obtain ⟨hg37,h⟩ := grd_some h
       refine Tri.f 3 [.v (.agg [.i v29,.i v30])] [.rever 1104,.rever 1105,.keep [1,2,3,4] [1,2,3,1100,1101,1104,1105]] rfl ⟨hg37,hg36,hg35,fun _ => W12 (IntKind.i64.wrap ((1 : Int) * (a1.getD v2.toNat 0))) (v29,v30) hk34,hg33,trivial⟩ ?_
       cases h
       exact Tri.nil ⟨rfl,rfl⟩
   ·refine Tri.f 1 [.g false] [.keep [2,3] [2,3,1100,1101,1104,1105]] rfl ⟨hd3,trivial⟩ ?_
    cases h
    exact Tri.out 0 rfl ⟨nofun,rfl,rfl⟩
  ·intro e σ' hne hq
   obtain ⟨v31,v32⟩ := x5
   obtain ⟨rfl,rfl⟩ := hq
   refine TriX.exit (K' := [.code [] 4]) rfl ?_
   refine Tri.f 1 [] [.swap 1104 1000,.swap 1105 1001,.keep [2] [2,1000,1001]] rfl trivial ?_
   cases h
   exact Tri.ret rfl ⟨.inl rfl,rfl,rfl⟩
noncomputable def E306 : Env := ⟨Tryz.prog,tys,(Tryz.f72.body).getD .skip,43,tysOk,mixedOk⟩
abbrev K191 (r : List Q) (σ' : ASt) : Prop := isRes E306.T Tryz.f72 (.sl 1000 0) [(1000,.arr 31 0 0 (.rats r))] σ'
noncomputable def l_spec_l7Costs_0 (a2 : List Q) (a3 : Bool) : (Int × (List Q)) → Option ((Int × (List Q)) ⊕ ((List Q)))
 | (v1,v2) => (
bif decide (v1 < (a2.length : Int)) then
(bif a3 then
((m_spec_l3Int (0 : Int)).bind fun (v3,v4) =>
grd (v2.length + ([⟨v3,v4⟩] : List Q).length ≤ room) <|
some (.inl (IntKind.i64.wrap (v1 + 1),v2 ++ [⟨v3,v4⟩])))
else
(grd (0 ≤ v1 ∧ v1 < (a2.length : Int)) <|
grd (v2.length + ([⟨(a2.getD v1.toNat ⟨0,0⟩).num,(a2.getD v1.toNat ⟨0,0⟩).den⟩] : List Q).length ≤ room) <|
some (.inl (IntKind.i64.wrap (v1 + 1),v2 ++ [⟨(a2.getD v1.toNat ⟨0,0⟩).num,(a2.getD v1.toNat ⟨0,0⟩).den⟩]))))
else
(some (.inr v2)))
noncomputable def l_spec_l7Costs_1 (a0 : List (List Int)) (a3 : Bool) : (Int × (List Q)) → Option ((Int × (List Q)) ⊕ ((List Q)))
 | (v6,v7) => (
bif decide (v6 < (a0.length : Int)) then
((m_spec_l1Bit a3).bind fun v8 =>
(m_spec_l3Int v8).bind fun (v9,v10) =>
grd (v7.length + ([⟨v9,v10⟩] : List Q).length ≤ room) <|
some (.inl (IntKind.i64.wrap (v6 + 1),v7 ++ [⟨v9,v10⟩])))
else
(some (.inr v7)))
noncomputable def m_spec_l7Costs (a0 : List (List Int)) (_a1 : List Int) (a2 : List Q) (a3 : Bool) : Option (List Q) :=
(iter (l_spec_l7Costs_0 a2 a3) ((0 : Int),[])).bind fun
| v5 => (
(iter (l_spec_l7Costs_1 a0 a3) ((0 : Int),v5)).bind fun
| v11 => (
some v11))
theorem W73 (a0 : List (List Int)) (a1 : List Int) (a2 : List Q) (a3 : Bool) (r : List Q) (h : m_spec_l7Costs a0 a1 a2 a3 = some r) : AM.Spec Tryz.prog 72 [.agg [.list (.intss a0),.list (.ints a1),.list (.rats a2)],.bool a3] [] (.sl 1000 0) [(1000,.arr 31 0 0 (.rats r))] := by
 refine spec_of (E := E306) Tryz.func72 rfl rfl rfl rfl ?_
 refine Tri.f 3 [] [.keep [1,2,5,6] [2,8]] rfl trivial ?_
 obtain ⟨v5,hk7,h⟩ := bind_some h
 refine Tri.loop (K1 := [.code [(2,0),(1,0),(0,0)] 0]) (K2 := [.blk 0,.code [] 3]) (fun (v1,v2) => ⟨[(1,.bool a3),(2,.ptr 2 0),(5,.sl 8 0),(6,.i v1)],[(2,.box [.list (.intss a0),.list (.ints a1),.list (.rats a2)]),(8,.arr 31 0 0 (.rats v2))]⟩) (fun x e σ' => match x with | v5 => e = .exit 0 ∧ σ' = ⟨[(1,.bool a3),(2,.ptr 2 0),(5,.sl 8 0)],[(2,.box [.list (.intss a0),.list (.ints a1),.list (.rats a2)]),(8,.arr 31 0 0 (.rats v5))]⟩) hk7 rfl rfl ?_ ?_
 ·intro s x hs
  clear h
  have h := hs
  clear hs
  obtain ⟨v1,v2⟩ := s
  refine Tri.f 1 [] [.keep [1,2,5,6,13] [2,8]] rfl trivial ?_
  rcases bif_some h with ⟨hd1,h⟩ | ⟨hd1,h⟩
  ·refine Tri.f 2 [.g true] [.keep [1,2,5,6,16] [2,8]] rfl ⟨hd1,trivial⟩ ?_
   rcases bif_some h with ⟨hd2,h⟩ | ⟨hd2,h⟩
   ·obtain ⟨⟨v3,v4⟩,hk3,h⟩ := bind_some h
    obtain ⟨hg4,h⟩ := grd_some h
    refine Tri.f 3 [.g true,.v (.agg [.i v3,.i v4])] [.rever 8,.keep [1,2,5,6] [2,8]] rfl ⟨hg4,fun _ => W12 (0 : Int) (v3,v4) hk3,hd2,trivial⟩ ?_
    cases h
    exact Tri.nil ⟨rfl,rfl⟩
   ·obtain ⟨hg5,h⟩ := grd_some h
    obtain ⟨hg6,h⟩ := grd_some h
    refine Tri.f 3 [.g false] [.rever 8,.keep [1,2,5,6] [2,8]] rfl ⟨hg6,hg5,hd2,trivial⟩ ?_
    cases h
    exact Tri.nil ⟨rfl,rfl⟩
  ·refine Tri.f 1 [.g false] [.keep [1,2,5] [2,8]] rfl ⟨hd1,trivial⟩ ?_
   cases h
   exact Tri.out 0 rfl ⟨nofun,rfl,rfl⟩
 ·intro e σ' hne hq
  obtain ⟨rfl,rfl⟩ := hq
  refine TriX.exit (K' := [.code [] 3]) rfl ?_
  refine Tri.f 1 [] [.keep [1,2,5,7] [2,8]] rfl trivial ?_
  obtain ⟨v11,hk12,h⟩ := bind_some h
  refine Tri.loop (K1 := [.code [(3,0),(1,0),(0,0)] 0]) (K2 := [.blk 2,.code [] 4]) (fun (v6,v7) => ⟨[(1,.bool a3),(2,.ptr 2 0),(5,.sl 8 0),(7,.i v6)],[(2,.box [.list (.intss a0),.list (.ints a1),.list (.rats a2)]),(8,.arr 31 0 0 (.rats v7))]⟩) (fun x e σ' => match x with | v11 => e = .exit 2 ∧ σ' = ⟨[(5,.sl 8 0)],[(8,.arr 31 0 0 (.rats v11))]⟩) hk12 rfl rfl ?_ ?_
  ·intro s x hs
   clear h
   have h := hs
   clear hs
   obtain ⟨v6,v7⟩ := s
   refine Tri.f 1 [] [.keep [1,2,5,7,33] [2,8]] rfl trivial ?_
   rcases bif_some h with ⟨hd8,h⟩ | ⟨hd8,h⟩
   ·obtain ⟨v8,hk9,h⟩ := bind_some h
    obtain ⟨⟨v9,v10⟩,hk10,h⟩ := bind_some h
    obtain ⟨hg11,h⟩ := grd_some h
    refine Tri.f 3 [.g true,.v (.i v8),.v (.agg [.i v9,.i v10])] [.rever 8,.keep [1,2,5,7] [2,8]] rfl ⟨hg11,fun _ => W12 v8 (v9,v10) hk10,fun _ => W11 a3 v8 hk9,hd8,trivial⟩ ?_
    cases h
    exact Tri.nil ⟨rfl,rfl⟩
   ·refine Tri.f 1 [.g false] [.keep [5] [8]] rfl ⟨hd8,trivial⟩ ?_
    cases h
    exact Tri.out 2 rfl ⟨nofun,rfl,rfl⟩
  ·intro e σ' hne hq
   obtain ⟨rfl,rfl⟩ := hq
   refine TriX.exit (K' := [.code [] 4]) rfl ?_
   refine Tri.f 1 [] [.swap 8 1000,.keep [4] [1000]] rfl trivial ?_
   cases h
   exact Tri.ret rfl ⟨.inl rfl,rfl,rfl⟩
noncomputable def E307 : Env := ⟨Tryz.prog,tys,(Tryz.f40.body).getD .skip,54,tysOk,mixedOk⟩
abbrev K192 (r : Bool) (σ' : ASt) : Prop := isRes E307.T Tryz.f40 (.bool r) [] σ'
noncomputable def l_spec_l6Good_0 (a0 : List (List Q)) (a1 : List Int) (a2 v1 : Int) : Option (Int ⊕ (Unit ⊕ Bool)) :=
bif decide (v1 < (a0.length : Int)) then
(grd (0 ≤ v1 ∧ v1 < (a0.length : Int)) <|
bif ((a0.getD v1.toNat []).length : Int) != (IntKind.i64.wrap ((IntKind.i64.wrap (a2 + (a0.length : Int))) + 1)) then
(some (.inr (.inr false)))
else
(grd (0 ≤ v1 ∧ v1 < (a1.length : Int)) <|
(m_spec_l1In (a1.getD v1.toNat 0) (0 : Int) (IntKind.i64.wrap ((IntKind.i64.wrap (a2 + (a0.length : Int))) - 1))).bind fun v2 =>
bif !v2 then
(some (.inr (.inr false)))
else
(some (.inl (IntKind.i64.wrap (v1 + 1))))))
else
(some (.inr (.inl ())))
noncomputable def m_spec_l6Good (a0 : List (List Q)) (a1 : List Int) (a2 : Int) : Option Bool :=
bif decide (a2 < 0) then
(some false)
else
(bif decide (a2 > 1000) then
(some false)
else
(bif (a1.length : Int) != (a0.length : Int) then
(some false)
else
((iter (l_spec_l6Good_0 a0 a1 a2) (0 : Int)).bind fun
| (.inl _) => (
some true)
| (.inr r) => some r)))
theorem W74 (a0 : List (List Q)) (a1 : List Int) (a2 : Int) (r : Bool) (h : m_spec_l6Good a0 a1 a2 = some r) : AM.Spec Tryz.prog 40 [.agg [.list (.ratss a0),.list (.ints a1),.i a2]] [] (.bool r) [] := by
 refine spec_of (E := E307) Tryz.func40 rfl rfl rfl rfl ?_
 refine Tri.f 2 [] [.keep [1,3] [1]] rfl trivial ?_
 rcases bif_some h with ⟨hd1,h⟩ | ⟨hd1,h⟩
 ·refine Tri.f 1 [.g true,.g true] [.keep [1,3,22] [1]] rfl ⟨rfl,hd1,trivial⟩ ?_
  refine Tri.f 2 [.g true] [.keep [2] []] rfl ⟨rfl,trivial⟩ ?_
  cases h
  exact Tri.ret rfl ⟨.inl rfl,rfl,rfl⟩
 ·rcases bif_some h with ⟨hd2,h⟩ | ⟨hd2,h⟩
  ·refine Tri.f 1 [.g false,.g true] [.keep [1,3,22] [1]] rfl ⟨hd2,hd1,trivial⟩ ?_
   refine Tri.f 2 [.g true] [.keep [2] []] rfl ⟨rfl,trivial⟩ ?_
   cases h
   exact Tri.ret rfl ⟨.inl rfl,rfl,rfl⟩
  ·refine Tri.f 1 [.g false,.g false] [.keep [1,3,22] [1]] rfl ⟨hd2,hd1,trivial⟩ ?_
   rcases bif_some h with ⟨hd3,h⟩ | ⟨hd3,h⟩
   ·refine Tri.f 2 [.g true] [.keep [2] []] rfl ⟨hd3,trivial⟩ ?_
    cases h
    exact Tri.ret rfl ⟨.inl rfl,rfl,rfl⟩
   ·refine Tri.f 2 [.g false] [.keep [1,3,4] [1]] rfl ⟨hd3,trivial⟩ ?_
    obtain ⟨x1,hk10,h⟩ := bind_some h
    refine Tri.loop (K1 := [.code [(3,0),(1,0),(0,0)] 0]) (K2 := [.blk 0,.code [] 4]) (fun v1 => ⟨[(1,.ptr 1 0),(3,.i (a0.length : Int)),(4,.i v1)],[(1,.box [.list (.ratss a0),.list (.ints a1),.i a2])]⟩) (fun x e σ' => match x with | (.inl _) => e = .exit 0 ∧ σ' = ⟨[],[]⟩ | (.inr r) => e = .ret ∧ K192 r σ') hk10 rfl rfl ?_ ?_
    ·intro v1 x hs
     clear h
     have h := hs
     clear hs
     refine Tri.f 1 [] [.keep [1,3,4,25] [1]] rfl trivial ?_
     rcases bif_some h with ⟨hd4,h⟩ | ⟨hd4,h⟩
     ·obtain ⟨hg5,h⟩ := grd_some h
      rcases bif_some h with ⟨hd6,h⟩ | ⟨hd6,h⟩
      ·refine Tri.f 2 [.g true,.g true] [.keep [1,3,4,53] [1]] rfl ⟨hd6,hg5,hd4,trivial⟩ ?_
       refine Tri.f 2 [.g true] [.keep [2] []] rfl ⟨rfl,trivial⟩ ?_
       cases h
       exact Tri.ret rfl ⟨nofun,rfl,rfl,rfl⟩
      ·obtain ⟨hg7,h⟩ := grd_some h
       obtain ⟨v2,hk8,h⟩ := bind_some h
       refine Tri.f 2 [.g true,.g false,.v (.bool v2)] [.keep [1,3,4,53] [1]] rfl ⟨fun _ => W7 (a1.getD v1.toNat 0) (0 : Int) (IntKind.i64.wrap ((IntKind.i64.wrap (a2 + (a0.length : Int))) - 1)) v2 hk8,hg7,hd6,hg5,hd4,trivial⟩ ?_
       rcases bif_some h with ⟨hd9,h⟩ | ⟨hd9,h⟩
       ·refine Tri.f 2 [.g true] [.keep [2] []] rfl ⟨hd9,trivial⟩ ?_
        cases h
        exact Tri.ret rfl ⟨nofun,rfl,rfl,rfl⟩
       ·refine Tri.f 2 [.g false] [.keep [1,3,4] [1]] rfl ⟨hd9,trivial⟩ ?_
        cases h
        exact Tri.nil ⟨rfl,rfl⟩
     ·refine Tri.f 1 [.g false] [.keep [] []] rfl ⟨hd4,trivial⟩ ?_
      cases h
      exact Tri.out 0 rfl ⟨nofun,rfl,rfl⟩
    ·intro e σ' hne hq
     rcases x1 with _ | r
     ·obtain ⟨rfl,rfl⟩ := hq
      refine TriX.exit (K' := [.code [] 4]) rfl ?_
      refine Tri.f 1 [] [.keep [2] []] rfl trivial ?_
      cases h
      exact Tri.ret rfl ⟨.inl rfl,rfl,rfl⟩
     ·obtain ⟨rfl,hq⟩ := hq
      cases h
      exact TriX.ret ⟨.inl rfl,hq⟩
noncomputable def E308 : Env := ⟨Tryz.prog,tys,(Tryz.f25.body).getD .skip,6,tysOk,mixedOk⟩
abbrev K193 (r : List Q) (σ' : ASt) : Prop := isRes E308.T Tryz.f25 (.sl 1000 0) [(1000,.arr 31 0 0 (.rats r))] σ'
noncomputable def m_spec_l4Copy (a0 : List Q) : Option (List Q) :=
grd (([] : List Q).length + a0.length ≤ room) <|
some ([] ++ a0)
theorem W75 (a0 r : List Q) (h : m_spec_l4Copy a0 = some r) : AM.Spec Tryz.prog 25 [.list (.rats a0)] [] (.sl 1000 0) [(1000,.arr 31 0 0 (.rats r))] := by
 refine spec_of (E := E308) Tryz.func25 rfl rfl rfl rfl ?_
 obtain ⟨hg1,h⟩ := grd_some h
 refine Tri.f 2 [] [.rever 3,.swap 3 1000,.keep [2] [1000]] rfl ⟨hg1,trivial⟩ ?_
 cases h
 exact Tri.ret rfl ⟨.inl rfl,rfl,rfl⟩
noncomputable def E309 : Env := ⟨Tryz.prog,tys,(Tryz.f98.body).getD .skip,28,tysOk,mixedOk⟩
abbrev K194 (r : Int × Int × Bool) (σ' : ASt) : Prop := isRes E309.T Tryz.f98 (.tuple [.agg [.i r.1,.i r.2.1],.bool r.2.2]) [] σ'
noncomputable def m_spec_MulRat (a0 a1 a2 a3 : Int) : Option (Int × Int × Bool) :=
(m_spec_IsValidRat a0 a1).bind fun v1 =>
bif !v1 then
(some (0,0,false))
else
((m_spec_IsValidRat a2 a3).bind fun v2 =>
bif !v2 then
(some (0,0,false))
else
((m_spec_RatOf (IntKind.i64.wrap (a0 * a2)) (IntKind.i64.wrap (a1 * a3))).bind fun (v3,v4,v5) =>
some (v3,v4,v5)))
theorem W76 (a0 a1 a2 a3 : Int) (r : Int × Int × Bool) (h : m_spec_MulRat a0 a1 a2 a3 = some r) : AM.Spec Tryz.prog 98 [.agg [.i a0,.i a1],.agg [.i a2,.i a3]] [] (.tuple [.agg [.i r.1,.i r.2.1],.bool r.2.2]) [] := by
 refine spec_of (E := E309) Tryz.func98 rfl rfl rfl rfl ?_
 refine Tri.f 1 [] [.keep [2,3,4] [2,3,4]] rfl trivial ?_
 obtain ⟨v1,hk1,h⟩ := bind_some h
 rcases bif_some h with ⟨hd2,h⟩ | ⟨hd2,h⟩
 ·refine Tri.f 1 [.v (.bool v1),.g true] [.keep [2,3,4,13] [2,3,4]] rfl ⟨hd2,fun _ => W9 a0 a1 v1 hk1,trivial⟩ ?_
  refine Tri.f 2 [.g true] [.keep [4,5] [4]] rfl ⟨rfl,trivial⟩ ?_
  cases h
  exact Tri.ret rfl ⟨.inl rfl,rfl,rfl⟩
 ·obtain ⟨v2,hk3,h⟩ := bind_some h
  refine Tri.f 1 [.v (.bool v1),.g false,.v (.bool v2)] [.keep [2,3,4,13] [2,3,4]] rfl ⟨fun _ => W9 a2 a3 v2 hk3,hd2,fun _ => W9 a0 a1 v1 hk1,trivial⟩ ?_
  rcases bif_some h with ⟨hd4,h⟩ | ⟨hd4,h⟩
  ·refine Tri.f 2 [.g true] [.keep [4,5] [4]] rfl ⟨hd4,trivial⟩ ?_
   cases h
   exact Tri.ret rfl ⟨.inl rfl,rfl,rfl⟩
  ·obtain ⟨⟨v3,v4,v5⟩,hk5,h⟩ := bind_some h
   refine Tri.f 2 [.g false,.v (.tuple [.agg [.i v3,.i v4],.bool v5])] [.keep [4,5] [4]] rfl ⟨fun _ => W10 (IntKind.i64.wrap (a0 * a2)) (IntKind.i64.wrap (a1 * a3)) (v3,v4,v5) hk5,hd4,trivial⟩ ?_
   cases h
   exact Tri.ret rfl ⟨.inl rfl,rfl,rfl⟩
noncomputable def E310 : Env := ⟨Tryz.prog,tys,(Tryz.f99.body).getD .skip,34,tysOk,mixedOk⟩
abbrev K195 (r : Int × Int × Bool) (σ' : ASt) : Prop := isRes E310.T Tryz.f99 (.tuple [.agg [.i r.1,.i r.2.1],.bool r.2.2]) [] σ'
noncomputable def m_spec_AddRat (a0 a1 a2 a3 : Int) : Option (Int × Int × Bool) :=
(m_spec_IsValidRat a0 a1).bind fun v1 =>
bif !v1 then
(some (0,0,false))
else
((m_spec_IsValidRat a2 a3).bind fun v2 =>
bif !v2 then
(some (0,0,false))
else
((m_spec_RatOf (IntKind.i64.wrap ((IntKind.i64.wrap (a0 * a3)) + (IntKind.i64.wrap (a2 * a1)))) (IntKind.i64.wrap (a1 * a3))).bind fun (v3,v4,v5) =>
some (v3,v4,v5)))
theorem W77 (a0 a1 a2 a3 : Int) (r : Int × Int × Bool) (h : m_spec_AddRat a0 a1 a2 a3 = some r) : AM.Spec Tryz.prog 99 [.agg [.i a0,.i a1],.agg [.i a2,.i a3]] [] (.tuple [.agg [.i r.1,.i r.2.1],.bool r.2.2]) [] := by
 refine spec_of (E := E310) Tryz.func99 rfl rfl rfl rfl ?_
 refine Tri.f 1 [] [.keep [2,3,4] [2,3,4]] rfl trivial ?_
 obtain ⟨v1,hk1,h⟩ := bind_some h
 rcases bif_some h with ⟨hd2,h⟩ | ⟨hd2,h⟩
 ·refine Tri.f 1 [.v (.bool v1),.g true] [.keep [2,3,4,13] [2,3,4]] rfl ⟨hd2,fun _ => W9 a0 a1 v1 hk1,trivial⟩ ?_
  refine Tri.f 2 [.g true] [.keep [4,5] [4]] rfl ⟨rfl,trivial⟩ ?_
  cases h
  exact Tri.ret rfl ⟨.inl rfl,rfl,rfl⟩
 ·obtain ⟨v2,hk3,h⟩ := bind_some h
  refine Tri.f 1 [.v (.bool v1),.g false,.v (.bool v2)] [.keep [2,3,4,13] [2,3,4]] rfl ⟨fun _ => W9 a2 a3 v2 hk3,hd2,fun _ => W9 a0 a1 v1 hk1,trivial⟩ ?_
  rcases bif_some h with ⟨hd4,h⟩ | ⟨hd4,h⟩
  ·refine Tri.f 2 [.g true] [.keep [4,5] [4]] rfl ⟨hd4,trivial⟩ ?_
   cases h
   exact Tri.ret rfl ⟨.inl rfl,rfl,rfl⟩
  ·obtain ⟨⟨v3,v4,v5⟩,hk5,h⟩ := bind_some h
   refine Tri.f 2 [.g false,.v (.tuple [.agg [.i v3,.i v4],.bool v5])] [.keep [4,5] [4]] rfl ⟨fun _ => W10 (IntKind.i64.wrap ((IntKind.i64.wrap (a0 * a3)) + (IntKind.i64.wrap (a2 * a1)))) (IntKind.i64.wrap (a1 * a3)) (v3,v4,v5) hk5,hd4,trivial⟩ ?_
   cases h
   exact Tri.ret rfl ⟨.inl rfl,rfl,rfl⟩
noncomputable def E311 : Env := ⟨Tryz.prog,tys,(Tryz.f83.body).getD .skip,57,tysOk,mixedOk⟩
abbrev K196 (r : Bool × (List Q)) (σ' : ASt) : Prop := isRes E311.T Tryz.f83 (.tuple [.sl 1000 0,.bool r.1]) [(1000,.arr 31 0 0 (.rats r.2))] σ'
noncomputable def l_spec_AddScaled_0 (a0 : List Q) (a1 a2 : Int) (a3 : List Q) : (Int × (List Q)) → Option ((Int × (List Q)) ⊕ ((List Q) ⊕ ((Bool × (List Q)))))
 | (v1,v2) => (
bif decide (v1 < (a0.length : Int)) then
(grd (0 ≤ v1 ∧ v1 < (a3.length : Int)) <|
(m_spec_MulRat a1 a2 ((a3.getD v1.toNat ⟨0,0⟩).num) ((a3.getD v1.toNat ⟨0,0⟩).den)).bind fun (v3,v4,v5) =>
grd (0 ≤ v1 ∧ v1 < (a0.length : Int)) <|
(m_spec_AddRat ((a0.getD v1.toNat ⟨0,0⟩).num) ((a0.getD v1.toNat ⟨0,0⟩).den) v3 v4).bind fun (v6,v7,v8) =>
bif !v5 then
(some (.inr (.inr (false,[]))))
else
(bif !v8 then
(some (.inr (.inr (false,[]))))
else
(grd (v2.length + ([⟨v6,v7⟩] : List Q).length ≤ room) <|
some (.inl (IntKind.i64.wrap (v1 + 1),v2 ++ [⟨v6,v7⟩])))))
else
(some (.inr (.inl v2))))
noncomputable def m_spec_AddScaled (a0 : List Q) (a1 a2 : Int) (a3 : List Q) : Option (Bool × (List Q)) :=
bif (a0.length : Int) != (a3.length : Int) then
(some (false,[]))
else
((iter (l_spec_AddScaled_0 a0 a1 a2 a3) ((0 : Int),[])).bind fun
| (.inl v9) => (
some (true,v9))
| (.inr r) => some r)
theorem W78 (a0 : List Q) (a1 a2 : Int) (a3 : List Q) (r : Bool × (List Q)) (h : m_spec_AddScaled a0 a1 a2 a3 = some r) : AM.Spec Tryz.prog 83 [.list (.rats a0),.agg [.i a1,.i a2],.list (.rats a3)] [] (.tuple [.sl 1000 0,.bool r.1]) [(1000,.arr 31 0 0 (.rats r.2))] := by
 refine spec_of (E := E311) Tryz.func83 rfl rfl rfl rfl ?_
 refine Tri.f 3 [] [.keep [0,2,4,8,19] [4,14]] rfl trivial ?_
 rcases bif_some h with ⟨hd1,h⟩ | ⟨hd1,h⟩
 ·refine Tri.f 2 [.g true] [.swap 14 1000,.keep [6,7] [1000]] rfl ⟨hd1,trivial⟩ ?_
  cases h
  exact Tri.ret rfl ⟨.inl rfl,rfl,rfl⟩
 ·refine Tri.f 2 [.g false] [.keep [0,2,4,8,9] [4,14]] rfl ⟨hd1,trivial⟩ ?_
  obtain ⟨x1,hk10,h⟩ := bind_some h
  refine Tri.loop (K1 := [.code [(3,0),(1,0),(0,0)] 0]) (K2 := [.blk 0,.code [] 4]) (fun (v1,v2) => ⟨[(0,.list (.rats a0)),(2,.list (.rats a3)),(4,.ptr 4 0),(8,.sl 14 0),(9,.i v1)],[(4,.box [.i a1,.i a2]),(14,.arr 31 0 0 (.rats v2))]⟩) (fun x e σ' => match x with | (.inl v9) => e = .exit 0 ∧ σ' = ⟨[(8,.sl 14 0)],[(14,.arr 31 0 0 (.rats v9))]⟩ | (.inr r) => e = .ret ∧ K196 r σ') hk10 rfl rfl ?_ ?_
  ·intro s x hs
   clear h
   have h := hs
   clear hs
   obtain ⟨v1,v2⟩ := s
   refine Tri.f 1 [] [.keep [0,2,4,8,9,24] [4,14]] rfl trivial ?_
   rcases bif_some h with ⟨hd2,h⟩ | ⟨hd2,h⟩
   ·obtain ⟨hg3,h⟩ := grd_some h
    obtain ⟨⟨v3,v4,v5⟩,hk4,h⟩ := bind_some h
    refine Tri.f 2 [.g true,.v (.tuple [.agg [.i v3,.i v4],.bool v5])] [.keep [0,2,4,8,9,10,11] [4,10,14]] rfl ⟨fun _ => W76 a1 a2 ((a3.getD v1.toNat ⟨0,0⟩).num) ((a3.getD v1.toNat ⟨0,0⟩).den) (v3,v4,v5) hk4,hg3,hd2,trivial⟩ ?_
    obtain ⟨hg5,h⟩ := grd_some h
    obtain ⟨⟨v6,v7,v8⟩,hk6,h⟩ := bind_some h
    rcases bif_some h with ⟨hd7,h⟩ | ⟨hd7,h⟩
    ·refine Tri.f 2 [.v (.tuple [.agg [.i v6,.i v7],.bool v8]),.g true] [.keep [0,2,4,8,9,12,50] [4,12,14]] rfl ⟨hd7,fun _ => W77 ((a0.getD v1.toNat ⟨0,0⟩).num) ((a0.getD v1.toNat ⟨0,0⟩).den) v3 v4 (v6,v7,v8) hk6,hg5,trivial⟩ ?_
     refine Tri.f 2 [.g true] [.swap 51 1000,.keep [6,7] [1000]] rfl ⟨rfl,trivial⟩ ?_
     cases h
     exact Tri.ret rfl ⟨nofun,rfl,rfl,rfl⟩
    ·refine Tri.f 2 [.v (.tuple [.agg [.i v6,.i v7],.bool v8]),.g false] [.keep [0,2,4,8,9,12,50] [4,12,14]] rfl ⟨hd7,fun _ => W77 ((a0.getD v1.toNat ⟨0,0⟩).num) ((a0.getD v1.toNat ⟨0,0⟩).den) v3 v4 (v6,v7,v8) hk6,hg5,trivial⟩ ?_
     rcases bif_some h with ⟨hd8,h⟩ | ⟨hd8,h⟩
     ·refine Tri.f 2 [.g true] [.swap 51 1000,.keep [6,7] [1000]] rfl ⟨hd8,trivial⟩ ?_
      cases h
      exact Tri.ret rfl ⟨nofun,rfl,rfl,rfl⟩
     ·obtain ⟨hg9,h⟩ := grd_some h
      refine Tri.f 3 [.g false] [.rever 14,.keep [0,2,4,8,9] [4,14]] rfl ⟨hg9,hd8,trivial⟩ ?_
      cases h
      exact Tri.nil ⟨rfl,rfl⟩
   ·refine Tri.f 1 [.g false] [.keep [8] [14]] rfl ⟨hd2,trivial⟩ ?_
    cases h
    exact Tri.out 0 rfl ⟨nofun,rfl,rfl⟩
  ·intro e σ' hne hq
   rcases x1 with v9 | r
   ·obtain ⟨rfl,rfl⟩ := hq
    refine TriX.exit (K' := [.code [] 4]) rfl ?_
    refine Tri.f 1 [] [.swap 14 1000,.keep [6,7] [1000]] rfl trivial ?_
    cases h
    exact Tri.ret rfl ⟨.inl rfl,rfl,rfl⟩
   ·obtain ⟨rfl,hq⟩ := hq
    cases h
    exact TriX.ret ⟨.inl rfl,hq⟩
noncomputable def E312 : Env := ⟨Tryz.prog,tys,(Tryz.f31.body).getD .skip,75,tysOk,mixedOk⟩
abbrev K197 (r : Bool × (List Q)) (σ' : ASt) : Prop := isRes E312.T Tryz.f31 (.tuple [.sl 1000 0,.bool r.1]) [(1000,.arr 31 0 0 (.rats r.2))] σ'
noncomputable def l_spec_CostRow_0 (a0 : List (List Q)) (a1 : List Int) (a3 : List Q) : (Bool × Int × (List Q)) → Option ((Bool × Int × (List Q)) ⊕ ((Bool × (List Q))))
 | (v6,v7,v8) => (
bif decide (v7 < (a0.length : Int)) then
(bif v6 then
(grd (0 ≤ v7 ∧ v7 < (a1.length : Int)) <|
grd (0 ≤ a1.getD v7.toNat 0 ∧ a1.getD v7.toNat 0 < (a3.length : Int)) <|
grd (0 ≤ v7 ∧ v7 < (a1.length : Int)) <|
grd (0 ≤ a1.getD v7.toNat 0 ∧ a1.getD v7.toNat 0 < (a3.length : Int)) <|
grd (0 ≤ v7 ∧ v7 < (a0.length : Int)) <|
(m_spec_AddScaled v8 (IntKind.i64.wrap (0 - ((a3.getD ((a1.getD v7.toNat 0).toNat) ⟨0,0⟩).num))) ((a3.getD ((a1.getD v7.toNat 0).toNat) ⟨0,0⟩).den) (a0.getD v7.toNat [])).bind fun (v9,v10) =>
some (.inl (v9,IntKind.i64.wrap (v7 + 1),v10)))
else
(some (.inr (v6,v8))))
else
(some (.inr (v6,v8))))
noncomputable def m_spec_CostRow (a0 : List (List Q)) (a1 : List Int) (a2 : Int) (a3 : List Q) : Option (Bool × (List Q)) :=
(m_spec_l6Good a0 a1 a2).bind fun v1 =>
bif !v1 then
(some (false,[]))
else
(bif (a3.length : Int) != (IntKind.i64.wrap (a2 + (a0.length : Int))) then
(some (false,[]))
else
((m_spec_l4Copy a3).bind fun v2 =>
(m_spec_l3Int (0 : Int)).bind fun (v3,v4) =>
grd (v2.length + ([⟨v3,v4⟩] : List Q).length ≤ room) <|
(m_spec_AllValid a3).bind fun v5 =>
(iter (l_spec_CostRow_0 a0 a1 a3) (v5,(0 : Int),v2 ++ [⟨v3,v4⟩])).bind fun
| (v11,v12) => (
bif !v11 then
(some (false,[]))
else
(some (true,v12)))))
theorem W79 (a0 : List (List Q)) (a1 : List Int) (a2 : Int) (a3 : List Q) (r : Bool × (List Q)) (h : m_spec_CostRow a0 a1 a2 a3 = some r) : AM.Spec Tryz.prog 31 [.agg [.list (.ratss a0),.list (.ints a1),.i a2],.list (.rats a3)] [] (.tuple [.sl 1000 0,.bool r.1]) [(1000,.arr 31 0 0 (.rats r.2))] := by
 refine spec_of (E := E312) Tryz.func31 rfl rfl rfl rfl ?_
 refine Tri.f 1 [] [.keep [1,2] [2]] rfl trivial ?_
 obtain ⟨v1,hk1,h⟩ := bind_some h
 rcases bif_some h with ⟨hd2,h⟩ | ⟨hd2,h⟩
 ·refine Tri.f 1 [.v (.bool v1),.g true] [.keep [1,2,22] [2]] rfl ⟨hd2,fun _ => W74 a0 a1 a2 v1 hk1,trivial⟩ ?_
  refine Tri.f 2 [.g true] [.swap 23 1000,.keep [4,5] [1000]] rfl ⟨rfl,trivial⟩ ?_
  cases h
  exact Tri.ret rfl ⟨.inl rfl,rfl,rfl⟩
 ·refine Tri.f 1 [.v (.bool v1),.g false] [.keep [1,2,22] [2]] rfl ⟨hd2,fun _ => W74 a0 a1 a2 v1 hk1,trivial⟩ ?_
  rcases bif_some h with ⟨hd3,h⟩ | ⟨hd3,h⟩
  ·refine Tri.f 2 [.g true] [.swap 23 1000,.keep [4,5] [1000]] rfl ⟨hd3,trivial⟩ ?_
   cases h
   exact Tri.ret rfl ⟨.inl rfl,rfl,rfl⟩
  ·obtain ⟨v2,hk4,h⟩ := bind_some h
   obtain ⟨⟨v3,v4⟩,hk5,h⟩ := bind_some h
   obtain ⟨hg6,h⟩ := grd_some h
   refine Tri.f 2 [.g false,.r ⟨[],.sl 1100 0,[(1100,.arr 31 0 0 (.rats v2))]⟩,.v (.agg [.i v3,.i v4])] [.keep [1,2,6] [2,1100],.rever 1100,.keep [1,2,6] [2,1100]] rfl ⟨hg6,fun _ => W12 (0 : Int) (v3,v4) hk5,fun _ => (W75 a3 v2 hk4).swap 1000 1100,hd3,trivial⟩ ?_
   obtain ⟨v5,hk7,h⟩ := bind_some h
   refine Tri.f 2 [.v (.bool v5)] [.keep [1,2,6,7,8] [2,1100]] rfl ⟨fun _ => W70 a3 v5 hk7,trivial⟩ ?_
   obtain ⟨x1,hk16,h⟩ := bind_some h
   refine Tri.loop (K1 := [.code [(4,0),(1,0),(0,0)] 0]) (K2 := [.blk 0,.code [] 5]) (fun (v6,v7,v8) => ⟨[(1,.list (.rats a3)),(2,.ptr 2 0),(6,.sl 1100 0),(7,.bool v6),(8,.i v7)],[(2,.box [.list (.ratss a0),.list (.ints a1),.i a2]),(1100,.arr 31 0 0 (.rats v8))]⟩) (fun x e σ' => match x with | (v11,v12) => e = .exit 0 ∧ σ' = ⟨[(6,.sl 1100 0),(7,.bool v11)],[(1100,.arr 31 0 0 (.rats v12))]⟩) hk16 rfl rfl ?_ ?_
   ·intro s x hs
    clear h
    have h := hs
    clear hs
    obtain ⟨v6,v7,v8⟩ := s
    rcases bif_some h with ⟨hd8,h⟩ | ⟨hd8,h⟩
    ·refine Tri.f 1 [.g true] [.keep [1,2,6,7,8,38] [2,1100]] rfl ⟨hd8,trivial⟩ ?_
     rcases bif_some h with ⟨hd9,h⟩ | ⟨hd9,h⟩
     ·obtain ⟨hg10,h⟩ := grd_some h
      obtain ⟨hg11,h⟩ := grd_some h
      obtain ⟨hg12,h⟩ := grd_some h
      obtain ⟨hg13,h⟩ := grd_some h
      obtain ⟨hg14,h⟩ := grd_some h
      obtain ⟨⟨v9,v10⟩,hk15,h⟩ := bind_some h
      refine Tri.f 3 [.g true,.r ⟨[],.tuple [.sl 1101 0,.bool v9],[(1101,.arr 31 0 0 (.rats v10))]⟩] [.swap 1101 1100,.keep [1,2,6,7,8] [2,1100]] rfl ⟨fun _ => (W78 v8 (IntKind.i64.wrap (0 - ((a3.getD ((a1.getD v7.toNat 0).toNat) ⟨0,0⟩).num))) ((a3.getD ((a1.getD v7.toNat 0).toNat) ⟨0,0⟩).den) (a0.getD v7.toNat []) (v9,v10) hk15).swap 1000 1101,hg14,hg13,hg12,hg11,hg10,hd9,trivial⟩ ?_
      cases h
      exact Tri.nil ⟨rfl,rfl⟩
     ·refine Tri.f 1 [.g false] [.keep [6,7] [1100]] rfl ⟨hd9,trivial⟩ ?_
      cases h
      exact Tri.out 0 rfl ⟨nofun,rfl,rfl⟩
    ·refine Tri.f 1 [.g false] [.keep [1,2,6,7,8,38] [2,1100]] rfl ⟨hd8,trivial⟩ ?_
     refine Tri.f 1 [.g false] [.keep [6,7] [1100]] rfl ⟨rfl,trivial⟩ ?_
     cases h
     exact Tri.out 0 rfl ⟨nofun,rfl,rfl⟩
   ·intro e σ' hne hq
    obtain ⟨v11,v12⟩ := x1
    obtain ⟨rfl,rfl⟩ := hq
    refine TriX.exit (K' := [.code [] 5]) rfl ?_
    refine Tri.f 1 [] [.keep [6,72] [1100]] rfl trivial ?_
    rcases bif_some h with ⟨hd17,h⟩ | ⟨hd17,h⟩
    ·refine Tri.f 2 [.g true] [.swap 73 1000,.keep [4,5] [1000]] rfl ⟨hd17,trivial⟩ ?_
     cases h
     exact Tri.ret rfl ⟨.inl rfl,rfl,rfl⟩
    ·refine Tri.f 2 [.g false] [.swap 1100 1000,.keep [4,5] [1000]] rfl ⟨hd17,trivial⟩ ?_
     cases h
     exact Tri.ret rfl ⟨.inl rfl,rfl,rfl⟩
noncomputable def E313 : Env := ⟨Tryz.prog,tys,(Tryz.f43.body).getD .skip,33,tysOk,mixedOk⟩
abbrev K198 (r : Int) (σ' : ASt) : Prop := isRes E313.T Tryz.f43 (.i r) [] σ'
noncomputable def m_spec_CompareRat (a0 a1 a2 a3 : Int) : Option Int :=
(m_spec_IsValidRat a0 a1).bind fun v1 =>
bif !v1 then
(some (0 : Int))
else
((m_spec_IsValidRat a2 a3).bind fun v2 =>
bif !v2 then
(some (0 : Int))
else
(bif decide ((IntKind.i64.wrap (a0 * a3)) < (IntKind.i64.wrap (a2 * a1))) then
(some (-1 : Int))
else
(bif decide ((IntKind.i64.wrap (a0 * a3)) > (IntKind.i64.wrap (a2 * a1))) then
(some (1 : Int))
else
(some (0 : Int)))))
theorem W80 (a0 a1 a2 a3 r : Int) (h : m_spec_CompareRat a0 a1 a2 a3 = some r) : AM.Spec Tryz.prog 43 [.agg [.i a0,.i a1],.agg [.i a2,.i a3]] [] (.i r) [] := by
 refine spec_of (E := E313) Tryz.func43 rfl rfl rfl rfl ?_
 refine Tri.f 1 [] [.keep [2,3] [2,3]] rfl trivial ?_
 obtain ⟨v1,hk1,h⟩ := bind_some h
 rcases bif_some h with ⟨hd2,h⟩ | ⟨hd2,h⟩
 ·refine Tri.f 1 [.v (.bool v1),.g true] [.keep [2,3,14] [2,3]] rfl ⟨hd2,fun _ => W9 a0 a1 v1 hk1,trivial⟩ ?_
  refine Tri.f 2 [.g true] [.keep [4] []] rfl ⟨rfl,trivial⟩ ?_
  cases h
  exact Tri.ret rfl ⟨.inl rfl,rfl,rfl⟩
 ·obtain ⟨v2,hk3,h⟩ := bind_some h
  refine Tri.f 1 [.v (.bool v1),.g false,.v (.bool v2)] [.keep [2,3,14] [2,3]] rfl ⟨fun _ => W9 a2 a3 v2 hk3,hd2,fun _ => W9 a0 a1 v1 hk1,trivial⟩ ?_
  rcases bif_some h with ⟨hd4,h⟩ | ⟨hd4,h⟩
  ·refine Tri.f 2 [.g true] [.keep [4] []] rfl ⟨hd4,trivial⟩ ?_
   cases h
   exact Tri.ret rfl ⟨.inl rfl,rfl,rfl⟩
  ·refine Tri.f 3 [.g false] [.keep [5,6] []] rfl ⟨hd4,trivial⟩ ?_
   refine Tri.f 1 [] [.keep [5,6,25] []] rfl trivial ?_
   rcases bif_some h with ⟨hd5,h⟩ | ⟨hd5,h⟩
   ·refine Tri.f 2 [.g true] [.keep [4] []] rfl ⟨hd5,trivial⟩ ?_
    cases h
    exact Tri.ret rfl ⟨.inl rfl,rfl,rfl⟩
   ·refine Tri.f 2 [.g false] [.keep [29] []] rfl ⟨hd5,trivial⟩ ?_
    rcases bif_some h with ⟨hd6,h⟩ | ⟨hd6,h⟩
    ·refine Tri.f 2 [.g true] [.keep [4] []] rfl ⟨hd6,trivial⟩ ?_
     cases h
     exact Tri.ret rfl ⟨.inl rfl,rfl,rfl⟩
    ·refine Tri.f 2 [.g false] [.keep [4] []] rfl ⟨hd6,trivial⟩ ?_
     cases h
     exact Tri.ret rfl ⟨.inl rfl,rfl,rfl⟩
noncomputable def E314 : Env := ⟨Tryz.prog,tys,(Tryz.f36.body).getD .skip,6,tysOk,mixedOk⟩
abbrev K199 (r : Int) (σ' : ASt) : Prop := isRes E314.T Tryz.f36 (.i r) [] σ'
noncomputable def m_spec_l3Sign (a0 a1 : Int) : Option Int :=
(m_spec_l3Int (0 : Int)).bind fun (v1,v2) =>
(m_spec_CompareRat a0 a1 v1 v2).bind fun v3 =>
some v3
theorem W81 (a0 a1 r : Int) (h : m_spec_l3Sign a0 a1 = some r) : AM.Spec Tryz.prog 36 [.agg [.i a0,.i a1]] [] (.i r) [] := by
 refine spec_of (E := E314) Tryz.func36 rfl rfl rfl rfl ?_
 refine Tri.f 1 [] [.keep [1] [1]] rfl trivial ?_
 obtain ⟨⟨v1,v2⟩,hk1,h⟩ := bind_some h
 obtain ⟨v3,hk2,h⟩ := bind_some h
 refine Tri.f 1 [.v (.agg [.i v1,.i v2]),.v (.i v3)] [.keep [2] []] rfl ⟨fun _ => W80 a0 a1 v1 v2 v3 hk2,fun _ => W12 (0 : Int) (v1,v2) hk1,trivial⟩ ?_
 cases h
 exact Tri.ret rfl ⟨.inl rfl,rfl,rfl⟩
noncomputable def E315 : Env := ⟨Tryz.prog,tys,(Tryz.f13.body).getD .skip,26,tysOk,mixedOk⟩
abbrev K200 (r : Int) (σ' : ASt) : Prop := isRes E315.T Tryz.f13 (.i r) [] σ'
noncomputable def l_spec_EnteringColumn_0 (a3 : List Q) (a4 v1 : Int) : Option (Int ⊕ (Unit ⊕ Int)) :=
bif decide (v1 < a4) then
(bif decide (a4 ≤ (a3.length : Int)) then
(grd (0 ≤ v1 ∧ v1 < (a3.length : Int)) <|
(m_spec_l3Sign ((a3.getD v1.toNat ⟨0,0⟩).num) ((a3.getD v1.toNat ⟨0,0⟩).den)).bind fun v2 =>
bif decide (v2 < 0) then
(some (.inr (.inr v1)))
else
(some (.inl (IntKind.i64.wrap (v1 + 1)))))
else
(some (.inr (.inl ()))))
else
(some (.inr (.inl ())))
noncomputable def m_spec_EnteringColumn (_a0 : List (List Q)) (_a1 : List Int) (_a2 : Int) (a3 : List Q) (a4 : Int) : Option Int :=
(iter (l_spec_EnteringColumn_0 a3 a4) (0 : Int)).bind fun
| (.inl _) => (
some (-1 : Int))
| (.inr r) => some r
theorem W82 (a0 : List (List Q)) (a1 : List Int) (a2 : Int) (a3 : List Q) (a4 r : Int) (h : m_spec_EnteringColumn a0 a1 a2 a3 a4 = some r) : AM.Spec Tryz.prog 13 [.agg [.list (.ratss a0),.list (.ints a1),.i a2],.list (.rats a3),.i a4] [] (.i r) [] := by
 refine spec_of (E := E315) Tryz.func13 rfl rfl rfl rfl ?_
 refine Tri.f 2 [] [.keep [1,2,7] []] rfl trivial ?_
 obtain ⟨x1,hk6,h⟩ := bind_some h
 refine Tri.loop (K1 := [.code [(1,0),(1,0),(0,0)] 0]) (K2 := [.blk 0,.code [] 2]) (fun v1 => ⟨[(1,.list (.rats a3)),(2,.i a4),(7,.i v1)],[]⟩) (fun x e σ' => match x with | (.inl _) => e = .exit 0 ∧ σ' = ⟨[],[]⟩ | (.inr r) => e = .ret ∧ K200 r σ') hk6 rfl rfl ?_ ?_
 ·intro v1 x hs
  clear h
  have h := hs
  clear hs
  rcases bif_some h with ⟨hd1,h⟩ | ⟨hd1,h⟩
  ·refine Tri.f 1 [.g true] [.keep [1,2,7,16] []] rfl ⟨hd1,trivial⟩ ?_
   rcases bif_some h with ⟨hd2,h⟩ | ⟨hd2,h⟩
   ·obtain ⟨hg3,h⟩ := grd_some h
    obtain ⟨v2,hk4,h⟩ := bind_some h
    refine Tri.f 2 [.g true,.v (.i v2)] [.keep [1,2,7,24] []] rfl ⟨fun _ => W81 ((a3.getD v1.toNat ⟨0,0⟩).num) ((a3.getD v1.toNat ⟨0,0⟩).den) v2 hk4,hg3,hd2,trivial⟩ ?_
    rcases bif_some h with ⟨hd5,h⟩ | ⟨hd5,h⟩
    ·refine Tri.f 2 [.g true] [.keep [6] []] rfl ⟨hd5,trivial⟩ ?_
     cases h
     exact Tri.ret rfl ⟨nofun,rfl,rfl,rfl⟩
    ·refine Tri.f 2 [.g false] [.keep [1,2,7] []] rfl ⟨hd5,trivial⟩ ?_
     cases h
     exact Tri.nil ⟨rfl,rfl⟩
   ·refine Tri.f 1 [.g false] [.keep [] []] rfl ⟨hd2,trivial⟩ ?_
    cases h
    exact Tri.out 0 rfl ⟨nofun,rfl,rfl⟩
  ·refine Tri.f 1 [.g false] [.keep [1,2,7,16] []] rfl ⟨hd1,trivial⟩ ?_
   refine Tri.f 1 [.g false] [.keep [] []] rfl ⟨rfl,trivial⟩ ?_
   cases h
   exact Tri.out 0 rfl ⟨nofun,rfl,rfl⟩
 ·intro e σ' hne hq
  rcases x1 with _ | r
  ·obtain ⟨rfl,rfl⟩ := hq
   refine TriX.exit (K' := [.code [] 2]) rfl ?_
   refine Tri.f 1 [] [.keep [6] []] rfl trivial ?_
   cases h
   exact Tri.ret rfl ⟨.inl rfl,rfl,rfl⟩
  ·obtain ⟨rfl,hq⟩ := hq
   cases h
   exact TriX.ret ⟨.inl rfl,hq⟩
noncomputable def E316 : Env := ⟨Tryz.prog,tys,(Tryz.f42.body).getD .skip,28,tysOk,mixedOk⟩
abbrev K201 (r : Int × Int × Bool) (σ' : ASt) : Prop := isRes E316.T Tryz.f42 (.tuple [.agg [.i r.1,.i r.2.1],.bool r.2.2]) [] σ'
noncomputable def m_spec_DivRat (a0 a1 a2 a3 : Int) : Option (Int × Int × Bool) :=
(m_spec_IsValidRat a0 a1).bind fun v1 =>
bif !v1 then
(some (0,0,false))
else
((m_spec_IsValidRat a2 a3).bind fun v2 =>
bif !v2 then
(some (0,0,false))
else
((m_spec_RatOf (IntKind.i64.wrap (a0 * a3)) (IntKind.i64.wrap (a1 * a2))).bind fun (v3,v4,v5) =>
some (v3,v4,v5)))
theorem W83 (a0 a1 a2 a3 : Int) (r : Int × Int × Bool) (h : m_spec_DivRat a0 a1 a2 a3 = some r) : AM.Spec Tryz.prog 42 [.agg [.i a0,.i a1],.agg [.i a2,.i a3]] [] (.tuple [.agg [.i r.1,.i r.2.1],.bool r.2.2]) [] := by
 refine spec_of (E := E316) Tryz.func42 rfl rfl rfl rfl ?_
 refine Tri.f 1 [] [.keep [2,3,4] [2,3,4]] rfl trivial ?_
 obtain ⟨v1,hk1,h⟩ := bind_some h
 rcases bif_some h with ⟨hd2,h⟩ | ⟨hd2,h⟩
 ·refine Tri.f 1 [.v (.bool v1),.g true] [.keep [2,3,4,13] [2,3,4]] rfl ⟨hd2,fun _ => W9 a0 a1 v1 hk1,trivial⟩ ?_
  refine Tri.f 2 [.g true] [.keep [4,5] [4]] rfl ⟨rfl,trivial⟩ ?_
  cases h
  exact Tri.ret rfl ⟨.inl rfl,rfl,rfl⟩
 ·obtain ⟨v2,hk3,h⟩ := bind_some h
  refine Tri.f 1 [.v (.bool v1),.g false,.v (.bool v2)] [.keep [2,3,4,13] [2,3,4]] rfl ⟨fun _ => W9 a2 a3 v2 hk3,hd2,fun _ => W9 a0 a1 v1 hk1,trivial⟩ ?_
  rcases bif_some h with ⟨hd4,h⟩ | ⟨hd4,h⟩
  ·refine Tri.f 2 [.g true] [.keep [4,5] [4]] rfl ⟨hd4,trivial⟩ ?_
   cases h
   exact Tri.ret rfl ⟨.inl rfl,rfl,rfl⟩
  ·obtain ⟨⟨v3,v4,v5⟩,hk5,h⟩ := bind_some h
   refine Tri.f 2 [.g false,.v (.tuple [.agg [.i v3,.i v4],.bool v5])] [.keep [4,5] [4]] rfl ⟨fun _ => W10 (IntKind.i64.wrap (a0 * a3)) (IntKind.i64.wrap (a1 * a2)) (v3,v4,v5) hk5,hd4,trivial⟩ ?_
   cases h
   exact Tri.ret rfl ⟨.inl rfl,rfl,rfl⟩
noncomputable def E317 : Env := ⟨Tryz.prog,tys,(Tryz.f15.body).getD .skip,97,tysOk,mixedOk⟩
abbrev K202 (r : Int) (σ' : ASt) : Prop := isRes E317.T Tryz.f15 (.i r) [] σ'
noncomputable def l_spec_LeavingRow_0 (a0 : List (List Q)) (a1 : List Int) (a2 a3 : Int) : (Int × Int × Int × Int) → Option ((Int × Int × Int × Int) ⊕ Int)
 | (v3,v4,v5,v6) => (
bif decide (v4 < (a0.length : Int)) then
(grd (0 ≤ v4 ∧ v4 < (a0.length : Int)) <|
grd (0 ≤ a3 ∧ a3 < ((a0.getD v4.toNat []).length : Int)) <|
grd (0 ≤ v4 ∧ v4 < (a0.length : Int)) <|
grd (0 ≤ IntKind.i64.wrap (a2 + (a0.length : Int)) ∧ IntKind.i64.wrap (a2 + (a0.length : Int)) < ((a0.getD v4.toNat []).length : Int)) <|
(m_spec_DivRat (((a0.getD v4.toNat []).getD ((IntKind.i64.wrap (a2 + (a0.length : Int))).toNat) ⟨0,0⟩).num) (((a0.getD v4.toNat []).getD ((IntKind.i64.wrap (a2 + (a0.length : Int))).toNat) ⟨0,0⟩).den) (((a0.getD v4.toNat []).getD a3.toNat ⟨0,0⟩).num) (((a0.getD v4.toNat []).getD a3.toNat ⟨0,0⟩).den)).bind fun (v7,v8,v9) =>
(m_spec_l3Sign (((a0.getD v4.toNat []).getD a3.toNat ⟨0,0⟩).num) (((a0.getD v4.toNat []).getD a3.toNat ⟨0,0⟩).den)).bind fun v10 =>
bif decide (v10 ≤ 0) then
(some (.inl (v3,IntKind.i64.wrap (v4 + 1),v5,v6)))
else
(bif !v9 then
(some (.inl (v3,IntKind.i64.wrap (v4 + 1),v5,v6)))
else
((m_spec_CompareRat v7 v8 v5 v6).bind fun v11 =>
bif decide (v3 < 0) then
(some (.inl (v4,IntKind.i64.wrap (v4 + 1),v7,v8)))
else
(bif decide (v11 < 0) then
(some (.inl (v4,IntKind.i64.wrap (v4 + 1),v7,v8)))
else
(bif v11 == 0 then
(grd (0 ≤ v4 ∧ v4 < (a1.length : Int)) <|
grd (0 ≤ v3 ∧ v3 < (a1.length : Int)) <|
bif decide ((a1.getD v4.toNat 0) < (a1.getD v3.toNat 0)) then
(some (.inl (v4,IntKind.i64.wrap (v4 + 1),v7,v8)))
else
(some (.inl (v3,IntKind.i64.wrap (v4 + 1),v5,v6))))
else
(some (.inl (v3,IntKind.i64.wrap (v4 + 1),v5,v6))))))))
else
(some (.inr v3)))
noncomputable def m_spec_LeavingRow (a0 : List (List Q)) (a1 : List Int) (a2 a3 : Int) : Option Int :=
(m_spec_l6Good a0 a1 a2).bind fun v1 =>
bif !v1 then
(some (-1 : Int))
else
((m_spec_l1In a3 (0 : Int) (IntKind.i64.wrap ((IntKind.i64.wrap (a2 + (a0.length : Int))) - 1))).bind fun v2 =>
bif !v2 then
(some (-1 : Int))
else
((iter (l_spec_LeavingRow_0 a0 a1 a2 a3) ((-1 : Int),(0 : Int),0,0)).bind fun
| v12 => (
some v12)))
theorem W84 (a0 : List (List Q)) (a1 : List Int) (a2 a3 r : Int) (h : m_spec_LeavingRow a0 a1 a2 a3 = some r) : AM.Spec Tryz.prog 15 [.agg [.list (.ratss a0),.list (.ints a1),.i a2],.i a3] [] (.i r) [] := by
 refine spec_of (E := E317) Tryz.func15 rfl rfl rfl rfl ?_
 refine Tri.f 1 [] [.keep [1,2] [2]] rfl trivial ?_
 obtain ⟨v1,hk1,h⟩ := bind_some h
 rcases bif_some h with ⟨hd2,h⟩ | ⟨hd2,h⟩
 ·refine Tri.f 1 [.v (.bool v1),.g true] [.keep [1,2,26] [2]] rfl ⟨hd2,fun _ => W74 a0 a1 a2 v1 hk1,trivial⟩ ?_
  refine Tri.f 2 [.g true] [.keep [4] []] rfl ⟨rfl,trivial⟩ ?_
  cases h
  exact Tri.ret rfl ⟨.inl rfl,rfl,rfl⟩
 ·obtain ⟨v2,hk3,h⟩ := bind_some h
  refine Tri.f 1 [.v (.bool v1),.g false,.v (.bool v2)] [.keep [1,2,26] [2]] rfl ⟨fun _ => W7 a3 (0 : Int) (IntKind.i64.wrap ((IntKind.i64.wrap (a2 + (a0.length : Int))) - 1)) v2 hk3,hd2,fun _ => W74 a0 a1 a2 v1 hk1,trivial⟩ ?_
  rcases bif_some h with ⟨hd4,h⟩ | ⟨hd4,h⟩
  ·refine Tri.f 2 [.g true] [.keep [4] []] rfl ⟨hd4,trivial⟩ ?_
   cases h
   exact Tri.ret rfl ⟨.inl rfl,rfl,rfl⟩
  ·refine Tri.f 3 [.g false] [.keep [1,2,5,6] [2,6]] rfl ⟨hd4,trivial⟩ ?_
   refine Tri.f 1 [] [.keep [1,2,5,6,7] [2,6]] rfl trivial ?_
   obtain ⟨v12,hk21,h⟩ := bind_some h
   refine Tri.loop (K1 := [.code [(4,0),(1,0),(0,0)] 0]) (K2 := [.blk 0,.code [] 5]) (fun (v3,v4,v5,v6) => ⟨[(1,.i a3),(2,.ptr 2 0),(5,.i v3),(6,.ptr 6 0),(7,.i v4)],[(2,.box [.list (.ratss a0),.list (.ints a1),.i a2]),(6,.box [.i v5,.i v6])]⟩) (fun x e σ' => match x with | v12 => e = .exit 0 ∧ σ' = ⟨[(5,.i v12)],[]⟩) hk21 rfl rfl ?_ ?_
   ·intro s x hs
    clear h
    have h := hs
    clear hs
    obtain ⟨v3,v4,v5,v6⟩ := s
    refine Tri.f 1 [] [.keep [1,2,5,6,7,32] [2,6]] rfl trivial ?_
    rcases bif_some h with ⟨hd5,h⟩ | ⟨hd5,h⟩
    ·obtain ⟨hg6,h⟩ := grd_some h
     obtain ⟨hg7,h⟩ := grd_some h
     refine Tri.f 2 [.g true] [.keep [1,2,5,6,7,8] [2,6,8]] rfl ⟨hg7,hg6,hd5,trivial⟩ ?_
     obtain ⟨hg8,h⟩ := grd_some h
     obtain ⟨hg9,h⟩ := grd_some h
     obtain ⟨⟨v7,v8,v9⟩,hk10,h⟩ := bind_some h
     obtain ⟨v10,hk11,h⟩ := bind_some h
     rcases bif_some h with ⟨hd12,h⟩ | ⟨hd12,h⟩
     ·refine Tri.f 2 [.v (.tuple [.agg [.i v7,.i v8],.bool v9]),.v (.i v10),.g true] [.keep [1,2,5,6,7,9,67] [2,6,9]] rfl ⟨hd12,fun _ => W81 (((a0.getD v4.toNat []).getD a3.toNat ⟨0,0⟩).num) (((a0.getD v4.toNat []).getD a3.toNat ⟨0,0⟩).den) v10 hk11,fun _ => W83 (((a0.getD v4.toNat []).getD ((IntKind.i64.wrap (a2 + (a0.length : Int))).toNat) ⟨0,0⟩).num) (((a0.getD v4.toNat []).getD ((IntKind.i64.wrap (a2 + (a0.length : Int))).toNat) ⟨0,0⟩).den) (((a0.getD v4.toNat []).getD a3.toNat ⟨0,0⟩).num) (((a0.getD v4.toNat []).getD a3.toNat ⟨0,0⟩).den) (v7,v8,v9) hk10,hg9,hg8,trivial⟩ ?_
      refine Tri.f 2 [.g true] [.keep [1,2,5,6,7] [2,6]] rfl ⟨rfl,trivial⟩ ?_
      cases h
      exact Tri.nil ⟨rfl,rfl⟩
     ·refine Tri.f 2 [.v (.tuple [.agg [.i v7,.i v8],.bool v9]),.v (.i v10),.g false] [.keep [1,2,5,6,7,9,67] [2,6,9]] rfl ⟨hd12,fun _ => W81 (((a0.getD v4.toNat []).getD a3.toNat ⟨0,0⟩).num) (((a0.getD v4.toNat []).getD a3.toNat ⟨0,0⟩).den) v10 hk11,fun _ => W83 (((a0.getD v4.toNat []).getD ((IntKind.i64.wrap (a2 + (a0.length : Int))).toNat) ⟨0,0⟩).num) (((a0.getD v4.toNat []).getD ((IntKind.i64.wrap (a2 + (a0.length : Int))).toNat) ⟨0,0⟩).den) (((a0.getD v4.toNat []).getD a3.toNat ⟨0,0⟩).num) (((a0.getD v4.toNat []).getD a3.toNat ⟨0,0⟩).den) (v7,v8,v9) hk10,hg9,hg8,trivial⟩ ?_
      rcases bif_some h with ⟨hd13,h⟩ | ⟨hd13,h⟩
      ·refine Tri.f 2 [.g true] [.keep [1,2,5,6,7] [2,6]] rfl ⟨hd13,trivial⟩ ?_
       cases h
       exact Tri.nil ⟨rfl,rfl⟩
      ·obtain ⟨v11,hk14,h⟩ := bind_some h
       refine Tri.f 2 [.g false,.v (.i v11)] [.keep [1,2,5,6,7,9,11] [2,6,9]] rfl ⟨fun _ => W80 v7 v8 v5 v6 v11 hk14,hd13,trivial⟩ ?_
       rcases bif_some h with ⟨hd15,h⟩ | ⟨hd15,h⟩
       ·refine Tri.f 1 [.g true,.g true] [.keep [1,2,5,6,7,9,93] [2,6,9]] rfl ⟨rfl,hd15,trivial⟩ ?_
        refine Tri.f 3 [.g true] [.keep [1,2,5,6,7] [2,6]] rfl ⟨rfl,trivial⟩ ?_
        refine Tri.f 1 [] [.keep [1,2,5,6,7] [2,6]] rfl trivial ?_
        cases h
        exact Tri.nil ⟨rfl,rfl⟩
       ·rcases bif_some h with ⟨hd16,h⟩ | ⟨hd16,h⟩
        ·refine Tri.f 1 [.g false,.g true] [.keep [1,2,5,6,7,9,93] [2,6,9]] rfl ⟨hd16,hd15,trivial⟩ ?_
         refine Tri.f 3 [.g true] [.keep [1,2,5,6,7] [2,6]] rfl ⟨rfl,trivial⟩ ?_
         refine Tri.f 1 [] [.keep [1,2,5,6,7] [2,6]] rfl trivial ?_
         cases h
         exact Tri.nil ⟨rfl,rfl⟩
        ·rcases bif_some h with ⟨hd17,h⟩ | ⟨hd17,h⟩
         ·obtain ⟨hg18,h⟩ := grd_some h
          obtain ⟨hg19,h⟩ := grd_some h
          refine Tri.f 1 [.g false,.g false,.g true] [.keep [1,2,5,6,7,9,93] [2,6,9]] rfl ⟨hg19,hg18,hd17,hd16,hd15,trivial⟩ ?_
          rcases bif_some h with ⟨hd20,h⟩ | ⟨hd20,h⟩
          ·refine Tri.f 3 [.g true] [.keep [1,2,5,6,7] [2,6]] rfl ⟨hd20,trivial⟩ ?_
           refine Tri.f 1 [] [.keep [1,2,5,6,7] [2,6]] rfl trivial ?_
           cases h
           exact Tri.nil ⟨rfl,rfl⟩
          ·refine Tri.f 2 [.g false] [.keep [1,2,5,6,7] [2,6]] rfl ⟨hd20,trivial⟩ ?_
           cases h
           exact Tri.nil ⟨rfl,rfl⟩
         ·refine Tri.f 1 [.g false,.g false,.g false] [.keep [1,2,5,6,7,9,93] [2,6,9]] rfl ⟨hd17,hd16,hd15,trivial⟩ ?_
          refine Tri.f 2 [.g false] [.keep [1,2,5,6,7] [2,6]] rfl ⟨rfl,trivial⟩ ?_
          cases h
          exact Tri.nil ⟨rfl,rfl⟩
    ·refine Tri.f 1 [.g false] [.keep [5] []] rfl ⟨hd5,trivial⟩ ?_
     cases h
     exact Tri.out 0 rfl ⟨nofun,rfl,rfl⟩
   ·intro e σ' hne hq
    obtain ⟨rfl,rfl⟩ := hq
    refine TriX.exit (K' := [.code [] 5]) rfl ?_
    refine Tri.f 1 [] [.keep [4] []] rfl trivial ?_
    cases h
    exact Tri.ret rfl ⟨.inl rfl,rfl,rfl⟩
noncomputable def E318 : Env := ⟨Tryz.prog,tys,(Tryz.f107.body).getD .skip,31,tysOk,mixedOk⟩
abbrev K203 (r : Int × (List (List Q)) × (List Int)) (σ' : ASt) : Prop := isRes E318.T Tryz.f107 (.agg [.sl 1000 0,.sl 1001 0,.i r.1]) [(1000,.arr 26 0 0 (.ratss r.2.1)),(1001,.arr 3 0 0 (.ints r.2.2))] σ'
noncomputable def l_spec_l6Copy_0 (a0 : List (List Q)) : (Int × (List (List Q))) → Option ((Int × (List (List Q))) ⊕ ((List (List Q))))
 | (v1,v2) => (
bif decide (v1 < (a0.length : Int)) then
(grd (0 ≤ v1 ∧ v1 < (a0.length : Int)) <|
(m_spec_l4Copy (a0.getD v1.toNat [])).bind fun v3 =>
grd (v2.length + ([v3] : List (List Q)).length ≤ room) <|
some (.inl (IntKind.i64.wrap (v1 + 1),v2 ++ [v3])))
else
(some (.inr v2)))
noncomputable def m_spec_l6Copy (a0 : List (List Q)) (a1 : List Int) (a2 : Int) : Option (Int × (List (List Q)) × (List Int)) :=
grd (([] : List Int).length + a1.length ≤ room) <|
(iter (l_spec_l6Copy_0 a0) ((0 : Int),[])).bind fun
| v4 => (
some (a2,v4,[] ++ a1))
theorem W85 (a0 : List (List Q)) (a1 : List Int) (a2 : Int) (r : Int × (List (List Q)) × (List Int)) (h : m_spec_l6Copy a0 a1 a2 = some r) : AM.Spec Tryz.prog 107 [.agg [.list (.ratss a0),.list (.ints a1),.i a2]] [] (.agg [.sl 1000 0,.sl 1001 0,.i r.1]) [(1000,.arr 26 0 0 (.ratss r.2.1)),(1001,.arr 3 0 0 (.ints r.2.2))] := by
 refine spec_of (E := E318) Tryz.func107 rfl rfl rfl rfl ?_
 obtain ⟨hg1,h⟩ := grd_some h
 refine Tri.f 3 [] [.ownc 2 0 1100 26,.ownc 2 1 1101 3,.ownc 3 0 1102 26,.rever 5,.keep [1,2,3,4] [1,2,3,5,1100,1101,1102]] rfl ⟨hg1,trivial⟩ ?_
 obtain ⟨v4,hk6,h⟩ := bind_some h
 refine Tri.loop (K1 := [.code [(2,0),(1,0),(0,0)] 0]) (K2 := [.blk 0,.code [] 3]) (fun (v1,v2) => ⟨[(1,.ptr 1 0),(2,.ptr 2 0),(3,.ptr 3 0),(4,.i v1)],[(1,.box [.list (.ratss a0),.list (.ints a1),.i a2]),(2,.box [.sl 1100 0,.sl 1101 0,.i 0]),(3,.box [.sl 1102 0,.sl 5 0,.i a2]),(5,.arr 3 0 0 (.ints ([] ++ a1))),(1100,.arr 26 0 0 (.ratss [])),(1101,.arr 3 0 0 (.ints [])),(1102,.arr 26 0 0 (.ratss v2))]⟩) (fun x e σ' => match x with | v4 => e = .exit 0 ∧ σ' = ⟨[(2,.ptr 2 0),(3,.ptr 3 0)],[(2,.box [.sl 1100 0,.sl 1101 0,.i 0]),(3,.box [.sl 1102 0,.sl 5 0,.i a2]),(5,.arr 3 0 0 (.ints ([] ++ a1))),(1100,.arr 26 0 0 (.ratss [])),(1101,.arr 3 0 0 (.ints [])),(1102,.arr 26 0 0 (.ratss v4))]⟩) hk6 rfl rfl ?_ ?_
 ·intro s x hs
  clear h
  have h := hs
  clear hs
  obtain ⟨v1,v2⟩ := s
  refine Tri.f 1 [] [.keep [1,2,3,4,16] [1,2,3,5,1100,1101,1102]] rfl trivial ?_
  rcases bif_some h with ⟨hd2,h⟩ | ⟨hd2,h⟩
  ·obtain ⟨hg3,h⟩ := grd_some h
   obtain ⟨v3,hk4,h⟩ := bind_some h
   obtain ⟨hg5,h⟩ := grd_some h
   refine Tri.f 3 [.g true,.r ⟨[],.sl 1103 0,[(1103,.arr 31 0 0 (.rats v3))]⟩] [.rever 1102,.keep [1,2,3,4] [1,2,3,5,1100,1101,1102]] rfl ⟨hg5,fun _ => (W75 (a0.getD v1.toNat []) v3 hk4).swap 1000 1103,hg3,hd2,trivial⟩ ?_
   cases h
   exact Tri.nil ⟨rfl,rfl⟩
  ·refine Tri.f 1 [.g false] [.keep [2,3] [2,3,5,1100,1101,1102]] rfl ⟨hd2,trivial⟩ ?_
   cases h
   exact Tri.out 0 rfl ⟨nofun,rfl,rfl⟩
 ·intro e σ' hne hq
  obtain ⟨rfl,rfl⟩ := hq
  refine TriX.exit (K' := [.code [] 3]) rfl ?_
  refine Tri.f 1 [] [.swap 1102 1000,.swap 5 1001,.keep [2] [2,1000,1001]] rfl trivial ?_
  cases h
  exact Tri.ret rfl ⟨.inl rfl,rfl,rfl⟩
noncomputable def E319 : Env := ⟨Tryz.prog,tys,(Tryz.f108.body).getD .skip,34,tysOk,mixedOk⟩
abbrev K204 (r : Bool × (List Q)) (σ' : ASt) : Prop := isRes E319.T Tryz.f108 (.tuple [.sl 1000 0,.bool r.1]) [(1000,.arr 31 0 0 (.rats r.2))] σ'
noncomputable def l_spec_l6Divide_0 (a0 : List Q) (a1 a2 : Int) : (Int × (List Q)) → Option ((Int × (List Q)) ⊕ ((List Q) ⊕ ((Bool × (List Q)))))
 | (v1,v2) => (
bif decide (v1 < (a0.length : Int)) then
(grd (0 ≤ v1 ∧ v1 < (a0.length : Int)) <|
(m_spec_DivRat ((a0.getD v1.toNat ⟨0,0⟩).num) ((a0.getD v1.toNat ⟨0,0⟩).den) a1 a2).bind fun (v3,v4,v5) =>
bif !v5 then
(some (.inr (.inr (false,[]))))
else
(grd (v2.length + ([⟨v3,v4⟩] : List Q).length ≤ room) <|
some (.inl (IntKind.i64.wrap (v1 + 1),v2 ++ [⟨v3,v4⟩]))))
else
(some (.inr (.inl v2))))
noncomputable def m_spec_l6Divide (a0 : List Q) (a1 a2 : Int) : Option (Bool × (List Q)) :=
(iter (l_spec_l6Divide_0 a0 a1 a2) ((0 : Int),[])).bind fun
| (.inl v6) => (
some (true,v6))
| (.inr r) => some r
theorem W86 (a0 : List Q) (a1 a2 : Int) (r : Bool × (List Q)) (h : m_spec_l6Divide a0 a1 a2 = some r) : AM.Spec Tryz.prog 108 [.list (.rats a0),.agg [.i a1,.i a2]] [] (.tuple [.sl 1000 0,.bool r.1]) [(1000,.arr 31 0 0 (.rats r.2))] := by
 refine spec_of (E := E319) Tryz.func108 rfl rfl rfl rfl ?_
 refine Tri.f 3 [] [.keep [0,3,6,7] [3,10]] rfl trivial ?_
 obtain ⟨x1,hk6,h⟩ := bind_some h
 refine Tri.loop (K1 := [.code [(2,0),(1,0),(0,0)] 0]) (K2 := [.blk 0,.code [] 3]) (fun (v1,v2) => ⟨[(0,.list (.rats a0)),(3,.ptr 3 0),(6,.sl 10 0),(7,.i v1)],[(3,.box [.i a1,.i a2]),(10,.arr 31 0 0 (.rats v2))]⟩) (fun x e σ' => match x with | (.inl v6) => e = .exit 0 ∧ σ' = ⟨[(6,.sl 10 0)],[(10,.arr 31 0 0 (.rats v6))]⟩ | (.inr r) => e = .ret ∧ K204 r σ') hk6 rfl rfl ?_ ?_
 ·intro s x hs
  clear h
  have h := hs
  clear hs
  obtain ⟨v1,v2⟩ := s
  refine Tri.f 1 [] [.keep [0,3,6,7,14] [3,10]] rfl trivial ?_
  rcases bif_some h with ⟨hd1,h⟩ | ⟨hd1,h⟩
  ·obtain ⟨hg2,h⟩ := grd_some h
   obtain ⟨⟨v3,v4,v5⟩,hk3,h⟩ := bind_some h
   refine Tri.f 3 [.g true,.v (.tuple [.agg [.i v3,.i v4],.bool v5])] [.keep [0,3,6,7,8,27] [3,8,10]] rfl ⟨fun _ => W83 ((a0.getD v1.toNat ⟨0,0⟩).num) ((a0.getD v1.toNat ⟨0,0⟩).den) a1 a2 (v3,v4,v5) hk3,hg2,hd1,trivial⟩ ?_
   rcases bif_some h with ⟨hd4,h⟩ | ⟨hd4,h⟩
   ·refine Tri.f 2 [.g true] [.swap 28 1000,.keep [4,5] [1000]] rfl ⟨hd4,trivial⟩ ?_
    cases h
    exact Tri.ret rfl ⟨nofun,rfl,rfl,rfl⟩
   ·obtain ⟨hg5,h⟩ := grd_some h
    refine Tri.f 3 [.g false] [.rever 10,.keep [0,3,6,7] [3,10]] rfl ⟨hg5,hd4,trivial⟩ ?_
    cases h
    exact Tri.nil ⟨rfl,rfl⟩
  ·refine Tri.f 1 [.g false] [.keep [6] [10]] rfl ⟨hd1,trivial⟩ ?_
   cases h
   exact Tri.out 0 rfl ⟨nofun,rfl,rfl⟩
 ·intro e σ' hne hq
  rcases x1 with v6 | r
  ·obtain ⟨rfl,rfl⟩ := hq
   refine TriX.exit (K' := [.code [] 3]) rfl ?_
   refine Tri.f 1 [] [.swap 10 1000,.keep [4,5] [1000]] rfl trivial ?_
   cases h
   exact Tri.ret rfl ⟨.inl rfl,rfl,rfl⟩
  ·obtain ⟨rfl,hq⟩ := hq
   cases h
   exact TriX.ret ⟨.inl rfl,hq⟩
noncomputable def E320 : Env := ⟨Tryz.prog,tys,(Tryz.f84.body).getD .skip,135,tysOk,mixedOk⟩
abbrev K205 (r : Int × Bool × (List (List Q)) × (List Int)) (σ' : ASt) : Prop := isRes E320.T Tryz.f84 (.tuple [.agg [.sl 1000 0,.sl 1001 0,.i r.1],.bool r.2.1]) [(1000,.arr 26 0 0 (.ratss r.2.2.1)),(1001,.arr 3 0 0 (.ints r.2.2.2))] σ'
noncomputable def l_spec_PivotTableau_0 (a0 : List (List Q)) (a1 : List Int) (a2 a3 a4 : Int) : (Int × (List (List Q))) → Option ((Int × (List (List Q))) ⊕ ((List (List Q)) ⊕ ((Int × Bool × (List (List Q)) × (List Int)))))
 | (v24,v25) => (
bif decide (v24 < (a0.length : Int)) then
(grd (0 ≤ v24 ∧ v24 < (a0.length : Int)) <|
grd (0 ≤ a4 ∧ a4 < ((a0.getD v24.toNat []).length : Int)) <|
bif v24 == a3 then
(some (.inl (IntKind.i64.wrap (v24 + 1),v25)))
else
((m_spec_l3Int (0 : Int)).bind fun (v26,v27) =>
bif (((a0.getD v24.toNat []).getD a4.toNat ⟨0,0⟩).num) == v26 && (((a0.getD v24.toNat []).getD a4.toNat ⟨0,0⟩).den) == v27 then
(some (.inl (IntKind.i64.wrap (v24 + 1),v25)))
else
(grd (0 ≤ v24 ∧ v24 < (a0.length : Int)) <|
(m_spec_AddScaled (a0.getD v24.toNat []) (IntKind.i64.wrap (0 - (((a0.getD v24.toNat []).getD a4.toNat ⟨0,0⟩).num))) (((a0.getD v24.toNat []).getD a4.toNat ⟨0,0⟩).den) (v25.getD a3.toNat [])).bind fun (v28,v29) =>
bif !v28 then
((m_spec_l6Copy a0 a1 a2).bind fun (v30,v31,v32) =>
some (.inr (.inr (v30,false,v31,v32))))
else
(grd (0 ≤ v24 ∧ v24 < (v25.length : Int)) <|
grd (v24.toNat ≠ a3.toNat) <|
some (.inl (IntKind.i64.wrap (v24 + 1),v25.set v24.toNat v29))))))
else
(some (.inr (.inl v25))))
noncomputable def m_spec_PivotTableau (a0 : List (List Q)) (a1 : List Int) (a2 a3 a4 : Int) : Option (Int × Bool × (List (List Q)) × (List Int)) :=
(m_spec_l6Good a0 a1 a2).bind fun v1 =>
bif !v1 then
((m_spec_l6Copy a0 a1 a2).bind fun (v2,v3,v4) =>
some (v2,false,v3,v4))
else
((m_spec_l1In a3 (0 : Int) (IntKind.i64.wrap ((a0.length : Int) - 1))).bind fun v5 =>
bif !v5 then
((m_spec_l6Copy a0 a1 a2).bind fun (v6,v7,v8) =>
some (v6,false,v7,v8))
else
((m_spec_l1In a4 (0 : Int) (IntKind.i64.wrap ((IntKind.i64.wrap (a2 + (a0.length : Int))) - 1))).bind fun v9 =>
bif !v9 then
((m_spec_l6Copy a0 a1 a2).bind fun (v10,v11,v12) =>
some (v10,false,v11,v12))
else
(grd (0 ≤ a3 ∧ a3 < (a0.length : Int)) <|
grd (0 ≤ a4 ∧ a4 < ((a0.getD a3.toNat []).length : Int)) <|
bif (((a0.getD a3.toNat []).getD a4.toNat ⟨0,0⟩).num) == 0 then
((m_spec_l6Copy a0 a1 a2).bind fun (v13,v14,v15) =>
some (v13,false,v14,v15))
else
((m_spec_l6Copy a0 a1 a2).bind fun (v16,v17,v18) =>
grd (0 ≤ a3 ∧ a3 < (a0.length : Int)) <|
grd (0 ≤ a3 ∧ a3 < (a0.length : Int)) <|
grd (0 ≤ a4 ∧ a4 < ((a0.getD a3.toNat []).length : Int)) <|
(m_spec_l6Divide (a0.getD a3.toNat []) (((a0.getD a3.toNat []).getD a4.toNat ⟨0,0⟩).num) (((a0.getD a3.toNat []).getD a4.toNat ⟨0,0⟩).den)).bind fun (v19,v20) =>
bif !v19 then
((m_spec_l6Copy a0 a1 a2).bind fun (v21,v22,v23) =>
some (v21,false,v22,v23))
else
(grd (0 ≤ a3 ∧ a3 < (v17.length : Int)) <|
(iter (l_spec_PivotTableau_0 a0 a1 a2 a3 a4) ((0 : Int),v17.set a3.toNat v20)).bind fun
| (.inl v33) => (
grd (0 ≤ a3 ∧ a3 < (v18.length : Int)) <|
some (v16,true,v33,v18.set a3.toNat a4))
| (.inr r) => some r)))))
theorem W87 (a0 : List (List Q)) (a1 : List Int) (a2 a3 a4 : Int) (r : Int × Bool × (List (List Q)) × (List Int)) (h : m_spec_PivotTableau a0 a1 a2 a3 a4 = some r) : AM.Spec Tryz.prog 84 [.agg [.list (.ratss a0),.list (.ints a1),.i a2],.i a3,.i a4] [] (.tuple [.agg [.sl 1000 0,.sl 1001 0,.i r.1],.bool r.2.1]) [(1000,.arr 26 0 0 (.ratss r.2.2.1)),(1001,.arr 3 0 0 (.ints r.2.2.2))] := by
 refine spec_of (E := E320) Tryz.func84 rfl rfl rfl rfl ?_
 refine Tri.f 1 [] [.keep [1,2,3,6] [3,6],.ownc 6 0 1100 26,.ownc 6 1 1101 3,.keep [1,2,3,6] [3,6,1100,1101]] rfl trivial ?_
 obtain ⟨v1,hk1,h⟩ := bind_some h
 rcases bif_some h with ⟨hd2,h⟩ | ⟨hd2,h⟩
 ·refine Tri.f 1 [.v (.bool v1),.g true,.g true,.g true] [.keep [1,2,3,6,50] [3,6,1100,1101]] rfl ⟨rfl,rfl,hd2,fun _ => W74 a0 a1 a2 v1 hk1,trivial⟩ ?_
  obtain ⟨⟨v2,v3,v4⟩,hk3,h⟩ := bind_some h
  refine Tri.f 2 [.g true,.r ⟨[],.agg [.sl 1102 0,.sl 1103 0,.i v2],[(1102,.arr 26 0 0 (.ratss v3)),(1103,.arr 3 0 0 (.ints v4))]⟩] [.swap 1102 1000,.swap 1103 1001,.keep [6,7] [6,1000,1001]] rfl ⟨fun _ => ((W85 a0 a1 a2 (v2,v3,v4) hk3).swap 1000 1102).swap 1001 1103,rfl,trivial⟩ ?_
  cases h
  exact Tri.ret rfl ⟨.inl rfl,rfl,rfl⟩
 ·obtain ⟨v5,hk4,h⟩ := bind_some h
  rcases bif_some h with ⟨hd5,h⟩ | ⟨hd5,h⟩
  ·refine Tri.f 1 [.v (.bool v1),.g false,.v (.bool v5),.g true,.g true] [.keep [1,2,3,6,50] [3,6,1100,1101]] rfl ⟨rfl,hd5,fun _ => W7 a3 (0 : Int) (IntKind.i64.wrap ((a0.length : Int) - 1)) v5 hk4,hd2,fun _ => W74 a0 a1 a2 v1 hk1,trivial⟩ ?_
   obtain ⟨⟨v6,v7,v8⟩,hk6,h⟩ := bind_some h
   refine Tri.f 2 [.g true,.r ⟨[],.agg [.sl 1104 0,.sl 1105 0,.i v6],[(1104,.arr 26 0 0 (.ratss v7)),(1105,.arr 3 0 0 (.ints v8))]⟩] [.swap 1104 1000,.swap 1105 1001,.keep [6,7] [6,1000,1001]] rfl ⟨fun _ => ((W85 a0 a1 a2 (v6,v7,v8) hk6).swap 1000 1104).swap 1001 1105,rfl,trivial⟩ ?_
   cases h
   exact Tri.ret rfl ⟨.inl rfl,rfl,rfl⟩
  ·obtain ⟨v9,hk7,h⟩ := bind_some h
   rcases bif_some h with ⟨hd8,h⟩ | ⟨hd8,h⟩
   ·refine Tri.f 1 [.v (.bool v1),.g false,.v (.bool v5),.g false,.v (.bool v9),.g true] [.keep [1,2,3,6,50] [3,6,1100,1101]] rfl ⟨hd8,fun _ => W7 a4 (0 : Int) (IntKind.i64.wrap ((IntKind.i64.wrap (a2 + (a0.length : Int))) - 1)) v9 hk7,hd5,fun _ => W7 a3 (0 : Int) (IntKind.i64.wrap ((a0.length : Int) - 1)) v5 hk4,hd2,fun _ => W74 a0 a1 a2 v1 hk1,trivial⟩ ?_
    obtain ⟨⟨v10,v11,v12⟩,hk9,h⟩ := bind_some h
    refine Tri.f 2 [.g true,.r ⟨[],.agg [.sl 1106 0,.sl 1107 0,.i v10],[(1106,.arr 26 0 0 (.ratss v11)),(1107,.arr 3 0 0 (.ints v12))]⟩] [.swap 1106 1000,.swap 1107 1001,.keep [6,7] [6,1000,1001]] rfl ⟨fun _ => ((W85 a0 a1 a2 (v10,v11,v12) hk9).swap 1000 1106).swap 1001 1107,rfl,trivial⟩ ?_
    cases h
    exact Tri.ret rfl ⟨.inl rfl,rfl,rfl⟩
   ·obtain ⟨hg10,h⟩ := grd_some h
    obtain ⟨hg11,h⟩ := grd_some h
    refine Tri.f 1 [.v (.bool v1),.g false,.v (.bool v5),.g false,.v (.bool v9),.g false] [.keep [1,2,3,6,50] [3,6,1100,1101]] rfl ⟨hg11,hg10,hd8,fun _ => W7 a4 (0 : Int) (IntKind.i64.wrap ((IntKind.i64.wrap (a2 + (a0.length : Int))) - 1)) v9 hk7,hd5,fun _ => W7 a3 (0 : Int) (IntKind.i64.wrap ((a0.length : Int) - 1)) v5 hk4,hd2,fun _ => W74 a0 a1 a2 v1 hk1,trivial⟩ ?_
    rcases bif_some h with ⟨hd12,h⟩ | ⟨hd12,h⟩
    ·obtain ⟨⟨v13,v14,v15⟩,hk13,h⟩ := bind_some h
     refine Tri.f 2 [.g true,.r ⟨[],.agg [.sl 1108 0,.sl 1109 0,.i v13],[(1108,.arr 26 0 0 (.ratss v14)),(1109,.arr 3 0 0 (.ints v15))]⟩] [.swap 1108 1000,.swap 1109 1001,.keep [6,7] [6,1000,1001]] rfl ⟨fun _ => ((W85 a0 a1 a2 (v13,v14,v15) hk13).swap 1000 1108).swap 1001 1109,hd12,trivial⟩ ?_
     cases h
     exact Tri.ret rfl ⟨.inl rfl,rfl,rfl⟩
    ·obtain ⟨⟨v16,v17,v18⟩,hk14,h⟩ := bind_some h
     refine Tri.f 2 [.g false,.r ⟨[],.agg [.sl 1110 0,.sl 1111 0,.i v16],[(1110,.arr 26 0 0 (.ratss v17)),(1111,.arr 3 0 0 (.ints v18))]⟩] [.keep [1,2,3,6,8] [3,6,8,1100,1101,1110,1111]] rfl ⟨fun _ => ((W85 a0 a1 a2 (v16,v17,v18) hk14).swap 1000 1110).swap 1001 1111,hd12,trivial⟩ ?_
     obtain ⟨hg15,h⟩ := grd_some h
     obtain ⟨hg16,h⟩ := grd_some h
     obtain ⟨hg17,h⟩ := grd_some h
     obtain ⟨⟨v19,v20⟩,hk18,h⟩ := bind_some h
     refine Tri.f 2 [.r ⟨[],.tuple [.sl 1112 0,.bool v19],[(1112,.arr 31 0 0 (.rats v20))]⟩] [.keep [1,2,3,6,8,9,73] [3,6,8,1100,1101,1110,1111,1112]] rfl ⟨fun _ => (W86 (a0.getD a3.toNat []) (((a0.getD a3.toNat []).getD a4.toNat ⟨0,0⟩).num) (((a0.getD a3.toNat []).getD a4.toNat ⟨0,0⟩).den) (v19,v20) hk18).swap 1000 1112,hg17,hg16,hg15,trivial⟩ ?_
     rcases bif_some h with ⟨hd19,h⟩ | ⟨hd19,h⟩
     ·obtain ⟨⟨v21,v22,v23⟩,hk20,h⟩ := bind_some h
      refine Tri.f 2 [.g true,.r ⟨[],.agg [.sl 1113 0,.sl 1114 0,.i v21],[(1113,.arr 26 0 0 (.ratss v22)),(1114,.arr 3 0 0 (.ints v23))]⟩] [.swap 1113 1000,.swap 1114 1001,.keep [6,7] [6,1000,1001]] rfl ⟨fun _ => ((W85 a0 a1 a2 (v21,v22,v23) hk20).swap 1000 1113).swap 1001 1114,hd19,trivial⟩ ?_
      cases h
      exact Tri.ret rfl ⟨.inl rfl,rfl,rfl⟩
     ·refine Tri.f 1 [.g false] [.keep [1,2,3,6,8,9] [3,6,8,1100,1101,1110,1111,1112]] rfl ⟨hd19,trivial⟩ ?_
      obtain ⟨hg21,h⟩ := grd_some h
      refine Tri.row [] [9] [.keep [1,2,3,6,8,9] [3,6,8,1100,1101,1110,1111]] (K' := [.code [(6,0),(0,0)] 0,.code [(6,0)] 1,.code [] 7]) (σ' := ⟨[(1,.i a3),(2,.i a4),(3,.ptr 3 0),(6,.ptr 6 0),(8,.ptr 8 0),(9,.sub 1110 0 1 a3.toNat)],[(3,.box [.list (.ratss a0),.list (.ints a1),.i a2]),(6,.box [.sl 1100 0,.sl 1101 0,.i 0]),(8,.box [.sl 1110 0,.sl 1111 0,.i v16]),(1100,.arr 26 0 0 (.ratss [])),(1101,.arr 3 0 0 (.ints [])),(1110,.arr 26 0 1 (.ratss (v17.set a3.toNat v20))),(1111,.arr 3 0 0 (.ints v18))]⟩) rfl ⟨hg21,trivial⟩ rfl ?_
      refine Tri.f 1 [] [.rever 1110,.keep [1,2,3,6,8,9,11] [3,6,8,1100,1101,1110,1111]] rfl trivial ?_
      obtain ⟨x1,hk34,h⟩ := bind_some h
      refine Tri.loop (K1 := [.code [(6,0),(1,0),(0,0)] 0]) (K2 := [.blk 0,.code [] 7]) (fun (v24,v25) => ⟨[(1,.i a3),(2,.i a4),(3,.ptr 3 0),(6,.ptr 6 0),(8,.ptr 8 0),(9,.sub 1110 0 0 a3.toNat),(11,.i v24)],[(3,.box [.list (.ratss a0),.list (.ints a1),.i a2]),(6,.box [.sl 1100 0,.sl 1101 0,.i 0]),(8,.box [.sl 1110 0,.sl 1111 0,.i v16]),(1100,.arr 26 0 0 (.ratss [])),(1101,.arr 3 0 0 (.ints [])),(1110,.arr 26 0 0 (.ratss v25)),(1111,.arr 3 0 0 (.ints v18))]⟩) (fun x e σ' => match x with | (.inl v33) => e = .exit 0 ∧ σ' = ⟨[(1,.i a3),(2,.i a4),(6,.ptr 6 0),(8,.ptr 8 0)],[(6,.box [.sl 1100 0,.sl 1101 0,.i 0]),(8,.box [.sl 1110 0,.sl 1111 0,.i v16]),(1100,.arr 26 0 0 (.ratss [])),(1101,.arr 3 0 0 (.ints [])),(1110,.arr 26 0 0 (.ratss v33)),(1111,.arr 3 0 0 (.ints v18))]⟩ | (.inr r) => e = .ret ∧ K205 r σ') hk34 rfl rfl ?_ ?_
      ·intro s x hs
       clear h
       have h := hs
       clear hs
       obtain ⟨v24,v25⟩ := s
       refine Tri.f 1 [] [.keep [1,2,3,6,8,9,11,85] [3,6,8,1100,1101,1110,1111]] rfl trivial ?_
       rcases bif_some h with ⟨hd22,h⟩ | ⟨hd22,h⟩
       ·obtain ⟨hg23,h⟩ := grd_some h
        obtain ⟨hg24,h⟩ := grd_some h
        refine Tri.f 2 [.g true] [.keep [1,2,3,6,8,9,11,12] [3,6,8,12,1100,1101,1110,1111]] rfl ⟨hg24,hg23,hd22,trivial⟩ ?_
        rcases bif_some h with ⟨hd25,h⟩ | ⟨hd25,h⟩
        ·refine Tri.f 1 [.g true] [.keep [1,2,3,6,8,9,11,12,103] [3,6,8,12,1100,1101,1110,1111]] rfl ⟨hd25,trivial⟩ ?_
         refine Tri.f 2 [.g true] [.keep [1,2,3,6,8,9,11] [3,6,8,1100,1101,1110,1111]] rfl ⟨rfl,trivial⟩ ?_
         cases h
         exact Tri.nil ⟨rfl,rfl⟩
        ·obtain ⟨⟨v26,v27⟩,hk26,h⟩ := bind_some h
         refine Tri.f 1 [.g false,.v (.agg [.i v26,.i v27])] [.keep [1,2,3,6,8,9,11,12,103] [3,6,8,12,1100,1101,1110,1111]] rfl ⟨fun _ => W12 (0 : Int) (v26,v27) hk26,hd25,trivial⟩ ?_
         rcases bif_some h with ⟨hd27,h⟩ | ⟨hd27,h⟩
         ·refine Tri.f 2 [.g true] [.keep [1,2,3,6,8,9,11] [3,6,8,1100,1101,1110,1111]] rfl ⟨hd27,trivial⟩ ?_
          cases h
          exact Tri.nil ⟨rfl,rfl⟩
         ·obtain ⟨hg28,h⟩ := grd_some h
          obtain ⟨⟨v28,v29⟩,hk29,h⟩ := bind_some h
          refine Tri.f 3 [.g false,.r ⟨[],.tuple [.sl 1115 0,.bool v28],[(1115,.arr 31 0 0 (.rats v29))]⟩] [.keep [1,2,3,6,8,9,11,13,121] [3,6,8,1100,1101,1110,1111,1115]] rfl ⟨fun _ => (W78 (a0.getD v24.toNat []) (IntKind.i64.wrap (0 - (((a0.getD v24.toNat []).getD a4.toNat ⟨0,0⟩).num))) (((a0.getD v24.toNat []).getD a4.toNat ⟨0,0⟩).den) (v25.getD a3.toNat []) (v28,v29) hk29).swap 1000 1115,hg28,hd27,trivial⟩ ?_
          rcases bif_some h with ⟨hd30,h⟩ | ⟨hd30,h⟩
          ·obtain ⟨⟨v30,v31,v32⟩,hk31,h⟩ := bind_some h
           refine Tri.f 2 [.g true,.r ⟨[],.agg [.sl 1116 0,.sl 1117 0,.i v30],[(1116,.arr 26 0 0 (.ratss v31)),(1117,.arr 3 0 0 (.ints v32))]⟩] [.swap 1116 1000,.swap 1117 1001,.keep [6,7] [6,1000,1001]] rfl ⟨fun _ => ((W85 a0 a1 a2 (v30,v31,v32) hk31).swap 1000 1116).swap 1001 1117,hd30,trivial⟩ ?_
           cases h
           exact Tri.ret rfl ⟨nofun,rfl,rfl,rfl⟩
          ·refine Tri.f 1 [.g false] [.keep [1,2,3,6,8,9,11,13] [3,6,8,1100,1101,1110,1111,1115]] rfl ⟨hd30,trivial⟩ ?_
           obtain ⟨hg32,h⟩ := grd_some h
           obtain ⟨hg33,h⟩ := grd_some h
           refine Tri.row [] [9] [.keep [1,2,3,6,8,9,11] [3,6,8,1100,1101,1110,1111]] (K' := [.code [(6,0),(1,0),(0,0)] 2]) (σ' := ⟨[(1,.i a3),(2,.i a4),(3,.ptr 3 0),(6,.ptr 6 0),(8,.ptr 8 0),(9,.sub 1110 0 1 a3.toNat),(11,.i v24)],[(3,.box [.list (.ratss a0),.list (.ints a1),.i a2]),(6,.box [.sl 1100 0,.sl 1101 0,.i 0]),(8,.box [.sl 1110 0,.sl 1111 0,.i v16]),(1100,.arr 26 0 0 (.ratss [])),(1101,.arr 3 0 0 (.ints [])),(1110,.arr 26 0 1 (.ratss (v25.set v24.toNat v29))),(1111,.arr 3 0 0 (.ints v18))]⟩) rfl ⟨hg33,hg32,trivial⟩ rfl ?_
           refine Tri.f 1 [] [.rever 1110,.keep [1,2,3,6,8,9,11] [3,6,8,1100,1101,1110,1111]] rfl trivial ?_
           cases h
           exact Tri.nil ⟨rfl,rfl⟩
       ·refine Tri.f 1 [.g false] [.keep [1,2,6,8] [6,8,1100,1101,1110,1111]] rfl ⟨hd22,trivial⟩ ?_
        cases h
        exact Tri.out 0 rfl ⟨nofun,rfl,rfl⟩
      ·intro e σ' hne hq
       rcases x1 with v33 | r
       ·obtain ⟨rfl,rfl⟩ := hq
        refine TriX.exit (K' := [.code [] 7]) rfl ?_
        obtain ⟨hg35,h⟩ := grd_some h
        refine Tri.f 2 [] [.swap 1110 1000,.swap 1111 1001,.keep [6,7] [6,1000,1001]] rfl ⟨hg35,trivial⟩ ?_
        cases h
        exact Tri.ret rfl ⟨.inl rfl,rfl,rfl⟩
       ·obtain ⟨rfl,hq⟩ := hq
        cases h
        exact TriX.ret ⟨.inl rfl,hq⟩
noncomputable def E321 : Env := ⟨Tryz.prog,tys,(Tryz.f103.body).getD .skip,49,tysOk,mixedOk⟩
abbrev K206 (u0 : Value) (a0 : List (List Int)) (u1 : Value) (a1 : List Int) (u2 : Value) (a2 : List Q) (r : (List (List Q)) × (List Int) × Int × Int × Bool) (σ' : ASt) : Prop := isRes E321.T Tryz.f103 (.tuple []) [(1000,.arr 26 0 0 (.ratss r.1)),(1001,.arr 3 0 0 (.ints r.2.1)),(2240,.box [.lst u0 (.intss a0),.lst u1 (.ints a1),.lst u2 (.rats a2),.sl 1000 0,.sl 1001 0,.i r.2.2.1,.i r.2.2.2.1,.bool r.2.2.2.2])] σ'
noncomputable def m_spec_l7Pivot_io3 (_a0 : List (List Int)) (_a1 : List Int) (_a2 : List Q) (a3 : List (List Q)) (a4 : List Int) (a5 a6 : Int) (a7 : Bool) (a8 a9 : Int) : Option ((List (List Q)) × (List Int) × Int × Int × Bool) :=
bif decide (a6 ≥ 1000) then
(some (a3,a4,a5,a6,true))
else
((m_spec_PivotTableau a3 a4 a5 a8 a9).bind fun (v1,v2,v3,v4) =>
bif a7 then
(some (v3,v4,v1,IntKind.i64.wrap (a6 + 1),true))
else
(some (v3,v4,v1,IntKind.i64.wrap (a6 + 1),!v2)))
theorem W88 (u0 u1 u2 : Value) (a0 : List (List Int)) (a1 : List Int) (a2 : List Q) (a3 : List (List Q)) (a4 : List Int) (a5 : Int) (a6 : Int) (a7 : Bool) (a8 : Int) (a9 : Int) (r : (List (List Q)) × (List Int) × Int × Int × Bool) (h : m_spec_l7Pivot_io3 a0 a1 a2 a3 a4 a5 a6 a7 a8 a9 = some r) : AM.Spec Tryz.prog 103 [.ptr 2240 0,.i a8,.i a9] [(2240,.box [.lst u0 (.intss a0),.lst u1 (.ints a1),.lst u2 (.rats a2),.sl 2241 0,.sl 2242 0,.i a5,.i a6,.bool a7]),(2241,.arr 26 0 0 (.ratss a3)),(2242,.arr 3 0 0 (.ints a4))] (.tuple []) [(1000,.arr 26 0 0 (.ratss r.1)),(1001,.arr 3 0 0 (.ints r.2.1)),(2240,.box [.lst u0 (.intss a0),.lst u1 (.ints a1),.lst u2 (.rats a2),.sl 1000 0,.sl 1001 0,.i r.2.2.1,.i r.2.2.2.1,.bool r.2.2.2.2])] := by
 refine spec_of (E := E321) Tryz.func103 rfl rfl rfl rfl ?_
 refine Tri.f 1 [] [.keep [0,1,2,12] [2240,2241,2242]] rfl trivial ?_
 rcases bif_some h with ⟨hd1,h⟩ | ⟨hd1,h⟩
 ·refine Tri.f 2 [.g true] [.swap 2241 1100,.swap 2242 1101,.swap 1100 1000,.swap 1101 1001,.keep [] [1000,1001,2240]] rfl ⟨hd1,trivial⟩ ?_
  cases h
  exact Tri.ret rfl ⟨.inl rfl,rfl,rfl⟩
 ·obtain ⟨⟨v1,v2,v3,v4⟩,hk2,h⟩ := bind_some h
  refine Tri.f 3 [.g false,.r ⟨[],.tuple [.agg [.sl 1102 0,.sl 1103 0,.i v1],.bool v2],[(1102,.arr 26 0 0 (.ratss v3)),(1103,.arr 3 0 0 (.ints v4))]⟩] [.keep [0,7] [1102,1103,2240,2241,2242]] rfl ⟨fun _ => ((W87 a3 a4 a5 a8 a9 (v1,v2,v3,v4) hk2).swap 1000 1102).swap 1001 1103,hd1,trivial⟩ ?_
  refine Tri.f 1 [] [.keep [0,7] [1102,1103,2240,2241,2242]] rfl trivial ?_
  rcases bif_some h with ⟨hd3,h⟩ | ⟨hd3,h⟩
  ·refine Tri.f 1 [.g true] [.swap 1102 1000,.swap 1103 1001,.keep [] [1000,1001,2240]] rfl ⟨hd3,trivial⟩ ?_
   cases h
   exact Tri.nil ⟨.inr rfl,rfl,rfl⟩
  ·refine Tri.f 1 [.g false] [.swap 1102 1000,.swap 1103 1001,.keep [] [1000,1001,2240]] rfl ⟨hd3,trivial⟩ ?_
   cases h
   exact Tri.nil ⟨.inr rfl,rfl,rfl⟩
noncomputable def E322 : Env := ⟨Tryz.prog,tys,(Tryz.f71.body).getD .skip,58,tysOk,mixedOk⟩
abbrev K207 (u0 : Value) (a0 : List (List Int)) (u1 : Value) (a1 : List Int) (u2 : Value) (a2 : List Q) (r : Int × (List Q) × (List (List Q)) × (List Int) × Int × Int × Bool) (σ' : ASt) : Prop := isRes E322.T Tryz.f71 (.tuple [.sl 1000 0,.i r.1]) [(1000,.arr 31 0 0 (.rats r.2.1)),(1001,.arr 26 0 0 (.ratss r.2.2.1)),(1002,.arr 3 0 0 (.ints r.2.2.2.1)),(2220,.box [.lst u0 (.intss a0),.lst u1 (.ints a1),.lst u2 (.rats a2),.sl 1001 0,.sl 1002 0,.i r.2.2.2.2.1,.i r.2.2.2.2.2.1,.bool r.2.2.2.2.2.2])] σ'
noncomputable def l_spec_l7Phase_io3_0 (a0 : List (List Int)) (a1 : List Int) (a2 a8 : List Q) : ((List (List Q)) × (List Int) × Int × Int × Bool) → Option (((List (List Q)) × (List Int) × Int × Int × Bool) ⊕ ((Int × (List Q) × (List (List Q)) × (List Int) × Int × Int × Bool)))
 | (v1,v2,v3,v4,v5) => (
(m_spec_CostRow v1 v2 v3 a8).bind fun (v6,v7) =>
bif !v6 then
(some (.inr ((-1 : Int),v7,v1,v2,v3,v4,true)))
else
((m_spec_EnteringColumn v1 v2 v3 v7 v3).bind fun v8 =>
bif decide (v8 < 0) then
(some (.inr ((-1 : Int),v7,v1,v2,v3,v4,v5)))
else
((m_spec_LeavingRow v1 v2 v3 v8).bind fun v9 =>
bif decide (v9 < 0) then
(some (.inr (v8,v7,v1,v2,v3,v4,v5)))
else
((m_spec_l7Pivot_io3 a0 a1 a2 v1 v2 v3 v4 v5 v9 v8).bind fun (v10,v11,v12,v13,v14) =>
bif v14 then
(some (.inr ((-1 : Int),v7,v10,v11,v12,v13,v14)))
else
(some (.inl (v10,v11,v12,v13,v14)))))))
noncomputable def m_spec_l7Phase_io3 (a0 : List (List Int)) (a1 : List Int) (a2 : List Q) (a3 : List (List Q)) (a4 : List Int) (a5 a6 : Int) (a7 : Bool) (a8 : List Q) : Option (Int × (List Q) × (List (List Q)) × (List Int) × Int × Int × Bool) :=
(iter (l_spec_l7Phase_io3_0 a0 a1 a2 a8) (a3,a4,a5,a6,a7)).bind fun
| r => some r
theorem W89 (u0 u1 u2 : Value) (a0 : List (List Int)) (a1 : List Int) (a2 : List Q) (a3 : List (List Q)) (a4 : List Int) (a5 : Int) (a6 : Int) (a7 : Bool) (a8 : List Q) (r : Int × (List Q) × (List (List Q)) × (List Int) × Int × Int × Bool) (h : m_spec_l7Phase_io3 a0 a1 a2 a3 a4 a5 a6 a7 a8 = some r) : AM.Spec Tryz.prog 71 [.ptr 2220 0,.list (.rats a8)] [(2220,.box [.lst u0 (.intss a0),.lst u1 (.ints a1),.lst u2 (.rats a2),.sl 2221 0,.sl 2222 0,.i a5,.i a6,.bool a7]),(2221,.arr 26 0 0 (.ratss a3)),(2222,.arr 3 0 0 (.ints a4))] (.tuple [.sl 1000 0,.i r.1]) [(1000,.arr 31 0 0 (.rats r.2.1)),(1001,.arr 26 0 0 (.ratss r.2.2.1)),(1002,.arr 3 0 0 (.ints r.2.2.2.1)),(2220,.box [.lst u0 (.intss a0),.lst u1 (.ints a1),.lst u2 (.rats a2),.sl 1001 0,.sl 1002 0,.i r.2.2.2.2.1,.i r.2.2.2.2.2.1,.bool r.2.2.2.2.2.2])] := by
 refine spec_of (E := E322) Tryz.func71 rfl rfl rfl rfl ?_
 refine Tri.f 1 [] [.swap 2221 1100,.swap 2222 1101,.keep [0,1] [1100,1101,2220]] rfl trivial ?_
 obtain ⟨r,hk9,h⟩ := bind_some h
 refine Tri.loop (K1 := [.code [(1,0),(0,0)] 0]) (K2 := [.blk 0]) (fun (v1,v2,v3,v4,v5) => ⟨[(0,.ptr 2220 0),(1,.list (.rats a8))],[(1100,.arr 26 0 0 (.ratss v1)),(1101,.arr 3 0 0 (.ints v2)),(2220,.box [.lst u0 (.intss a0),.lst u1 (.ints a1),.lst u2 (.rats a2),.sl 1100 0,.sl 1101 0,.i v3,.i v4,.bool v5])]⟩) (fun x e σ' => match x with | r => e = .ret ∧ K207 u0 a0 u1 a1 u2 a2 r σ') hk9 rfl rfl ?_ ?_
 ·intro s x hs
  clear h
  have h := hs
  clear hs
  obtain ⟨v1,v2,v3,v4,v5⟩ := s
  obtain ⟨⟨v6,v7⟩,hk1,h⟩ := bind_some h
  refine Tri.f 2 [.r ⟨[],.tuple [.sl 1102 0,.bool v6],[(1102,.arr 31 0 0 (.rats v7))]⟩] [.keep [0,1,6,20] [1100,1101,1102,2220]] rfl ⟨fun _ => (W79 v1 v2 v3 a8 (v6,v7) hk1).swap 1000 1102,trivial⟩ ?_
  rcases bif_some h with ⟨hd2,h⟩ | ⟨hd2,h⟩
  ·refine Tri.f 3 [.g true] [.swap 1102 1000,.swap 1100 1001,.swap 1101 1002,.keep [4,5] [1000,1001,1002,2220]] rfl ⟨hd2,trivial⟩ ?_
   cases h
   exact Tri.ret rfl ⟨nofun,rfl,rfl,rfl⟩
  ·obtain ⟨v8,hk3,h⟩ := bind_some h
   refine Tri.f 3 [.g false,.v (.i v8)] [.keep [0,1,6,8,37] [1100,1101,1102,2220]] rfl ⟨fun _ => W82 v1 v2 v3 v7 v3 v8 hk3,hd2,trivial⟩ ?_
   rcases bif_some h with ⟨hd4,h⟩ | ⟨hd4,h⟩
   ·refine Tri.f 2 [.g true] [.swap 1102 1000,.swap 1100 1001,.swap 1101 1002,.keep [4,5] [1000,1001,1002,2220]] rfl ⟨hd4,trivial⟩ ?_
    cases h
    exact Tri.ret rfl ⟨nofun,rfl,rfl,rfl⟩
   ·obtain ⟨v9,hk5,h⟩ := bind_some h
    refine Tri.f 3 [.g false,.v (.i v9)] [.keep [0,1,6,8,9,46] [1100,1101,1102,2220]] rfl ⟨fun _ => W84 v1 v2 v3 v8 v9 hk5,hd4,trivial⟩ ?_
    rcases bif_some h with ⟨hd6,h⟩ | ⟨hd6,h⟩
    ·refine Tri.f 2 [.g true] [.swap 1102 1000,.swap 1100 1001,.swap 1101 1002,.keep [4,5] [1000,1001,1002,2220]] rfl ⟨hd6,trivial⟩ ?_
     cases h
     exact Tri.ret rfl ⟨nofun,rfl,rfl,rfl⟩
    ·obtain ⟨⟨v10,v11,v12,v13,v14⟩,hk7,h⟩ := bind_some h
     refine Tri.f 3 [.g false,.r ⟨[2220,1100,1101],.tuple [],[(1103,.arr 26 0 0 (.ratss v10)),(1104,.arr 3 0 0 (.ints v11)),(2220,.box [.undf,.undf,.undf,.sl 1103 0,.sl 1104 0,.i v12,.i v13,.bool v14])]⟩] [.keep [0,1,6,56] [1102,1103,1104,2220]] rfl ⟨(fun vf => ((((((W88 (vf 2220 0) (vf 2220 1) (vf 2220 2) a0 a1 a2 v1 v2 v3 v4 v5 v9 v8 (v10,v11,v12,v13,v14) hk7).swap 1000 1103).swap 1001 1104).swap 2240 2220).swap 2241 1100).swap 2242 1101)),hd6,trivial⟩ ?_
     rcases bif_some h with ⟨hd8,h⟩ | ⟨hd8,h⟩
     ·refine Tri.f 2 [.g true] [.swap 1102 1000,.swap 1103 1001,.swap 1104 1002,.keep [4,5] [1000,1001,1002,2220]] rfl ⟨hd8,trivial⟩ ?_
      cases h
      exact Tri.ret rfl ⟨nofun,rfl,rfl,rfl⟩
     ·refine Tri.f 1 [.g false] [.swap 1103 1100,.swap 1104 1101,.keep [0,1] [1100,1101,2220]] rfl ⟨hd8,trivial⟩ ?_
      cases h
      exact Tri.nil ⟨rfl,rfl⟩
 ·intro e σ' hne hq
  obtain ⟨rfl,hq⟩ := hq
  cases h
  exact TriX.ret ⟨.inl rfl,hq⟩
noncomputable def E323 : Env := ⟨Tryz.prog,tys,(Tryz.f104.body).getD .skip,19,tysOk,mixedOk⟩
abbrev K208 (r : Int × Int × Bool) (σ' : ASt) : Prop := isRes E323.T Tryz.f104 (.tuple [.agg [.i r.1,.i r.2.1],.bool r.2.2]) [] σ'
noncomputable def m_spec_SubRat (a0 a1 a2 a3 : Int) : Option (Int × Int × Bool) :=
(m_spec_IsValidRat a2 a3).bind fun v1 =>
bif !v1 then
(some (0,0,false))
else
((m_spec_AddRat a0 a1 (IntKind.i64.wrap (0 - a2)) a3).bind fun (v2,v3,v4) =>
some (v2,v3,v4))
theorem W90 (a0 a1 a2 a3 : Int) (r : Int × Int × Bool) (h : m_spec_SubRat a0 a1 a2 a3 = some r) : AM.Spec Tryz.prog 104 [.agg [.i a0,.i a1],.agg [.i a2,.i a3]] [] (.tuple [.agg [.i r.1,.i r.2.1],.bool r.2.2]) [] := by
 refine spec_of (E := E323) Tryz.func104 rfl rfl rfl rfl ?_
 refine Tri.f 1 [] [.keep [2,3,4] [2,3,4]] rfl trivial ?_
 obtain ⟨v1,hk1,h⟩ := bind_some h
 refine Tri.f 1 [.v (.bool v1)] [.keep [2,3,4,8] [2,3,4]] rfl ⟨fun _ => W9 a2 a3 v1 hk1,trivial⟩ ?_
 rcases bif_some h with ⟨hd2,h⟩ | ⟨hd2,h⟩
 ·refine Tri.f 2 [.g true] [.keep [4,5] [4]] rfl ⟨hd2,trivial⟩ ?_
  cases h
  exact Tri.ret rfl ⟨.inl rfl,rfl,rfl⟩
 ·refine Tri.f 2 [.g false] [.keep [2,3,4] [2,3,4]] rfl ⟨hd2,trivial⟩ ?_
  obtain ⟨⟨v2,v3,v4⟩,hk3,h⟩ := bind_some h
  refine Tri.f 1 [.v (.tuple [.agg [.i v2,.i v3],.bool v4])] [.keep [4,5] [4]] rfl ⟨fun _ => W77 a0 a1 (IntKind.i64.wrap (0 - a2)) a3 (v2,v3,v4) hk3,trivial⟩ ?_
  cases h
  exact Tri.ret rfl ⟨.inl rfl,rfl,rfl⟩
noncomputable def E324 : Env := ⟨Tryz.prog,tys,(Tryz.f73.body).getD .skip,56,tysOk,mixedOk⟩
abbrev K209 (u0 : Value) (a0 : List (List Int)) (u1 : Value) (a1 : List Int) (u2 : Value) (a2 : List Q) (r : (List Q) × (List (List Q)) × (List Int) × Int × Int × Bool) (σ' : ASt) : Prop := isRes E324.T Tryz.f73 (.sl 1000 0) [(1000,.arr 31 0 0 (.rats r.1)),(1001,.arr 26 0 0 (.ratss r.2.1)),(1002,.arr 3 0 0 (.ints r.2.2.1)),(2260,.box [.lst u0 (.intss a0),.lst u1 (.ints a1),.lst u2 (.rats a2),.sl 1001 0,.sl 1002 0,.i r.2.2.2.1,.i r.2.2.2.2.1,.bool r.2.2.2.2.2])] σ'
noncomputable def l_spec_l7Dual_io3_0 (a0 : List (List Int)) (a1 : List Int) (a5 : Int) (a8 : List Q) (a9 : Int) : (Int × (List Q)) → Option ((Int × (List Q)) ⊕ ((List Q)))
 | (v1,v2) => (
bif decide (v1 < (a0.length : Int)) then
((m_spec_l3Int a9).bind fun (v3,v4) =>
grd (0 ≤ IntKind.i64.wrap (a5 + v1) ∧ IntKind.i64.wrap (a5 + v1) < (a8.length : Int)) <|
(m_spec_SubRat v3 v4 ((a8.getD ((IntKind.i64.wrap (a5 + v1)).toNat) ⟨0,0⟩).num) ((a8.getD ((IntKind.i64.wrap (a5 + v1)).toNat) ⟨0,0⟩).den)).bind fun (v5,v6,_) =>
grd (0 ≤ v1 ∧ v1 < (a1.length : Int)) <|
bif decide ((a1.getD v1.toNat 0) < 0) then
(grd (v2.length + ([⟨IntKind.i64.wrap (0 - v5),v6⟩] : List Q).length ≤ room) <|
some (.inl (IntKind.i64.wrap (v1 + 1),v2 ++ [⟨IntKind.i64.wrap (0 - v5),v6⟩])))
else
(grd (v2.length + ([⟨v5,v6⟩] : List Q).length ≤ room) <|
some (.inl (IntKind.i64.wrap (v1 + 1),v2 ++ [⟨v5,v6⟩]))))
else
(some (.inr v2)))
noncomputable def m_spec_l7Dual_io3 (a0 : List (List Int)) (a1 : List Int) (_a2 : List Q) (a3 : List (List Q)) (a4 : List Int) (a5 a6 : Int) (a7 : Bool) (a8 : List Q) (a9 : Int) : Option ((List Q) × (List (List Q)) × (List Int) × Int × Int × Bool) :=
(iter (l_spec_l7Dual_io3_0 a0 a1 a5 a8 a9) ((0 : Int),[])).bind fun
| v8 => (
some (v8,a3,a4,a5,a6,a7))
theorem W91 (u0 u1 u2 : Value) (a0 : List (List Int)) (a1 : List Int) (a2 : List Q) (a3 : List (List Q)) (a4 : List Int) (a5 : Int) (a6 : Int) (a7 : Bool) (a8 : List Q) (a9 : Int) (r : (List Q) × (List (List Q)) × (List Int) × Int × Int × Bool) (h : m_spec_l7Dual_io3 a0 a1 a2 a3 a4 a5 a6 a7 a8 a9 = some r) : AM.Spec Tryz.prog 73 [.ptr 2260 0,.list (.rats a8),.i a9] [(2260,.box [.lst u0 (.intss a0),.lst u1 (.ints a1),.lst u2 (.rats a2),.sl 2261 0,.sl 2262 0,.i a5,.i a6,.bool a7]),(2261,.arr 26 0 0 (.ratss a3)),(2262,.arr 3 0 0 (.ints a4))] (.sl 1000 0) [(1000,.arr 31 0 0 (.rats r.1)),(1001,.arr 26 0 0 (.ratss r.2.1)),(1002,.arr 3 0 0 (.ints r.2.2.1)),(2260,.box [.lst u0 (.intss a0),.lst u1 (.ints a1),.lst u2 (.rats a2),.sl 1001 0,.sl 1002 0,.i r.2.2.2.1,.i r.2.2.2.2.1,.bool r.2.2.2.2.2])] := by
 refine spec_of (E := E324) Tryz.func73 rfl rfl rfl rfl ?_
 refine Tri.f 3 [] [.swap 2261 1100,.swap 2262 1101,.keep [0,1,2,7,8] [11,1100,1101,2260]] rfl trivial ?_
 obtain ⟨v8,hk9,h⟩ := bind_some h
 refine Tri.loop (K1 := [.code [(2,0),(1,0),(0,0)] 0]) (K2 := [.blk 0,.code [] 3]) (fun (v1,v2) => ⟨[(0,.ptr 2260 0),(1,.list (.rats a8)),(2,.i a9),(7,.sl 11 0),(8,.i v1)],[(11,.arr 31 0 0 (.rats v2)),(1100,.arr 26 0 0 (.ratss a3)),(1101,.arr 3 0 0 (.ints a4)),(2260,.box [.lst u0 (.intss a0),.lst u1 (.ints a1),.lst u2 (.rats a2),.sl 1100 0,.sl 1101 0,.i a5,.i a6,.bool a7])]⟩) (fun x e σ' => match x with | v8 => e = .exit 0 ∧ σ' = ⟨[(7,.sl 11 0)],[(11,.arr 31 0 0 (.rats v8)),(1100,.arr 26 0 0 (.ratss a3)),(1101,.arr 3 0 0 (.ints a4)),(2260,.box [.lst u0 (.intss a0),.lst u1 (.ints a1),.lst u2 (.rats a2),.sl 1100 0,.sl 1101 0,.i a5,.i a6,.bool a7])]⟩) hk9 rfl rfl ?_ ?_
 ·intro s x hs
  clear h
  have h := hs
  clear hs
  obtain ⟨v1,v2⟩ := s
  refine Tri.f 1 [] [.keep [0,1,2,7,8,19] [11,1100,1101,2260]] rfl trivial ?_
  rcases bif_some h with ⟨hd1,h⟩ | ⟨hd1,h⟩
  ·obtain ⟨⟨v3,v4⟩,hk2,h⟩ := bind_some h
   obtain ⟨hg3,h⟩ := grd_some h
   obtain ⟨⟨v5,v6,v7⟩,hk4,h⟩ := bind_some h
   obtain ⟨hg5,h⟩ := grd_some h
   refine Tri.f 3 [.g true,.v (.agg [.i v3,.i v4]),.v (.tuple [.agg [.i v5,.i v6],.bool v7])] [.keep [0,1,2,7,8,9,46] [9,11,1100,1101,2260]] rfl ⟨hg5,fun _ => W90 v3 v4 ((a8.getD ((IntKind.i64.wrap (a5 + v1)).toNat) ⟨0,0⟩).num) ((a8.getD ((IntKind.i64.wrap (a5 + v1)).toNat) ⟨0,0⟩).den) (v5,v6,v7) hk4,hg3,fun _ => W12 a9 (v3,v4) hk2,hd1,trivial⟩ ?_
   rcases bif_some h with ⟨hd6,h⟩ | ⟨hd6,h⟩
   ·obtain ⟨hg7,h⟩ := grd_some h
    refine Tri.f 3 [.g true] [.keep [0,1,2,7,8] [11,1100,1101,2260]] rfl ⟨hg7,hd6,trivial⟩ ?_
    refine Tri.f 1 [] [.rever 11,.keep [0,1,2,7,8] [11,1100,1101,2260]] rfl trivial ?_
    cases h
    exact Tri.nil ⟨rfl,rfl⟩
   ·obtain ⟨hg8,h⟩ := grd_some h
    refine Tri.f 3 [.g false] [.rever 11,.keep [0,1,2,7,8] [11,1100,1101,2260]] rfl ⟨hg8,hd6,trivial⟩ ?_
    cases h
    exact Tri.nil ⟨rfl,rfl⟩
  ·refine Tri.f 1 [.g false] [.keep [7] [11,1100,1101,2260]] rfl ⟨hd1,trivial⟩ ?_
   cases h
   exact Tri.out 0 rfl ⟨nofun,rfl,rfl⟩
 ·intro e σ' hne hq
  obtain ⟨rfl,rfl⟩ := hq
  refine TriX.exit (K' := [.code [] 3]) rfl ?_
  refine Tri.f 1 [] [.swap 11 1000,.swap 1100 1001,.swap 1101 1002,.keep [6] [1000,1001,1002,2260]] rfl trivial ?_
  cases h
  exact Tri.ret rfl ⟨.inl rfl,rfl,rfl⟩
noncomputable def E325 : Env := ⟨Tryz.prog,tys,(Tryz.f74.body).getD .skip,61,tysOk,mixedOk⟩
abbrev K210 (u0 : Value) (a0 : List (List Int)) (u1 : Value) (a1 : List Int) (u2 : Value) (a2 : List Q) (r : (List (List Q)) × (List Int) × Int × Int × Bool) (σ' : ASt) : Prop := isRes E325.T Tryz.f74 (.tuple []) [(1000,.arr 26 0 0 (.ratss r.1)),(1001,.arr 3 0 0 (.ints r.2.1)),(2280,.box [.lst u0 (.intss a0),.lst u1 (.ints a1),.lst u2 (.rats a2),.sl 1000 0,.sl 1001 0,.i r.2.2.1,.i r.2.2.2.1,.bool r.2.2.2.2])] σ'
noncomputable def l_spec_l7Drive_io3_1 (a0 : List (List Int)) (a1 : List Int) (a2 : List Q) (v1 : Int) (v2 : List (List Q)) (v3 : List Int) (v4 v5 : Int) (v6 : Bool) (v7 : Int) : Option (Int ⊕ (((List (List Q)) × (List Int) × Int × Int × Bool))) :=
bif decide (v7 < v4) then
(grd (0 ≤ v1 ∧ v1 < (v2.length : Int)) <|
grd (0 ≤ v7 ∧ v7 < ((v2.getD v1.toNat []).length : Int)) <|
bif (((v2.getD v1.toNat []).getD v7.toNat ⟨0,0⟩).num) != 0 then
((m_spec_l7Pivot_io3 a0 a1 a2 v2 v3 v4 v5 v6 v1 v7).bind fun (v8,v9,v10,v11,v12) =>
some (.inr (v8,v9,v10,v11,v12)))
else
(some (.inl (IntKind.i64.wrap (v7 + 1)))))
else
(some (.inr (v2,v3,v4,v5,v6)))
noncomputable def l_spec_l7Drive_io3_0 (a0 : List (List Int)) (a1 : List Int) (a2 : List Q) : (Int × (List (List Q)) × (List Int) × Int × Int × Bool) → Option ((Int × (List (List Q)) × (List Int) × Int × Int × Bool) ⊕ (((List (List Q)) × (List Int) × Int × Int × Bool)))
 | (v1,v2,v3,v4,v5,v6) => (
bif decide (v1 < (v2.length : Int)) then
(bif !v6 then
(grd (0 ≤ v1 ∧ v1 < (v3.length : Int)) <|
bif decide ((v3.getD v1.toNat 0) < v4) then
(some (.inl (IntKind.i64.wrap (v1 + 1),v2,v3,v4,v5,v6)))
else
((iter (l_spec_l7Drive_io3_1 a0 a1 a2 v1 v2 v3 v4 v5 v6) (0 : Int)).bind fun
| (v13,v14,v15,v16,v17) => (
some (.inl (IntKind.i64.wrap (v1 + 1),v13,v14,v15,v16,v17)))))
else
(some (.inr (v2,v3,v4,v5,v6))))
else
(some (.inr (v2,v3,v4,v5,v6))))
noncomputable def m_spec_l7Drive_io3 (a0 : List (List Int)) (a1 : List Int) (a2 : List Q) (a3 : List (List Q)) (a4 : List Int) (a5 a6 : Int) (a7 : Bool) : Option ((List (List Q)) × (List Int) × Int × Int × Bool) :=
(iter (l_spec_l7Drive_io3_0 a0 a1 a2) ((0 : Int),a3,a4,a5,a6,a7)).bind fun
| (v18,v19,v20,v21,v22) => (
some (v18,v19,v20,v21,v22))
theorem W92 (u0 u1 u2 : Value) (a0 : List (List Int)) (a1 : List Int) (a2 : List Q) (a3 : List (List Q)) (a4 : List Int) (a5 : Int) (a6 : Int) (a7 : Bool) (r : (List (List Q)) × (List Int) × Int × Int × Bool) (h : m_spec_l7Drive_io3 a0 a1 a2 a3 a4 a5 a6 a7 = some r) : AM.Spec Tryz.prog 74 [.ptr 2280 0] [(2280,.box [.lst u0 (.intss a0),.lst u1 (.ints a1),.lst u2 (.rats a2),.sl 2281 0,.sl 2282 0,.i a5,.i a6,.bool a7]),(2281,.arr 26 0 0 (.ratss a3)),(2282,.arr 3 0 0 (.ints a4))] (.tuple []) [(1000,.arr 26 0 0 (.ratss r.1)),(1001,.arr 3 0 0 (.ints r.2.1)),(2280,.box [.lst u0 (.intss a0),.lst u1 (.ints a1),.lst u2 (.rats a2),.sl 1000 0,.sl 1001 0,.i r.2.2.1,.i r.2.2.2.1,.bool r.2.2.2.2])] := by
 refine spec_of (E := E325) Tryz.func74 rfl rfl rfl rfl ?_
 refine Tri.f 1 [] [.swap 2281 1100,.swap 2282 1101,.keep [0,2] [1100,1101,2280]] rfl trivial ?_
 obtain ⟨x2,hk11,h⟩ := bind_some h
 refine Tri.loop (K1 := [.code [(1,0),(0,0)] 0]) (K2 := [.blk 0]) (fun (v1,v2,v3,v4,v5,v6) => ⟨[(0,.ptr 2280 0),(2,.i v1)],[(1100,.arr 26 0 0 (.ratss v2)),(1101,.arr 3 0 0 (.ints v3)),(2280,.box [.lst u0 (.intss a0),.lst u1 (.ints a1),.lst u2 (.rats a2),.sl 1100 0,.sl 1101 0,.i v4,.i v5,.bool v6])]⟩) (fun x e σ' => match x with | (v18,v19,v20,v21,v22) => e = .exit 0 ∧ σ' = ⟨[],[(1100,.arr 26 0 0 (.ratss v18)),(1101,.arr 3 0 0 (.ints v19)),(2280,.box [.lst u0 (.intss a0),.lst u1 (.ints a1),.lst u2 (.rats a2),.sl 1100 0,.sl 1101 0,.i v20,.i v21,.bool v22])]⟩) hk11 rfl rfl ?_ ?_
 ·intro s x hs
  clear h
  have h := hs
  clear hs
  obtain ⟨v1,v2,v3,v4,v5,v6⟩ := s
  rcases bif_some h with ⟨hd1,h⟩ | ⟨hd1,h⟩
  ·refine Tri.f 1 [.g true] [.keep [0,2,18] [1100,1101,2280]] rfl ⟨hd1,trivial⟩ ?_
   rcases bif_some h with ⟨hd2,h⟩ | ⟨hd2,h⟩
   ·obtain ⟨hg3,h⟩ := grd_some h
    refine Tri.f 2 [.g true] [.keep [0,2,34] [1100,1101,2280]] rfl ⟨hg3,hd2,trivial⟩ ?_
    rcases bif_some h with ⟨hd4,h⟩ | ⟨hd4,h⟩
    ·refine Tri.f 2 [.g true] [.keep [0,2] [1100,1101,2280]] rfl ⟨hd4,trivial⟩ ?_
     cases h
     exact Tri.nil ⟨rfl,rfl⟩
    ·refine Tri.f 2 [.g false] [.keep [0,2,3] [1100,1101,2280]] rfl ⟨hd4,trivial⟩ ?_
     obtain ⟨x2,hk10,h⟩ := bind_some h
     refine Tri.loop (K1 := [.code [(1,0),(0,0),(1,0),(0,0),(2,0),(0,0)] 0]) (K2 := [.blk 2,.blk 1,.code [(1,0),(0,0)] 2]) (fun v7 => ⟨[(0,.ptr 2280 0),(2,.i v1),(3,.i v7)],[(1100,.arr 26 0 0 (.ratss v2)),(1101,.arr 3 0 0 (.ints v3)),(2280,.box [.lst u0 (.intss a0),.lst u1 (.ints a1),.lst u2 (.rats a2),.sl 1100 0,.sl 1101 0,.i v4,.i v5,.bool v6])]⟩) (fun x e σ' => match x with | (v13,v14,v15,v16,v17) => e = .exit 2 ∧ σ' = ⟨[(0,.ptr 2280 0),(2,.i v1)],[(1102,.arr 26 0 0 (.ratss v13)),(1103,.arr 3 0 0 (.ints v14)),(2280,.box [.lst u0 (.intss a0),.lst u1 (.ints a1),.lst u2 (.rats a2),.sl 1102 0,.sl 1103 0,.i v15,.i v16,.bool v17])]⟩) hk10 rfl rfl ?_ ?_
     ·intro v7 x hs
      clear h
      have h := hs
      clear hs
      refine Tri.f 1 [] [.keep [0,2,3,41] [1100,1101,2280]] rfl trivial ?_
      rcases bif_some h with ⟨hd5,h⟩ | ⟨hd5,h⟩
      ·obtain ⟨hg6,h⟩ := grd_some h
       obtain ⟨hg7,h⟩ := grd_some h
       refine Tri.f 2 [.g true] [.keep [0,2,3,56] [1100,1101,2280]] rfl ⟨hg7,hg6,hd5,trivial⟩ ?_
       rcases bif_some h with ⟨hd8,h⟩ | ⟨hd8,h⟩
       ·obtain ⟨⟨v8,v9,v10,v11,v12⟩,hk9,h⟩ := bind_some h
        refine Tri.f 2 [.g true,.r ⟨[2280,1100,1101],.tuple [],[(1102,.arr 26 0 0 (.ratss v8)),(1103,.arr 3 0 0 (.ints v9)),(2280,.box [.undf,.undf,.undf,.sl 1102 0,.sl 1103 0,.i v10,.i v11,.bool v12])]⟩] [.keep [0,2] [1102,1103,2280]] rfl ⟨(fun vf => ((((((W88 (vf 2280 0) (vf 2280 1) (vf 2280 2) a0 a1 a2 v2 v3 v4 v5 v6 v1 v7 (v8,v9,v10,v11,v12) hk9).swap 1000 1102).swap 1001 1103).swap 2240 2280).swap 2241 1100).swap 2242 1101)),hd8,trivial⟩ ?_
        cases h
        exact Tri.out 2 rfl ⟨nofun,rfl,rfl⟩
       ·refine Tri.f 2 [.g false] [.keep [0,2,3] [1100,1101,2280]] rfl ⟨hd8,trivial⟩ ?_
        cases h
        exact Tri.nil ⟨rfl,rfl⟩
      ·refine Tri.f 1 [.g false] [.swap 1100 1102,.swap 1101 1103,.keep [0,2] [1102,1103,2280]] rfl ⟨hd5,trivial⟩ ?_
       cases h
       exact Tri.out 2 rfl ⟨nofun,rfl,rfl⟩
     ·intro e σ' hne hq
      obtain ⟨v13,v14,v15,v16,v17⟩ := x2
      obtain ⟨rfl,rfl⟩ := hq
      refine TriX.exit (K' := [.blk 1,.code [(1,0),(0,0)] 2]) rfl ?_
      refine Tri.f 1 [] [.swap 1102 1100,.swap 1103 1101,.keep [0,2] [1100,1101,2280]] rfl trivial ?_
      cases h
      exact Tri.nil ⟨rfl,rfl⟩
   ·refine Tri.f 1 [.g false] [.keep [] [1100,1101,2280]] rfl ⟨hd2,trivial⟩ ?_
    cases h
    exact Tri.out 0 rfl ⟨nofun,rfl,rfl⟩
  ·refine Tri.f 1 [.g false] [.keep [0,2,18] [1100,1101,2280]] rfl ⟨hd1,trivial⟩ ?_
   refine Tri.f 1 [.g false] [.keep [] [1100,1101,2280]] rfl ⟨rfl,trivial⟩ ?_
   cases h
   exact Tri.out 0 rfl ⟨nofun,rfl,rfl⟩
 ·intro e σ' hne hq
  obtain ⟨v18,v19,v20,v21,v22⟩ := x2
  obtain ⟨rfl,rfl⟩ := hq
  refine TriX.exit (K' := []) rfl ?_
  refine Tri.f 0 [] [.swap 1100 1000,.swap 1101 1001,.keep [] [1000,1001,2280]] rfl trivial ?_
  cases h
  exact Tri.nil ⟨.inr rfl,rfl,rfl⟩
noncomputable def E326 : Env := ⟨Tryz.prog,tys,(Tryz.f75.body).getD .skip,53,tysOk,mixedOk⟩
abbrev K211 (r : List Q) (σ' : ASt) : Prop := isRes E326.T Tryz.f75 (.sl 1000 0) [(1000,.arr 31 0 0 (.rats r))] σ'
noncomputable def l_spec_SolutionOf_0 (a0 : List (List Q)) (a2 : Int) : (Int × (List Q)) → Option ((Int × (List Q)) ⊕ ((List Q)))
 | (v2,v3) => (
bif decide (v2 < (IntKind.i64.wrap (a2 + (a0.length : Int)))) then
((m_spec_l3Int (0 : Int)).bind fun (v4,v5) =>
grd (v3.length + ([⟨v4,v5⟩] : List Q).length ≤ room) <|
some (.inl (IntKind.i64.wrap (v2 + 1),v3 ++ [⟨v4,v5⟩])))
else
(some (.inr v3)))
noncomputable def l_spec_SolutionOf_1 (a0 : List (List Q)) (a1 : List Int) (a2 : Int) : (Int × (List Q)) → Option ((Int × (List Q)) ⊕ ((List Q)))
 | (v7,v8) => (
bif decide (v7 < (a0.length : Int)) then
(grd (0 ≤ v7 ∧ v7 < (a1.length : Int)) <|
grd (0 ≤ v7 ∧ v7 < (a0.length : Int)) <|
grd (0 ≤ IntKind.i64.wrap (a2 + (a0.length : Int)) ∧ IntKind.i64.wrap (a2 + (a0.length : Int)) < ((a0.getD v7.toNat []).length : Int)) <|
grd (0 ≤ a1.getD v7.toNat 0 ∧ a1.getD v7.toNat 0 < (v8.length : Int)) <|
some (.inl (IntKind.i64.wrap (v7 + 1),v8.set ((a1.getD v7.toNat 0).toNat) ⟨((a0.getD v7.toNat []).getD ((IntKind.i64.wrap (a2 + (a0.length : Int))).toNat) ⟨0,0⟩).num,((a0.getD v7.toNat []).getD ((IntKind.i64.wrap (a2 + (a0.length : Int))).toNat) ⟨0,0⟩).den⟩)))
else
(some (.inr v8)))
noncomputable def m_spec_SolutionOf (a0 : List (List Q)) (a1 : List Int) (a2 : Int) : Option (List Q) :=
(m_spec_l6Good a0 a1 a2).bind fun v1 =>
bif !v1 then
(some [])
else
((iter (l_spec_SolutionOf_0 a0 a2) ((0 : Int),[])).bind fun
| v6 => (
(iter (l_spec_SolutionOf_1 a0 a1 a2) ((0 : Int),v6)).bind fun
| v9 => (
some v9)))
theorem W93 (a0 : List (List Q)) (a1 : List Int) (a2 : Int) (r : List Q) (h : m_spec_SolutionOf a0 a1 a2 = some r) : AM.Spec Tryz.prog 75 [.agg [.list (.ratss a0),.list (.ints a1),.i a2]] [] (.sl 1000 0) [(1000,.arr 31 0 0 (.rats r))] := by
 refine spec_of (E := E326) Tryz.func75 rfl rfl rfl rfl ?_
 refine Tri.f 2 [] [.keep [1,3] [1,6]] rfl trivial ?_
 obtain ⟨v1,hk1,h⟩ := bind_some h
 refine Tri.f 1 [.v (.bool v1)] [.keep [1,3,9] [1,6]] rfl ⟨fun _ => W74 a0 a1 a2 v1 hk1,trivial⟩ ?_
 rcases bif_some h with ⟨hd2,h⟩ | ⟨hd2,h⟩
 ·refine Tri.f 2 [.g true] [.swap 6 1000,.keep [2] [1000]] rfl ⟨hd2,trivial⟩ ?_
  cases h
  exact Tri.ret rfl ⟨.inl rfl,rfl,rfl⟩
 ·refine Tri.f 2 [.g false] [.keep [1,3,4] [1,6]] rfl ⟨hd2,trivial⟩ ?_
  obtain ⟨v6,hk6,h⟩ := bind_some h
  refine Tri.loop (K1 := [.code [(3,0),(1,0),(0,0)] 0]) (K2 := [.blk 0,.code [] 4]) (fun (v2,v3) => ⟨[(1,.ptr 1 0),(3,.sl 6 0),(4,.i v2)],[(1,.box [.list (.ratss a0),.list (.ints a1),.i a2]),(6,.arr 31 0 0 (.rats v3))]⟩) (fun x e σ' => match x with | v6 => e = .exit 0 ∧ σ' = ⟨[(1,.ptr 1 0),(3,.sl 6 0)],[(1,.box [.list (.ratss a0),.list (.ints a1),.i a2]),(6,.arr 31 0 0 (.rats v6))]⟩) hk6 rfl rfl ?_ ?_
  ·intro s x hs
   clear h
   have h := hs
   clear hs
   obtain ⟨v2,v3⟩ := s
   refine Tri.f 1 [] [.keep [1,3,4,18] [1,6]] rfl trivial ?_
   rcases bif_some h with ⟨hd3,h⟩ | ⟨hd3,h⟩
   ·obtain ⟨⟨v4,v5⟩,hk4,h⟩ := bind_some h
    obtain ⟨hg5,h⟩ := grd_some h
    refine Tri.f 3 [.g true,.v (.agg [.i v4,.i v5])] [.rever 6,.keep [1,3,4] [1,6]] rfl ⟨hg5,fun _ => W12 (0 : Int) (v4,v5) hk4,hd3,trivial⟩ ?_
    cases h
    exact Tri.nil ⟨rfl,rfl⟩
   ·refine Tri.f 1 [.g false] [.keep [1,3] [1,6]] rfl ⟨hd3,trivial⟩ ?_
    cases h
    exact Tri.out 0 rfl ⟨nofun,rfl,rfl⟩
  ·intro e σ' hne hq
   obtain ⟨rfl,rfl⟩ := hq
   refine TriX.exit (K' := [.code [] 4]) rfl ?_
   refine Tri.f 1 [] [.keep [1,3,5] [1,6]] rfl trivial ?_
   obtain ⟨v9,hk12,h⟩ := bind_some h
   refine Tri.loop (K1 := [.code [(4,0),(1,0),(0,0)] 0]) (K2 := [.blk 2,.code [] 5]) (fun (v7,v8) => ⟨[(1,.ptr 1 0),(3,.sl 6 0),(5,.i v7)],[(1,.box [.list (.ratss a0),.list (.ints a1),.i a2]),(6,.arr 31 0 0 (.rats v8))]⟩) (fun x e σ' => match x with | v9 => e = .exit 2 ∧ σ' = ⟨[(3,.sl 6 0)],[(6,.arr 31 0 0 (.rats v9))]⟩) hk12 rfl rfl ?_ ?_
   ·intro s x hs
    clear h
    have h := hs
    clear hs
    obtain ⟨v7,v8⟩ := s
    refine Tri.f 1 [] [.keep [1,3,5,29] [1,6]] rfl trivial ?_
    rcases bif_some h with ⟨hd7,h⟩ | ⟨hd7,h⟩
    ·obtain ⟨hg8,h⟩ := grd_some h
     obtain ⟨hg9,h⟩ := grd_some h
     obtain ⟨hg10,h⟩ := grd_some h
     obtain ⟨hg11,h⟩ := grd_some h
     refine Tri.f 3 [.g true] [.keep [1,3,5] [1,6]] rfl ⟨hg11,hg10,hg9,hg8,hd7,trivial⟩ ?_
     cases h
     exact Tri.nil ⟨rfl,rfl⟩
    ·refine Tri.f 1 [.g false] [.keep [3] [6]] rfl ⟨hd7,trivial⟩ ?_
     cases h
     exact Tri.out 2 rfl ⟨nofun,rfl,rfl⟩
   ·intro e σ' hne hq
    obtain ⟨rfl,rfl⟩ := hq
    refine TriX.exit (K' := [.code [] 5]) rfl ?_
    refine Tri.f 1 [] [.swap 6 1000,.keep [2] [1000]] rfl trivial ?_
    cases h
    exact Tri.ret rfl ⟨.inl rfl,rfl,rfl⟩
noncomputable def E327 : Env := ⟨Tryz.prog,tys,(Tryz.f77.body).getD .skip,9,tysOk,mixedOk⟩
abbrev K212 (r : Int × Int) (σ' : ASt) : Prop := isRes E327.T Tryz.f77 (.agg [.i r.1,.i r.2]) [] σ'
noncomputable def m_spec_l7Negated (a0 a1 : Int) : Option (Int × Int) :=
some (IntKind.i64.wrap (0 - a0),a1)
theorem W94 (a0 a1 : Int) (r : Int × Int) (h : m_spec_l7Negated a0 a1 = some r) : AM.Spec Tryz.prog 77 [.agg [.i a0,.i a1]] [] (.agg [.i r.1,.i r.2]) [] := by
 refine spec_of (E := E327) Tryz.func77 rfl rfl rfl rfl ?_
 refine Tri.f 2 [] [.keep [2] [2]] rfl trivial ?_
 cases h
 exact Tri.ret rfl ⟨.inl rfl,rfl,rfl⟩
noncomputable def E328 : Env := ⟨Tryz.prog,tys,(Tryz.f76.body).getD .skip,73,tysOk,mixedOk⟩
abbrev K213 (u0 : Value) (a0 : List (List Int)) (u1 : Value) (a1 : List Int) (u2 : Value) (a2 : List Q) (r : (List Q) × (List (List Q)) × (List Int) × Int × Int × Bool) (σ' : ASt) : Prop := isRes E328.T Tryz.f76 (.sl 1000 0) [(1000,.arr 31 0 0 (.rats r.1)),(1001,.arr 26 0 0 (.ratss r.2.1)),(1002,.arr 3 0 0 (.ints r.2.2.1)),(2300,.box [.lst u0 (.intss a0),.lst u1 (.ints a1),.lst u2 (.rats a2),.sl 1001 0,.sl 1002 0,.i r.2.2.2.1,.i r.2.2.2.2.1,.bool r.2.2.2.2.2])] σ'
noncomputable def l_spec_l7Ray_io3_0 (a5 a8 : Int) : (Int × (List Q)) → Option ((Int × (List Q)) ⊕ ((List Q)))
 | (v1,v2) => (
bif decide (v1 < a5) then
((m_spec_l1Bit (v1 == a8)).bind fun v3 =>
(m_spec_l3Int v3).bind fun (v4,v5) =>
grd (v2.length + ([⟨v4,v5⟩] : List Q).length ≤ room) <|
some (.inl (IntKind.i64.wrap (v1 + 1),v2 ++ [⟨v4,v5⟩])))
else
(some (.inr v2)))
noncomputable def l_spec_l7Ray_io3_1 (a3 : List (List Q)) (a4 : List Int) (a5 a8 : Int) : (Int × (List Q)) → Option ((Int × (List Q)) ⊕ ((List Q)))
 | (v7,v8) => (
bif decide (v7 < (a3.length : Int)) then
(grd (0 ≤ v7 ∧ v7 < (a4.length : Int)) <|
bif decide ((a4.getD v7.toNat 0) < a5) then
(grd (0 ≤ v7 ∧ v7 < (a4.length : Int)) <|
grd (0 ≤ v7 ∧ v7 < (a3.length : Int)) <|
grd (0 ≤ a8 ∧ a8 < ((a3.getD v7.toNat []).length : Int)) <|
(m_spec_l7Negated (((a3.getD v7.toNat []).getD a8.toNat ⟨0,0⟩).num) (((a3.getD v7.toNat []).getD a8.toNat ⟨0,0⟩).den)).bind fun (v9,v10) =>
grd (0 ≤ a4.getD v7.toNat 0 ∧ a4.getD v7.toNat 0 < (v8.length : Int)) <|
some (.inl (IntKind.i64.wrap (v7 + 1),v8.set ((a4.getD v7.toNat 0).toNat) ⟨v9,v10⟩)))
else
(some (.inl (IntKind.i64.wrap (v7 + 1),v8))))
else
(some (.inr v8)))
noncomputable def m_spec_l7Ray_io3 (_a0 : List (List Int)) (_a1 : List Int) (_a2 : List Q) (a3 : List (List Q)) (a4 : List Int) (a5 a6 : Int) (a7 : Bool) (a8 : Int) : Option ((List Q) × (List (List Q)) × (List Int) × Int × Int × Bool) :=
(iter (l_spec_l7Ray_io3_0 a5 a8) ((0 : Int),[])).bind fun
| v6 => (
(iter (l_spec_l7Ray_io3_1 a3 a4 a5 a8) ((0 : Int),v6)).bind fun
| v11 => (
some (v11,a3,a4,a5,a6,a7)))
theorem W95 (u0 u1 u2 : Value) (a0 : List (List Int)) (a1 : List Int) (a2 : List Q) (a3 : List (List Q)) (a4 : List Int) (a5 : Int) (a6 : Int) (a7 : Bool) (a8 : Int) (r : (List Q) × (List (List Q)) × (List Int) × Int × Int × Bool) (h : m_spec_l7Ray_io3 a0 a1 a2 a3 a4 a5 a6 a7 a8 = some r) : AM.Spec Tryz.prog 76 [.ptr 2300 0,.i a8] [(2300,.box [.lst u0 (.intss a0),.lst u1 (.ints a1),.lst u2 (.rats a2),.sl 2301 0,.sl 2302 0,.i a5,.i a6,.bool a7]),(2301,.arr 26 0 0 (.ratss a3)),(2302,.arr 3 0 0 (.ints a4))] (.sl 1000 0) [(1000,.arr 31 0 0 (.rats r.1)),(1001,.arr 26 0 0 (.ratss r.2.1)),(1002,.arr 3 0 0 (.ints r.2.2.1)),(2300,.box [.lst u0 (.intss a0),.lst u1 (.ints a1),.lst u2 (.rats a2),.sl 1001 0,.sl 1002 0,.i r.2.2.2.1,.i r.2.2.2.2.1,.bool r.2.2.2.2.2])] := by
 refine spec_of (E := E328) Tryz.func76 rfl rfl rfl rfl ?_
 refine Tri.f 3 [] [.swap 2301 1100,.swap 2302 1101,.keep [0,1,5,6] [8,1100,1101,2300]] rfl trivial ?_
 obtain ⟨v6,hk5,h⟩ := bind_some h
 refine Tri.loop (K1 := [.code [(2,0),(1,0),(0,0)] 0]) (K2 := [.blk 0,.code [] 3]) (fun (v1,v2) => ⟨[(0,.ptr 2300 0),(1,.i a8),(5,.sl 8 0),(6,.i v1)],[(8,.arr 31 0 0 (.rats v2)),(1100,.arr 26 0 0 (.ratss a3)),(1101,.arr 3 0 0 (.ints a4)),(2300,.box [.lst u0 (.intss a0),.lst u1 (.ints a1),.lst u2 (.rats a2),.sl 1100 0,.sl 1101 0,.i a5,.i a6,.bool a7])]⟩) (fun x e σ' => match x with | v6 => e = .exit 0 ∧ σ' = ⟨[(0,.ptr 2300 0),(1,.i a8),(5,.sl 8 0)],[(8,.arr 31 0 0 (.rats v6)),(1100,.arr 26 0 0 (.ratss a3)),(1101,.arr 3 0 0 (.ints a4)),(2300,.box [.lst u0 (.intss a0),.lst u1 (.ints a1),.lst u2 (.rats a2),.sl 1100 0,.sl 1101 0,.i a5,.i a6,.bool a7])]⟩) hk5 rfl rfl ?_ ?_
 ·intro s x hs
  clear h
  have h := hs
  clear hs
  obtain ⟨v1,v2⟩ := s
  refine Tri.f 1 [] [.keep [0,1,5,6,15] [8,1100,1101,2300]] rfl trivial ?_
  rcases bif_some h with ⟨hd1,h⟩ | ⟨hd1,h⟩
  ·obtain ⟨v3,hk2,h⟩ := bind_some h
   obtain ⟨⟨v4,v5⟩,hk3,h⟩ := bind_some h
   obtain ⟨hg4,h⟩ := grd_some h
   refine Tri.f 3 [.g true,.v (.i v3),.v (.agg [.i v4,.i v5])] [.rever 8,.keep [0,1,5,6] [8,1100,1101,2300]] rfl ⟨hg4,fun _ => W12 v3 (v4,v5) hk3,fun _ => W11 (v1 == a8) v3 hk2,hd1,trivial⟩ ?_
   cases h
   exact Tri.nil ⟨rfl,rfl⟩
  ·refine Tri.f 1 [.g false] [.keep [0,1,5] [8,1100,1101,2300]] rfl ⟨hd1,trivial⟩ ?_
   cases h
   exact Tri.out 0 rfl ⟨nofun,rfl,rfl⟩
 ·intro e σ' hne hq
  obtain ⟨rfl,rfl⟩ := hq
  refine TriX.exit (K' := [.code [] 3]) rfl ?_
  refine Tri.f 1 [] [.keep [0,1,5,7] [8,1100,1101,2300]] rfl trivial ?_
  obtain ⟨v11,hk14,h⟩ := bind_some h
  refine Tri.loop (K1 := [.code [(3,0),(1,0),(0,0)] 0]) (K2 := [.blk 2,.code [] 4]) (fun (v7,v8) => ⟨[(0,.ptr 2300 0),(1,.i a8),(5,.sl 8 0),(7,.i v7)],[(8,.arr 31 0 0 (.rats v8)),(1100,.arr 26 0 0 (.ratss a3)),(1101,.arr 3 0 0 (.ints a4)),(2300,.box [.lst u0 (.intss a0),.lst u1 (.ints a1),.lst u2 (.rats a2),.sl 1100 0,.sl 1101 0,.i a5,.i a6,.bool a7])]⟩) (fun x e σ' => match x with | v11 => e = .exit 2 ∧ σ' = ⟨[(5,.sl 8 0)],[(8,.arr 31 0 0 (.rats v11)),(1100,.arr 26 0 0 (.ratss a3)),(1101,.arr 3 0 0 (.ints a4)),(2300,.box [.lst u0 (.intss a0),.lst u1 (.ints a1),.lst u2 (.rats a2),.sl 1100 0,.sl 1101 0,.i a5,.i a6,.bool a7])]⟩) hk14 rfl rfl ?_ ?_
  ·intro s x hs
   clear h
   have h := hs
   clear hs
   obtain ⟨v7,v8⟩ := s
   refine Tri.f 1 [] [.keep [0,1,5,7,33] [8,1100,1101,2300]] rfl trivial ?_
   rcases bif_some h with ⟨hd6,h⟩ | ⟨hd6,h⟩
   ·obtain ⟨hg7,h⟩ := grd_some h
    refine Tri.f 2 [.g true] [.keep [0,1,5,7,49] [8,1100,1101,2300]] rfl ⟨hg7,hd6,trivial⟩ ?_
    rcases bif_some h with ⟨hd8,h⟩ | ⟨hd8,h⟩
    ·obtain ⟨hg9,h⟩ := grd_some h
     obtain ⟨hg10,h⟩ := grd_some h
     obtain ⟨hg11,h⟩ := grd_some h
     obtain ⟨⟨v9,v10⟩,hk12,h⟩ := bind_some h
     obtain ⟨hg13,h⟩ := grd_some h
     refine Tri.f 3 [.g true,.v (.agg [.i v9,.i v10])] [.keep [0,1,5,7] [8,1100,1101,2300]] rfl ⟨hg13,fun _ => W94 (((a3.getD v7.toNat []).getD a8.toNat ⟨0,0⟩).num) (((a3.getD v7.toNat []).getD a8.toNat ⟨0,0⟩).den) (v9,v10) hk12,hg11,hg10,hg9,hd8,trivial⟩ ?_
     cases h
     exact Tri.nil ⟨rfl,rfl⟩
    ·refine Tri.f 2 [.g false] [.keep [0,1,5,7] [8,1100,1101,2300]] rfl ⟨hd8,trivial⟩ ?_
     cases h
     exact Tri.nil ⟨rfl,rfl⟩
   ·refine Tri.f 1 [.g false] [.keep [5] [8,1100,1101,2300]] rfl ⟨hd6,trivial⟩ ?_
    cases h
    exact Tri.out 2 rfl ⟨nofun,rfl,rfl⟩
  ·intro e σ' hne hq
   obtain ⟨rfl,rfl⟩ := hq
   refine TriX.exit (K' := [.code [] 4]) rfl ?_
   refine Tri.f 1 [] [.swap 8 1000,.swap 1100 1001,.swap 1101 1002,.keep [4] [1000,1001,1002,2300]] rfl trivial ?_
   cases h
   exact Tri.ret rfl ⟨.inl rfl,rfl,rfl⟩
noncomputable def E329 : Env := ⟨Tryz.prog,tys,(Tryz.f24.body).getD .skip,86,tysOk,mixedOk⟩
abbrev K214 (u0 : Value) (a0 : List (List Int)) (u1 : Value) (a1 : List Int) (u2 : Value) (a2 : List Q) (r : Int × Int × Int × Int × (List Q) × (List Q) × (List Q) × (List (List Q)) × (List Int) × Int × Int × Bool) (σ' : ASt) : Prop := isRes E329.T Tryz.f24 (.agg [.i r.1,.sl 1000 0,.sl 1001 0,.sl 1002 0,.i r.2.1,.i r.2.2.1,.i r.2.2.2.1]) [(1000,.arr 31 0 0 (.rats r.2.2.2.2.1)),(1001,.arr 31 0 0 (.rats r.2.2.2.2.2.1)),(1002,.arr 31 0 0 (.rats r.2.2.2.2.2.2.1)),(1003,.arr 26 0 0 (.ratss r.2.2.2.2.2.2.2.1)),(1004,.arr 3 0 0 (.ints r.2.2.2.2.2.2.2.2.1)),(2200,.box [.lst u0 (.intss a0),.lst u1 (.ints a1),.lst u2 (.rats a2),.sl 1003 0,.sl 1004 0,.i r.2.2.2.2.2.2.2.2.2.1,.i r.2.2.2.2.2.2.2.2.2.2.1,.bool r.2.2.2.2.2.2.2.2.2.2.2])] σ'
noncomputable def m_spec_l7Solve_io3 (a0 : List (List Int)) (a1 : List Int) (a2 : List Q) (a3 : List (List Q)) (a4 : List Int) (a5 a6 : Int) (a7 : Bool) : Option (Int × Int × Int × Int × (List Q) × (List Q) × (List Q) × (List (List Q)) × (List Int) × Int × Int × Bool) :=
(m_spec_l7Costs a0 a1 a2 true).bind fun v1 =>
(m_spec_l7Phase_io3 a0 a1 a2 a3 a4 a5 a6 a7 v1).bind fun (_,v3,v4,v5,v6,v7,v8) =>
bif v8 then
(some (0,0,0,0,[],[],[],v4,v5,v6,v7,v8))
else
(grd (0 ≤ IntKind.i64.wrap ((v3.length : Int) - 1) ∧ IntKind.i64.wrap ((v3.length : Int) - 1) < (v3.length : Int)) <|
(m_spec_l3Sign ((v3.getD ((IntKind.i64.wrap ((v3.length : Int) - 1)).toNat) ⟨0,0⟩).num) ((v3.getD ((IntKind.i64.wrap ((v3.length : Int) - 1)).toNat) ⟨0,0⟩).den)).bind fun v9 =>
bif decide (v9 < 0) then
((m_spec_l7Dual_io3 a0 a1 a2 v4 v5 v6 v7 v8 v3 (1 : Int)).bind fun (v10,v11,v12,v13,v14,v15) =>
some ((2 : Int),0,0,0,[],v10,[],v11,v12,v13,v14,v15))
else
((m_spec_l7Drive_io3 a0 a1 a2 v4 v5 v6 v7 v8).bind fun (v16,v17,v18,v19,v20) =>
bif v20 then
(some (0,0,0,0,[],[],[],v16,v17,v18,v19,v20))
else
((m_spec_l7Costs a0 a1 a2 false).bind fun v21 =>
(m_spec_l7Phase_io3 a0 a1 a2 v16 v17 v18 v19 v20 v21).bind fun (v22,v23,v24,v25,v26,v27,v28) =>
bif v28 then
(some (0,0,0,0,[],[],[],v24,v25,v26,v27,v28))
else
((m_spec_SolutionOf v24 v25 v26).bind fun v29 =>
grd (0 ≤ v26 ∧ v26 ≤ (v29.length : Int)) <|
bif decide (v22 ≥ 0) then
((m_spec_l7Ray_io3 a0 a1 a2 v24 v25 v26 v27 v28 v22).bind fun (v30,v31,v32,v33,v34,v35) =>
some ((3 : Int),0,0,0,v29.take v26.toNat,[],v30,v31,v32,v33,v34,v35))
else
((m_spec_l7Dual_io3 a0 a1 a2 v24 v25 v26 v27 v28 v23 (0 : Int)).bind fun (v36,v37,v38,v39,v40,v41) =>
grd (0 ≤ IntKind.i64.wrap ((v23.length : Int) - 1) ∧ IntKind.i64.wrap ((v23.length : Int) - 1) < (v23.length : Int)) <|
(m_spec_l7Negated ((v23.getD ((IntKind.i64.wrap ((v23.length : Int) - 1)).toNat) ⟨0,0⟩).num) ((v23.getD ((IntKind.i64.wrap ((v23.length : Int) - 1)).toNat) ⟨0,0⟩).den)).bind fun (v42,v43) =>
some ((1 : Int),v42,v43,0,v29.take v26.toNat,v36,[],v37,v38,v39,v40,v41))))))
theorem W96 (u0 u1 u2 : Value) (a0 : List (List Int)) (a1 : List Int) (a2 : List Q) (a3 : List (List Q)) (a4 : List Int) (a5 : Int) (a6 : Int) (a7 : Bool) (r : Int × Int × Int × Int × (List Q) × (List Q) × (List Q) × (List (List Q)) × (List Int) × Int × Int × Bool) (h : m_spec_l7Solve_io3 a0 a1 a2 a3 a4 a5 a6 a7 = some r) : AM.Spec Tryz.prog 24 [.ptr 2200 0] [(2200,.box [.lst u0 (.intss a0),.lst u1 (.ints a1),.lst u2 (.rats a2),.sl 2201 0,.sl 2202 0,.i a5,.i a6,.bool a7]),(2201,.arr 26 0 0 (.ratss a3)),(2202,.arr 3 0 0 (.ints a4))] (.agg [.i r.1,.sl 1000 0,.sl 1001 0,.sl 1002 0,.i r.2.1,.i r.2.2.1,.i r.2.2.2.1]) [(1000,.arr 31 0 0 (.rats r.2.2.2.2.1)),(1001,.arr 31 0 0 (.rats r.2.2.2.2.2.1)),(1002,.arr 31 0 0 (.rats r.2.2.2.2.2.2.1)),(1003,.arr 26 0 0 (.ratss r.2.2.2.2.2.2.2.1)),(1004,.arr 3 0 0 (.ints r.2.2.2.2.2.2.2.2.1)),(2200,.box [.lst u0 (.intss a0),.lst u1 (.ints a1),.lst u2 (.rats a2),.sl 1003 0,.sl 1004 0,.i r.2.2.2.2.2.2.2.2.2.1,.i r.2.2.2.2.2.2.2.2.2.2.1,.bool r.2.2.2.2.2.2.2.2.2.2.2])] := by
 refine spec_of (E := E329) Tryz.func24 rfl rfl rfl rfl ?_
 refine Tri.f 1 [] [.keep [0,2] [2,2200,2201,2202],.ownc 2 1 1100 31,.ownc 2 2 1101 31,.ownc 2 3 1102 31,.keep [0,2] [2,1100,1101,1102,2200,2201,2202]] rfl trivial ?_
 obtain ⟨v1,hk1,h⟩ := bind_some h
 obtain ⟨⟨v2,v3,v4,v5,v6,v7,v8⟩,hk2,h⟩ := bind_some h
 refine Tri.f 2 [.r ⟨[],.sl 1103 0,[(1103,.arr 31 0 0 (.rats v1))]⟩,.r ⟨[2200,2201,2202],.tuple [.sl 1104 0,.i v2],[(1104,.arr 31 0 0 (.rats v3)),(1105,.arr 26 0 0 (.ratss v4)),(1106,.arr 3 0 0 (.ints v5)),(2200,.box [.undf,.undf,.undf,.sl 1105 0,.sl 1106 0,.i v6,.i v7,.bool v8])]⟩] [.keep [0,2,3,20] [2,1100,1101,1102,1104,1105,1106,2200]] rfl ⟨(fun vf => (((((((W89 (vf 2200 0) (vf 2200 1) (vf 2200 2) a0 a1 a2 a3 a4 a5 a6 a7 v1 (v2,v3,v4,v5,v6,v7,v8) hk2).swap 1000 1104).swap 1001 1105).swap 1002 1106).swap 2220 2200).swap 2221 2201).swap 2222 2202)),fun _ => (W73 a0 a1 a2 true v1 hk1).swap 1000 1103,trivial⟩ ?_
 rcases bif_some h with ⟨hd3,h⟩ | ⟨hd3,h⟩
 ·refine Tri.f 2 [.g true] [.ownc 2 1 1107 31,.ownc 2 2 1108 31,.ownc 2 3 1109 31,.swap 1107 1000,.swap 1108 1001,.swap 1109 1002,.swap 1105 1003,.swap 1106 1004,.keep [2] [2,1000,1001,1002,1003,1004,2200]] rfl ⟨hd3,trivial⟩ ?_
  cases h
  exact Tri.ret rfl ⟨.inl rfl,rfl,rfl⟩
 ·obtain ⟨hg4,h⟩ := grd_some h
  obtain ⟨v9,hk5,h⟩ := bind_some h
  refine Tri.f 2 [.g false,.v (.i v9)] [.keep [0,2,3,29] [2,1100,1101,1102,1104,1105,1106,2200]] rfl ⟨fun _ => W81 ((v3.getD ((IntKind.i64.wrap ((v3.length : Int) - 1)).toNat) ⟨0,0⟩).num) ((v3.getD ((IntKind.i64.wrap ((v3.length : Int) - 1)).toNat) ⟨0,0⟩).den) v9 hk5,hg4,hd3,trivial⟩ ?_
  rcases bif_some h with ⟨hd6,h⟩ | ⟨hd6,h⟩
  ·obtain ⟨⟨v10,v11,v12,v13,v14,v15⟩,hk7,h⟩ := bind_some h
   refine Tri.f 2 [.g true,.r ⟨[2200,1105,1106],.sl 1110 0,[(1110,.arr 31 0 0 (.rats v10)),(1111,.arr 26 0 0 (.ratss v11)),(1112,.arr 3 0 0 (.ints v12)),(2200,.box [.undf,.undf,.undf,.sl 1111 0,.sl 1112 0,.i v13,.i v14,.bool v15])]⟩] [.ownc 2 1 1113 31,.ownc 2 3 1114 31,.swap 1113 1000,.swap 1110 1001,.swap 1114 1002,.swap 1111 1003,.swap 1112 1004,.keep [2] [2,1000,1001,1002,1003,1004,2200]] rfl ⟨(fun vf => (((((((W91 (vf 2200 0) (vf 2200 1) (vf 2200 2) a0 a1 a2 v4 v5 v6 v7 v8 v3 (1 : Int) (v10,v11,v12,v13,v14,v15) hk7).swap 1000 1110).swap 1001 1111).swap 1002 1112).swap 2260 2200).swap 2261 1105).swap 2262 1106)),hd6,trivial⟩ ?_
   cases h
   exact Tri.ret rfl ⟨.inl rfl,rfl,rfl⟩
  ·obtain ⟨⟨v16,v17,v18,v19,v20⟩,hk8,h⟩ := bind_some h
   refine Tri.f 3 [.g false,.r ⟨[2200,1105,1106],.tuple [],[(1115,.arr 26 0 0 (.ratss v16)),(1116,.arr 3 0 0 (.ints v17)),(2200,.box [.undf,.undf,.undf,.sl 1115 0,.sl 1116 0,.i v18,.i v19,.bool v20])]⟩] [.keep [0,2,39] [2,1100,1101,1102,1115,1116,2200]] rfl ⟨(fun vf => ((((((W92 (vf 2200 0) (vf 2200 1) (vf 2200 2) a0 a1 a2 v4 v5 v6 v7 v8 (v16,v17,v18,v19,v20) hk8).swap 1000 1115).swap 1001 1116).swap 2280 2200).swap 2281 1105).swap 2282 1106)),hd6,trivial⟩ ?_
   rcases bif_some h with ⟨hd9,h⟩ | ⟨hd9,h⟩
   ·refine Tri.f 2 [.g true] [.ownc 2 1 1117 31,.ownc 2 2 1118 31,.ownc 2 3 1119 31,.swap 1117 1000,.swap 1118 1001,.swap 1119 1002,.swap 1115 1003,.swap 1116 1004,.keep [2] [2,1000,1001,1002,1003,1004,2200]] rfl ⟨hd9,trivial⟩ ?_
    cases h
    exact Tri.ret rfl ⟨.inl rfl,rfl,rfl⟩
   ·obtain ⟨v21,hk10,h⟩ := bind_some h
    obtain ⟨⟨v22,v23,v24,v25,v26,v27,v28⟩,hk11,h⟩ := bind_some h
    refine Tri.f 3 [.g false,.r ⟨[],.sl 1120 0,[(1120,.arr 31 0 0 (.rats v21))]⟩,.r ⟨[2200,1115,1116],.tuple [.sl 1121 0,.i v22],[(1121,.arr 31 0 0 (.rats v23)),(1122,.arr 26 0 0 (.ratss v24)),(1123,.arr 3 0 0 (.ints v25)),(2200,.box [.undf,.undf,.undf,.sl 1122 0,.sl 1123 0,.i v26,.i v27,.bool v28])]⟩] [.keep [0,2,3,5,54] [2,1100,1101,1102,1121,1122,1123,2200]] rfl ⟨(fun vf => (((((((W89 (vf 2200 0) (vf 2200 1) (vf 2200 2) a0 a1 a2 v16 v17 v18 v19 v20 v21 (v22,v23,v24,v25,v26,v27,v28) hk11).swap 1000 1121).swap 1001 1122).swap 1002 1123).swap 2220 2200).swap 2221 1115).swap 2222 1116)),fun _ => (W73 a0 a1 a2 false v21 hk10).swap 1000 1120,hd9,trivial⟩ ?_
    rcases bif_some h with ⟨hd12,h⟩ | ⟨hd12,h⟩
    ·refine Tri.f 2 [.g true] [.ownc 2 1 1124 31,.ownc 2 2 1125 31,.ownc 2 3 1126 31,.swap 1124 1000,.swap 1125 1001,.swap 1126 1002,.swap 1122 1003,.swap 1123 1004,.keep [2] [2,1000,1001,1002,1003,1004,2200]] rfl ⟨hd12,trivial⟩ ?_
     cases h
     exact Tri.ret rfl ⟨.inl rfl,rfl,rfl⟩
    ·obtain ⟨v29,hk13,h⟩ := bind_some h
     obtain ⟨hg14,h⟩ := grd_some h
     refine Tri.f 2 [.g false,.r ⟨[],.sl 1127 0,[(1127,.arr 31 0 0 (.rats v29))]⟩] [.keep [0,2,3,5,6] [2,1100,1101,1102,1121,1122,1123,1127,2200],.trunc 6,.keep [0,2,3,5,6] [2,1100,1101,1102,1121,1122,1123,1127,2200]] rfl ⟨hg14,fun _ => (W93 v24 v25 v26 v29 hk13).swap 1000 1127,hd12,trivial⟩ ?_
     refine Tri.f 1 [] [.keep [0,2,3,5,6,68] [2,1100,1101,1102,1121,1122,1123,1127,2200]] rfl trivial ?_
     rcases bif_some h with ⟨hd15,h⟩ | ⟨hd15,h⟩
     ·refine Tri.f 1 [.g true] [.keep [0,2,5,6] [2,1100,1101,1102,1122,1123,1127,2200],.rever 1127,.keep [0,2,5,6] [2,1100,1101,1102,1122,1123,1127,2200]] rfl ⟨hd15,trivial⟩ ?_
      obtain ⟨⟨v30,v31,v32,v33,v34,v35⟩,hk16,h⟩ := bind_some h
      refine Tri.f 1 [.r ⟨[2200,1122,1123],.sl 1128 0,[(1128,.arr 31 0 0 (.rats v30)),(1129,.arr 26 0 0 (.ratss v31)),(1130,.arr 3 0 0 (.ints v32)),(2200,.box [.undf,.undf,.undf,.sl 1129 0,.sl 1130 0,.i v33,.i v34,.bool v35])]⟩] [.ownc 2 2 1131 31,.swap 1127 1000,.swap 1131 1001,.swap 1128 1002,.swap 1129 1003,.swap 1130 1004,.keep [2] [2,1000,1001,1002,1003,1004,2200]] rfl ⟨(fun vf => (((((((W95 (vf 2200 0) (vf 2200 1) (vf 2200 2) a0 a1 a2 v24 v25 v26 v27 v28 v22 (v30,v31,v32,v33,v34,v35) hk16).swap 1000 1128).swap 1001 1129).swap 1002 1130).swap 2300 2200).swap 2301 1122).swap 2302 1123)),trivial⟩ ?_
      cases h
      exact Tri.ret rfl ⟨.inl rfl,rfl,rfl⟩
     ·refine Tri.f 1 [.g false] [.keep [0,2,3,6] [2,1100,1101,1102,1121,1122,1123,1127,2200],.rever 1127,.keep [0,2,3,6] [2,1100,1101,1102,1121,1122,1123,1127,2200]] rfl ⟨hd15,trivial⟩ ?_
      obtain ⟨⟨v36,v37,v38,v39,v40,v41⟩,hk17,h⟩ := bind_some h
      obtain ⟨hg18,h⟩ := grd_some h
      obtain ⟨⟨v42,v43⟩,hk19,h⟩ := bind_some h
      refine Tri.f 1 [.r ⟨[2200,1122,1123],.sl 1132 0,[(1132,.arr 31 0 0 (.rats v36)),(1133,.arr 26 0 0 (.ratss v37)),(1134,.arr 3 0 0 (.ints v38)),(2200,.box [.undf,.undf,.undf,.sl 1133 0,.sl 1134 0,.i v39,.i v40,.bool v41])]⟩,.v (.agg [.i v42,.i v43])] [.ownc 2 3 1135 31,.swap 1127 1000,.swap 1132 1001,.swap 1135 1002,.swap 1133 1003,.swap 1134 1004,.keep [2] [2,1000,1001,1002,1003,1004,2200]] rfl ⟨fun _ => W94 ((v23.getD ((IntKind.i64.wrap ((v23.length : Int) - 1)).toNat) ⟨0,0⟩).num) ((v23.getD ((IntKind.i64.wrap ((v23.length : Int) - 1)).toNat) ⟨0,0⟩).den) (v42,v43) hk19,hg18,(fun vf => (((((((W91 (vf 2200 0) (vf 2200 1) (vf 2200 2) a0 a1 a2 v24 v25 v26 v27 v28 v23 (0 : Int) (v36,v37,v38,v39,v40,v41) hk17).swap 1000 1132).swap 1001 1133).swap 1002 1134).swap 2260 2200).swap 2261 1122).swap 2262 1123)),trivial⟩ ?_
      cases h
      exact Tri.ret rfl ⟨.inl rfl,rfl,rfl⟩
noncomputable def E330 : Env := ⟨Tryz.prog,tys,(Tryz.f57.body).getD .skip,24,tysOk,mixedOk⟩
abbrev K215 (r : Bool) (σ' : ASt) : Prop := isRes E330.T Tryz.f57 (.bool r) [] σ'
noncomputable def l_spec_l5NotNegative_0 (a0 : List Q) (v1 : Int) : Option (Int ⊕ (Unit ⊕ Bool)) :=
bif decide (v1 < (a0.length : Int)) then
(grd (0 ≤ v1 ∧ v1 < (a0.length : Int)) <|
(m_spec_IsValidRat ((a0.getD v1.toNat ⟨0,0⟩).num) ((a0.getD v1.toNat ⟨0,0⟩).den)).bind fun v2 =>
bif !v2 then
(some (.inr (.inr false)))
else
(grd (0 ≤ v1 ∧ v1 < (a0.length : Int)) <|
bif decide (((a0.getD v1.toNat ⟨0,0⟩).num) < 0) then
(some (.inr (.inr false)))
else
(some (.inl (IntKind.i64.wrap (v1 + 1))))))
else
(some (.inr (.inl ())))
noncomputable def m_spec_l5NotNegative (a0 : List Q) : Option Bool :=
(iter (l_spec_l5NotNegative_0 a0) (0 : Int)).bind fun
| (.inl _) => (
some true)
| (.inr r) => some r
theorem W97 (a0 : List Q) (r : Bool) (h : m_spec_l5NotNegative a0 = some r) : AM.Spec Tryz.prog 57 [.list (.rats a0)] [] (.bool r) [] := by
 refine spec_of (E := E330) Tryz.func57 rfl rfl rfl rfl ?_
 refine Tri.f 2 [] [.keep [0,3] []] rfl trivial ?_
 obtain ⟨x1,hk7,h⟩ := bind_some h
 refine Tri.loop (K1 := [.code [(1,0),(1,0),(0,0)] 0]) (K2 := [.blk 0,.code [] 2]) (fun v1 => ⟨[(0,.list (.rats a0)),(3,.i v1)],[]⟩) (fun x e σ' => match x with | (.inl _) => e = .exit 0 ∧ σ' = ⟨[],[]⟩ | (.inr r) => e = .ret ∧ K215 r σ') hk7 rfl rfl ?_ ?_
 ·intro v1 x hs
  clear h
  have h := hs
  clear hs
  refine Tri.f 1 [] [.keep [0,3,7] []] rfl trivial ?_
  rcases bif_some h with ⟨hd1,h⟩ | ⟨hd1,h⟩
  ·obtain ⟨hg2,h⟩ := grd_some h
   obtain ⟨v2,hk3,h⟩ := bind_some h
   rcases bif_some h with ⟨hd4,h⟩ | ⟨hd4,h⟩
   ·refine Tri.f 2 [.g true,.v (.bool v2),.g true] [.keep [0,3,23] []] rfl ⟨hd4,fun _ => W9 ((a0.getD v1.toNat ⟨0,0⟩).num) ((a0.getD v1.toNat ⟨0,0⟩).den) v2 hk3,hg2,hd1,trivial⟩ ?_
    refine Tri.f 2 [.g true] [.keep [2] []] rfl ⟨rfl,trivial⟩ ?_
    cases h
    exact Tri.ret rfl ⟨nofun,rfl,rfl,rfl⟩
   ·obtain ⟨hg5,h⟩ := grd_some h
    refine Tri.f 2 [.g true,.v (.bool v2),.g false] [.keep [0,3,23] []] rfl ⟨hg5,hd4,fun _ => W9 ((a0.getD v1.toNat ⟨0,0⟩).num) ((a0.getD v1.toNat ⟨0,0⟩).den) v2 hk3,hg2,hd1,trivial⟩ ?_
    rcases bif_some h with ⟨hd6,h⟩ | ⟨hd6,h⟩
    ·refine Tri.f 2 [.g true] [.keep [2] []] rfl ⟨hd6,trivial⟩ ?_
     cases h
     exact Tri.ret rfl ⟨nofun,rfl,rfl,rfl⟩
    ·refine Tri.f 2 [.g false] [.keep [0,3] []] rfl ⟨hd6,trivial⟩ ?_
     cases h
     exact Tri.nil ⟨rfl,rfl⟩
  ·refine Tri.f 1 [.g false] [.keep [] []] rfl ⟨hd1,trivial⟩ ?_
   cases h
   exact Tri.out 0 rfl ⟨nofun,rfl,rfl⟩
 ·intro e σ' hne hq
  rcases x1 with _ | r
  ·obtain ⟨rfl,rfl⟩ := hq
   refine TriX.exit (K' := [.code [] 2]) rfl ?_
   refine Tri.f 1 [] [.keep [2] []] rfl trivial ?_
   cases h
   exact Tri.ret rfl ⟨.inl rfl,rfl,rfl⟩
  ·obtain ⟨rfl,hq⟩ := hq
   cases h
   exact TriX.ret ⟨.inl rfl,hq⟩
noncomputable def E331 : Env := ⟨Tryz.prog,tys,(Tryz.f96.body).getD .skip,29,tysOk,mixedOk⟩
abbrev K216 (r : Bool × (List Q)) (σ' : ASt) : Prop := isRes E331.T Tryz.f96 (.tuple [.sl 1000 0,.bool r.1]) [(1000,.arr 31 0 0 (.rats r.2))] σ'
noncomputable def l_spec_IntsToRats_0 (a0 : List Int) : (Int × (List Q)) → Option ((Int × (List Q)) ⊕ ((List Q) ⊕ ((Bool × (List Q)))))
 | (v1,v2) => (
bif decide (v1 < (a0.length : Int)) then
(grd (0 ≤ v1 ∧ v1 < (a0.length : Int)) <|
(m_spec_l1In (a0.getD v1.toNat 0) (-1000000000 : Int) (1000000000 : Int)).bind fun v3 =>
bif !v3 then
(some (.inr (.inr (false,[]))))
else
(grd (0 ≤ v1 ∧ v1 < (a0.length : Int)) <|
(m_spec_l3Int (a0.getD v1.toNat 0)).bind fun (v4,v5) =>
grd (v2.length + ([⟨v4,v5⟩] : List Q).length ≤ room) <|
some (.inl (IntKind.i64.wrap (v1 + 1),v2 ++ [⟨v4,v5⟩]))))
else
(some (.inr (.inl v2))))
noncomputable def m_spec_IntsToRats (a0 : List Int) : Option (Bool × (List Q)) :=
(iter (l_spec_IntsToRats_0 a0) ((0 : Int),[])).bind fun
| (.inl v6) => (
some (true,v6))
| (.inr r) => some r
theorem W98 (a0 : List Int) (r : Bool × (List Q)) (h : m_spec_IntsToRats a0 = some r) : AM.Spec Tryz.prog 96 [.list (.ints a0)] [] (.tuple [.sl 1000 0,.bool r.1]) [(1000,.arr 31 0 0 (.rats r.2))] := by
 refine spec_of (E := E331) Tryz.func96 rfl rfl rfl rfl ?_
 refine Tri.f 3 [] [.keep [0,4,5] [6]] rfl trivial ?_
 obtain ⟨x1,hk8,h⟩ := bind_some h
 refine Tri.loop (K1 := [.code [(2,0),(1,0),(0,0)] 0]) (K2 := [.blk 0,.code [] 3]) (fun (v1,v2) => ⟨[(0,.list (.ints a0)),(4,.sl 6 0),(5,.i v1)],[(6,.arr 31 0 0 (.rats v2))]⟩) (fun x e σ' => match x with | (.inl v6) => e = .exit 0 ∧ σ' = ⟨[(4,.sl 6 0)],[(6,.arr 31 0 0 (.rats v6))]⟩ | (.inr r) => e = .ret ∧ K216 r σ') hk8 rfl rfl ?_ ?_
 ·intro s x hs
  clear h
  have h := hs
  clear hs
  obtain ⟨v1,v2⟩ := s
  refine Tri.f 1 [] [.keep [0,4,5,10] [6]] rfl trivial ?_
  rcases bif_some h with ⟨hd1,h⟩ | ⟨hd1,h⟩
  ·obtain ⟨hg2,h⟩ := grd_some h
   obtain ⟨v3,hk3,h⟩ := bind_some h
   refine Tri.f 2 [.g true,.v (.bool v3)] [.keep [0,4,5,18] [6]] rfl ⟨fun _ => W7 (a0.getD v1.toNat 0) (-1000000000 : Int) (1000000000 : Int) v3 hk3,hg2,hd1,trivial⟩ ?_
   rcases bif_some h with ⟨hd4,h⟩ | ⟨hd4,h⟩
   ·refine Tri.f 2 [.g true] [.swap 19 1000,.keep [2,3] [1000]] rfl ⟨hd4,trivial⟩ ?_
    cases h
    exact Tri.ret rfl ⟨nofun,rfl,rfl,rfl⟩
   ·obtain ⟨hg5,h⟩ := grd_some h
    obtain ⟨⟨v4,v5⟩,hk6,h⟩ := bind_some h
    obtain ⟨hg7,h⟩ := grd_some h
    refine Tri.f 3 [.g false,.v (.agg [.i v4,.i v5])] [.rever 6,.keep [0,4,5] [6]] rfl ⟨hg7,fun _ => W12 (a0.getD v1.toNat 0) (v4,v5) hk6,hg5,hd4,trivial⟩ ?_
    cases h
    exact Tri.nil ⟨rfl,rfl⟩
  ·refine Tri.f 1 [.g false] [.keep [4] [6]] rfl ⟨hd1,trivial⟩ ?_
   cases h
   exact Tri.out 0 rfl ⟨nofun,rfl,rfl⟩
 ·intro e σ' hne hq
  rcases x1 with v6 | r
  ·obtain ⟨rfl,rfl⟩ := hq
   refine TriX.exit (K' := [.code [] 3]) rfl ?_
   refine Tri.f 1 [] [.swap 6 1000,.keep [2,3] [1000]] rfl trivial ?_
   cases h
   exact Tri.ret rfl ⟨.inl rfl,rfl,rfl⟩
  ·obtain ⟨rfl,hq⟩ := hq
   cases h
   exact TriX.ret ⟨.inl rfl,hq⟩
noncomputable def E332 : Env := ⟨Tryz.prog,tys,(Tryz.f55.body).getD .skip,52,tysOk,mixedOk⟩
abbrev K217 (r : Int × Int × Bool) (σ' : ASt) : Prop := isRes E332.T Tryz.f55 (.tuple [.agg [.i r.1,.i r.2.1],.bool r.2.2]) [] σ'
noncomputable def l_spec_DotRat_0 (a0 a1 : List Q) : (Int × Int × Int) → Option ((Int × Int × Int) ⊕ ((Int × Int) ⊕ ((Int × Int × Bool))))
 | (v3,v4,v5) => (
bif decide (v3 < (a0.length : Int)) then
(grd (0 ≤ v3 ∧ v3 < (a0.length : Int)) <|
grd (0 ≤ v3 ∧ v3 < (a1.length : Int)) <|
(m_spec_MulRat ((a0.getD v3.toNat ⟨0,0⟩).num) ((a0.getD v3.toNat ⟨0,0⟩).den) ((a1.getD v3.toNat ⟨0,0⟩).num) ((a1.getD v3.toNat ⟨0,0⟩).den)).bind fun (v6,v7,v8) =>
(m_spec_AddRat v4 v5 v6 v7).bind fun (v9,v10,v11) =>
bif !v8 then
(some (.inr (.inr (0,0,false))))
else
(bif !v11 then
(some (.inr (.inr (0,0,false))))
else
(some (.inl (IntKind.i64.wrap (v3 + 1),v9,v10)))))
else
(some (.inr (.inl (v4,v5)))))
noncomputable def m_spec_DotRat (a0 a1 : List Q) : Option (Int × Int × Bool) :=
bif (a0.length : Int) != (a1.length : Int) then
(some (0,0,false))
else
((m_spec_l3Int (0 : Int)).bind fun (v1,v2) =>
(iter (l_spec_DotRat_0 a0 a1) ((0 : Int),v1,v2)).bind fun
| (.inl (v12,v13)) => (
some (v12,v13,true))
| (.inr r) => some r)
theorem W99 (a0 a1 : List Q) (r : Int × Int × Bool) (h : m_spec_DotRat a0 a1 = some r) : AM.Spec Tryz.prog 55 [.list (.rats a0),.list (.rats a1)] [] (.tuple [.agg [.i r.1,.i r.2.1],.bool r.2.2]) [] := by
 refine spec_of (E := E332) Tryz.func55 rfl rfl rfl rfl ?_
 refine Tri.f 2 [] [.keep [0,1,4,16] [4]] rfl trivial ?_
 rcases bif_some h with ⟨hd1,h⟩ | ⟨hd1,h⟩
 ·refine Tri.f 2 [.g true] [.keep [4,5] [4]] rfl ⟨hd1,trivial⟩ ?_
  cases h
  exact Tri.ret rfl ⟨.inl rfl,rfl,rfl⟩
 ·obtain ⟨⟨v1,v2⟩,hk2,h⟩ := bind_some h
  refine Tri.f 3 [.g false,.v (.agg [.i v1,.i v2])] [.keep [0,1,4,6,7] [4,6]] rfl ⟨fun _ => W12 (0 : Int) (v1,v2) hk2,hd1,trivial⟩ ?_
  obtain ⟨x1,hk10,h⟩ := bind_some h
  refine Tri.loop (K1 := [.code [(3,0),(1,0),(0,0)] 0]) (K2 := [.blk 0,.code [] 4]) (fun (v3,v4,v5) => ⟨[(0,.list (.rats a0)),(1,.list (.rats a1)),(4,.ptr 4 0),(6,.ptr 6 0),(7,.i v3)],[(4,.box [.i 0,.i 0]),(6,.box [.i v4,.i v5])]⟩) (fun x e σ' => match x with | (.inl (v12,v13)) => e = .exit 0 ∧ σ' = ⟨[(4,.ptr 4 0),(6,.ptr 6 0)],[(4,.box [.i 0,.i 0]),(6,.box [.i v12,.i v13])]⟩ | (.inr r) => e = .ret ∧ K217 r σ') hk10 rfl rfl ?_ ?_
  ·intro s x hs
   clear h
   have h := hs
   clear hs
   obtain ⟨v3,v4,v5⟩ := s
   refine Tri.f 1 [] [.keep [0,1,4,6,7,22] [4,6]] rfl trivial ?_
   rcases bif_some h with ⟨hd3,h⟩ | ⟨hd3,h⟩
   ·obtain ⟨hg4,h⟩ := grd_some h
    obtain ⟨hg5,h⟩ := grd_some h
    obtain ⟨⟨v6,v7,v8⟩,hk6,h⟩ := bind_some h
    refine Tri.f 2 [.g true,.v (.tuple [.agg [.i v6,.i v7],.bool v8])] [.keep [0,1,4,6,7,8,9] [4,6,8]] rfl ⟨fun _ => W76 ((a0.getD v3.toNat ⟨0,0⟩).num) ((a0.getD v3.toNat ⟨0,0⟩).den) ((a1.getD v3.toNat ⟨0,0⟩).num) ((a1.getD v3.toNat ⟨0,0⟩).den) (v6,v7,v8) hk6,hg5,hg4,hd3,trivial⟩ ?_
    obtain ⟨⟨v9,v10,v11⟩,hk7,h⟩ := bind_some h
    rcases bif_some h with ⟨hd8,h⟩ | ⟨hd8,h⟩
    ·refine Tri.f 2 [.v (.tuple [.agg [.i v9,.i v10],.bool v11]),.g true] [.keep [0,1,4,6,7,10,48] [4,6,10]] rfl ⟨hd8,fun _ => W77 v4 v5 v6 v7 (v9,v10,v11) hk7,trivial⟩ ?_
     refine Tri.f 2 [.g true] [.keep [4,5] [4]] rfl ⟨rfl,trivial⟩ ?_
     cases h
     exact Tri.ret rfl ⟨nofun,rfl,rfl,rfl⟩
    ·refine Tri.f 2 [.v (.tuple [.agg [.i v9,.i v10],.bool v11]),.g false] [.keep [0,1,4,6,7,10,48] [4,6,10]] rfl ⟨hd8,fun _ => W77 v4 v5 v6 v7 (v9,v10,v11) hk7,trivial⟩ ?_
     rcases bif_some h with ⟨hd9,h⟩ | ⟨hd9,h⟩
     ·refine Tri.f 2 [.g true] [.keep [4,5] [4]] rfl ⟨hd9,trivial⟩ ?_
      cases h
      exact Tri.ret rfl ⟨nofun,rfl,rfl,rfl⟩
     ·refine Tri.f 3 [.g false] [.keep [0,1,4,6,7] [4,6]] rfl ⟨hd9,trivial⟩ ?_
      cases h
      exact Tri.nil ⟨rfl,rfl⟩
   ·refine Tri.f 1 [.g false] [.keep [4,6] [4,6]] rfl ⟨hd3,trivial⟩ ?_
    cases h
    exact Tri.out 0 rfl ⟨nofun,rfl,rfl⟩
  ·intro e σ' hne hq
   rcases x1 with ⟨v12,v13⟩ | r
   ·obtain ⟨rfl,rfl⟩ := hq
    refine TriX.exit (K' := [.code [] 4]) rfl ?_
    refine Tri.f 1 [] [.keep [4,5] [4]] rfl trivial ?_
    cases h
    exact Tri.ret rfl ⟨.inl rfl,rfl,rfl⟩
   ·obtain ⟨rfl,hq⟩ := hq
    cases h
    exact TriX.ret ⟨.inl rfl,hq⟩
noncomputable def E333 : Env := ⟨Tryz.prog,tys,(Tryz.f52.body).getD .skip,29,tysOk,mixedOk⟩
abbrev K218 (r : Int × Int × Bool) (σ' : ASt) : Prop := isRes E333.T Tryz.f52 (.tuple [.agg [.i r.1,.i r.2.1],.bool r.2.2]) [] σ'
noncomputable def m_spec_l5Dot (a0 : List Int) (a1 : List Q) : Option (Int × Int × Bool) :=
(m_spec_IntsToRats a0).bind fun (v1,v2) =>
(m_spec_DotRat v2 a1).bind fun (v3,v4,v5) =>
bif !v1 then
(some (0,0,false))
else
(bif !v5 then
(some (0,0,false))
else
(some (v3,v4,true)))
theorem W100 (a0 : List Int) (a1 : List Q) (r : Int × Int × Bool) (h : m_spec_l5Dot a0 a1 = some r) : AM.Spec Tryz.prog 52 [.list (.ints a0),.list (.rats a1)] [] (.tuple [.agg [.i r.1,.i r.2.1],.bool r.2.2]) [] := by
 refine spec_of (E := E333) Tryz.func52 rfl rfl rfl rfl ?_
 refine Tri.f 1 [] [.keep [0,1,4] [4]] rfl trivial ?_
 obtain ⟨⟨v1,v2⟩,hk1,h⟩ := bind_some h
 obtain ⟨⟨v3,v4,v5⟩,hk2,h⟩ := bind_some h
 refine Tri.f 2 [.r ⟨[],.tuple [.sl 1100 0,.bool v1],[(1100,.arr 31 0 0 (.rats v2))]⟩,.v (.tuple [.agg [.i v3,.i v4],.bool v5])] [.keep [4,7,8,9] [4,8]] rfl ⟨fun _ => W99 v2 a1 (v3,v4,v5) hk2,fun _ => (W98 a0 (v1,v2) hk1).swap 1000 1100,trivial⟩ ?_
 rcases bif_some h with ⟨hd3,h⟩ | ⟨hd3,h⟩
 ·refine Tri.f 1 [.g true] [.keep [4,8,26] [4,8]] rfl ⟨hd3,trivial⟩ ?_
  refine Tri.f 2 [.g true] [.keep [4,5] [4]] rfl ⟨rfl,trivial⟩ ?_
  cases h
  exact Tri.ret rfl ⟨.inl rfl,rfl,rfl⟩
 ·refine Tri.f 1 [.g false] [.keep [4,8,26] [4,8]] rfl ⟨hd3,trivial⟩ ?_
  rcases bif_some h with ⟨hd4,h⟩ | ⟨hd4,h⟩
  ·refine Tri.f 2 [.g true] [.keep [4,5] [4]] rfl ⟨hd4,trivial⟩ ?_
   cases h
   exact Tri.ret rfl ⟨.inl rfl,rfl,rfl⟩
  ·refine Tri.f 2 [.g false] [.keep [4,5] [4]] rfl ⟨hd4,trivial⟩ ?_
   cases h
   exact Tri.ret rfl ⟨.inl rfl,rfl,rfl⟩
noncomputable def E334 : Env := ⟨Tryz.prog,tys,(Tryz.f58.body).getD .skip,38,tysOk,mixedOk⟩
abbrev K219 (r : Bool) (σ' : ASt) : Prop := isRes E334.T Tryz.f58 (.bool r) [] σ'
noncomputable def l_spec_l5Gives_0 (a0 : List (List Int)) (a3 : List Q) (a4 : List Int) (v1 : Int) : Option (Int ⊕ (Unit ⊕ Bool)) :=
bif decide (v1 < (a0.length : Int)) then
(grd (0 ≤ v1 ∧ v1 < (a0.length : Int)) <|
(m_spec_l5Dot (a0.getD v1.toNat []) a3).bind fun (v2,v3,v4) =>
bif !v4 then
(some (.inr (.inr false)))
else
(grd (0 ≤ v1 ∧ v1 < (a4.length : Int)) <|
(m_spec_l3Int (a4.getD v1.toNat 0)).bind fun (v5,v6) =>
bif !(v2 == v5 && v3 == v6) then
(some (.inr (.inr false)))
else
(some (.inl (IntKind.i64.wrap (v1 + 1))))))
else
(some (.inr (.inl ())))
noncomputable def m_spec_l5Gives (a0 : List (List Int)) (_a1 : List Int) (_a2 a3 : List Q) (a4 : List Int) : Option Bool :=
(iter (l_spec_l5Gives_0 a0 a3 a4) (0 : Int)).bind fun
| (.inl _) => (
some true)
| (.inr r) => some r
theorem W101 (a0 : List (List Int)) (a1 : List Int) (a2 a3 : List Q) (a4 : List Int) (r : Bool) (h : m_spec_l5Gives a0 a1 a2 a3 a4 = some r) : AM.Spec Tryz.prog 58 [.agg [.list (.intss a0),.list (.ints a1),.list (.rats a2)],.list (.rats a3),.list (.ints a4)] [] (.bool r) [] := by
 refine spec_of (E := E334) Tryz.func58 rfl rfl rfl rfl ?_
 refine Tri.f 2 [] [.keep [1,2,3,7] [3]] rfl trivial ?_
 obtain ⟨x1,hk8,h⟩ := bind_some h
 refine Tri.loop (K1 := [.code [(1,0),(1,0),(0,0)] 0]) (K2 := [.blk 0,.code [] 2]) (fun v1 => ⟨[(1,.list (.rats a3)),(2,.list (.ints a4)),(3,.ptr 3 0),(7,.i v1)],[(3,.box [.list (.intss a0),.list (.ints a1),.list (.rats a2)])]⟩) (fun x e σ' => match x with | (.inl _) => e = .exit 0 ∧ σ' = ⟨[],[]⟩ | (.inr r) => e = .ret ∧ K219 r σ') hk8 rfl rfl ?_ ?_
 ·intro v1 x hs
  clear h
  have h := hs
  clear hs
  refine Tri.f 1 [] [.keep [1,2,3,7,14] [3]] rfl trivial ?_
  rcases bif_some h with ⟨hd1,h⟩ | ⟨hd1,h⟩
  ·obtain ⟨hg2,h⟩ := grd_some h
   obtain ⟨⟨v2,v3,v4⟩,hk3,h⟩ := bind_some h
   refine Tri.f 2 [.g true,.v (.tuple [.agg [.i v2,.i v3],.bool v4])] [.keep [1,2,3,7,8,9] [3,8]] rfl ⟨fun _ => W100 (a0.getD v1.toNat []) a3 (v2,v3,v4) hk3,hg2,hd1,trivial⟩ ?_
   rcases bif_some h with ⟨hd4,h⟩ | ⟨hd4,h⟩
   ·refine Tri.f 1 [.g true] [.keep [1,2,3,7,37] [3]] rfl ⟨hd4,trivial⟩ ?_
    refine Tri.f 2 [.g true] [.keep [6] []] rfl ⟨rfl,trivial⟩ ?_
    cases h
    exact Tri.ret rfl ⟨nofun,rfl,rfl,rfl⟩
   ·obtain ⟨hg5,h⟩ := grd_some h
    obtain ⟨⟨v5,v6⟩,hk6,h⟩ := bind_some h
    refine Tri.f 1 [.g false,.v (.agg [.i v5,.i v6])] [.keep [1,2,3,7,37] [3]] rfl ⟨fun _ => W12 (a4.getD v1.toNat 0) (v5,v6) hk6,hg5,hd4,trivial⟩ ?_
    rcases bif_some h with ⟨hd7,h⟩ | ⟨hd7,h⟩
    ·refine Tri.f 2 [.g true] [.keep [6] []] rfl ⟨hd7,trivial⟩ ?_
     cases h
     exact Tri.ret rfl ⟨nofun,rfl,rfl,rfl⟩
    ·refine Tri.f 2 [.g false] [.keep [1,2,3,7] [3]] rfl ⟨hd7,trivial⟩ ?_
     cases h
     exact Tri.nil ⟨rfl,rfl⟩
  ·refine Tri.f 1 [.g false] [.keep [] []] rfl ⟨hd1,trivial⟩ ?_
   cases h
   exact Tri.out 0 rfl ⟨nofun,rfl,rfl⟩
 ·intro e σ' hne hq
  rcases x1 with _ | r
  ·obtain ⟨rfl,rfl⟩ := hq
   refine TriX.exit (K' := [.code [] 2]) rfl ?_
   refine Tri.f 1 [] [.keep [6] []] rfl trivial ?_
   cases h
   exact Tri.ret rfl ⟨.inl rfl,rfl,rfl⟩
  ·obtain ⟨rfl,hq⟩ := hq
   cases h
   exact TriX.ret ⟨.inl rfl,hq⟩
noncomputable def E335 : Env := ⟨Tryz.prog,tys,(Tryz.f56.body).getD .skip,26,tysOk,mixedOk⟩
abbrev K220 (r : Bool) (σ' : ASt) : Prop := isRes E335.T Tryz.f56 (.bool r) [] σ'
noncomputable def m_spec_IsFeasible (a0 : List (List Int)) (a1 : List Int) (a2 a3 : List Q) : Option Bool :=
(m_spec_IsValidLP a0 a1 a2).bind fun v1 =>
bif v1 then
(bif (a3.length : Int) == (a2.length : Int) then
((m_spec_l5NotNegative a3).bind fun v2 =>
bif v2 then
((m_spec_l5Gives a0 a1 a2 a3 a1).bind fun v3 =>
some v3)
else
(some false))
else
(some false))
else
(some false)
theorem W102 (a0 : List (List Int)) (a1 : List Int) (a2 a3 : List Q) (r : Bool) (h : m_spec_IsFeasible a0 a1 a2 a3 = some r) : AM.Spec Tryz.prog 56 [.agg [.list (.intss a0),.list (.ints a1),.list (.rats a2)],.list (.rats a3)] [] (.bool r) [] := by
 refine spec_of (E := E335) Tryz.func56 rfl rfl rfl rfl ?_
 refine Tri.f 1 [] [.keep [1,2] [2]] rfl trivial ?_
 obtain ⟨v1,hk1,h⟩ := bind_some h
 rcases bif_some h with ⟨hd2,h⟩ | ⟨hd2,h⟩
 ·rcases bif_some h with ⟨hd3,h⟩ | ⟨hd3,h⟩
  ·obtain ⟨v2,hk4,h⟩ := bind_some h
   rcases bif_some h with ⟨hd5,h⟩ | ⟨hd5,h⟩
   ·obtain ⟨v3,hk6,h⟩ := bind_some h
    refine Tri.f 1 [.v (.bool v1),.g true,.g true,.v (.bool v2),.g true,.v (.bool v3)] [.keep [4] []] rfl ⟨fun _ => W101 a0 a1 a2 a3 a1 v3 hk6,hd5,fun _ => W97 a3 v2 hk4,hd3,hd2,fun _ => W71 a0 a1 a2 v1 hk1,trivial⟩ ?_
    cases h
    exact Tri.ret rfl ⟨.inl rfl,rfl,rfl⟩
   ·refine Tri.f 1 [.v (.bool v1),.g true,.g true,.v (.bool v2),.g false] [.keep [4] []] rfl ⟨hd5,fun _ => W97 a3 v2 hk4,hd3,hd2,fun _ => W71 a0 a1 a2 v1 hk1,trivial⟩ ?_
    cases h
    exact Tri.ret rfl ⟨.inl rfl,rfl,rfl⟩
  ·refine Tri.f 1 [.v (.bool v1),.g true,.g false,.g false] [.keep [4] []] rfl ⟨rfl,hd3,hd2,fun _ => W71 a0 a1 a2 v1 hk1,trivial⟩ ?_
   cases h
   exact Tri.ret rfl ⟨.inl rfl,rfl,rfl⟩
 ·refine Tri.f 1 [.v (.bool v1),.g false,.g false,.g false] [.keep [4] []] rfl ⟨rfl,rfl,hd2,fun _ => W71 a0 a1 a2 v1 hk1,trivial⟩ ?_
  cases h
  exact Tri.ret rfl ⟨.inl rfl,rfl,rfl⟩
noncomputable def E336 : Env := ⟨Tryz.prog,tys,(Tryz.f97.body).getD .skip,40,tysOk,mixedOk⟩
abbrev K221 (r : List Int) (σ' : ASt) : Prop := isRes E336.T Tryz.f97 (.sl 1000 0) [(1000,.arr 3 0 0 (.ints r))] σ'
noncomputable def l_spec_ColumnOf_0 (a0 : List (List Int)) (a3 : Int) : (Int × (List Int)) → Option ((Int × (List Int)) ⊕ ((List Int)))
 | (v3,v4) => (
bif decide (v3 < (a0.length : Int)) then
(grd (0 ≤ v3 ∧ v3 < (a0.length : Int)) <|
grd (0 ≤ a3 ∧ a3 < ((a0.getD v3.toNat []).length : Int)) <|
grd (v4.length + ([(a0.getD v3.toNat []).getD a3.toNat 0] : List Int).length ≤ room) <|
some (.inl (IntKind.i64.wrap (v3 + 1),v4 ++ [(a0.getD v3.toNat []).getD a3.toNat 0])))
else
(some (.inr v4)))
noncomputable def m_spec_ColumnOf (a0 : List (List Int)) (a1 : List Int) (a2 : List Q) (a3 : Int) : Option (List Int) :=
(m_spec_IsValidLP a0 a1 a2).bind fun v1 =>
bif !v1 then
(some [])
else
((m_spec_l1In a3 (0 : Int) (IntKind.i64.wrap ((a2.length : Int) - 1))).bind fun v2 =>
bif !v2 then
(some [])
else
((iter (l_spec_ColumnOf_0 a0 a3) ((0 : Int),[])).bind fun
| v5 => (
some v5)))
theorem W103 (a0 : List (List Int)) (a1 : List Int) (a2 : List Q) (a3 : Int) (r : List Int) (h : m_spec_ColumnOf a0 a1 a2 a3 = some r) : AM.Spec Tryz.prog 97 [.agg [.list (.intss a0),.list (.ints a1),.list (.rats a2)],.i a3] [] (.sl 1000 0) [(1000,.arr 3 0 0 (.ints r))] := by
 refine spec_of (E := E336) Tryz.func97 rfl rfl rfl rfl ?_
 refine Tri.f 2 [] [.keep [1,2,5] [2,7]] rfl trivial ?_
 obtain ⟨v1,hk1,h⟩ := bind_some h
 rcases bif_some h with ⟨hd2,h⟩ | ⟨hd2,h⟩
 ·refine Tri.f 1 [.v (.bool v1),.g true] [.keep [1,2,5,19] [2,7]] rfl ⟨hd2,fun _ => W71 a0 a1 a2 v1 hk1,trivial⟩ ?_
  refine Tri.f 2 [.g true] [.swap 7 1000,.keep [4] [1000]] rfl ⟨rfl,trivial⟩ ?_
  cases h
  exact Tri.ret rfl ⟨.inl rfl,rfl,rfl⟩
 ·obtain ⟨v2,hk3,h⟩ := bind_some h
  refine Tri.f 1 [.v (.bool v1),.g false,.v (.bool v2)] [.keep [1,2,5,19] [2,7]] rfl ⟨fun _ => W7 a3 (0 : Int) (IntKind.i64.wrap ((a2.length : Int) - 1)) v2 hk3,hd2,fun _ => W71 a0 a1 a2 v1 hk1,trivial⟩ ?_
  rcases bif_some h with ⟨hd4,h⟩ | ⟨hd4,h⟩
  ·refine Tri.f 2 [.g true] [.swap 7 1000,.keep [4] [1000]] rfl ⟨hd4,trivial⟩ ?_
   cases h
   exact Tri.ret rfl ⟨.inl rfl,rfl,rfl⟩
  ·refine Tri.f 2 [.g false] [.keep [1,2,5,6] [2,7]] rfl ⟨hd4,trivial⟩ ?_
   obtain ⟨v5,hk9,h⟩ := bind_some h
   refine Tri.loop (K1 := [.code [(3,0),(1,0),(0,0)] 0]) (K2 := [.blk 0,.code [] 4]) (fun (v3,v4) => ⟨[(1,.i a3),(2,.ptr 2 0),(5,.sl 7 0),(6,.i v3)],[(2,.box [.list (.intss a0),.list (.ints a1),.list (.rats a2)]),(7,.arr 3 0 0 (.ints v4))]⟩) (fun x e σ' => match x with | v5 => e = .exit 0 ∧ σ' = ⟨[(5,.sl 7 0)],[(7,.arr 3 0 0 (.ints v5))]⟩) hk9 rfl rfl ?_ ?_
   ·intro s x hs
    clear h
    have h := hs
    clear hs
    obtain ⟨v3,v4⟩ := s
    refine Tri.f 1 [] [.keep [1,2,5,6,25] [2,7]] rfl trivial ?_
    rcases bif_some h with ⟨hd5,h⟩ | ⟨hd5,h⟩
    ·obtain ⟨hg6,h⟩ := grd_some h
     obtain ⟨hg7,h⟩ := grd_some h
     obtain ⟨hg8,h⟩ := grd_some h
     refine Tri.f 3 [.g true] [.rever 7,.keep [1,2,5,6] [2,7]] rfl ⟨hg8,hg7,hg6,hd5,trivial⟩ ?_
     cases h
     exact Tri.nil ⟨rfl,rfl⟩
    ·refine Tri.f 1 [.g false] [.keep [5] [7]] rfl ⟨hd5,trivial⟩ ?_
     cases h
     exact Tri.out 0 rfl ⟨nofun,rfl,rfl⟩
   ·intro e σ' hne hq
    obtain ⟨rfl,rfl⟩ := hq
    refine TriX.exit (K' := [.code [] 4]) rfl ?_
    refine Tri.f 1 [] [.swap 7 1000,.keep [4] [1000]] rfl trivial ?_
    cases h
    exact Tri.ret rfl ⟨.inl rfl,rfl,rfl⟩
noncomputable def E337 : Env := ⟨Tryz.prog,tys,(Tryz.f53.body).getD .skip,36,tysOk,mixedOk⟩
abbrev K222 (r : Bool) (σ' : ASt) : Prop := isRes E337.T Tryz.f53 (.bool r) [] σ'
noncomputable def l_spec_l5Dual_0 (a0 : List (List Int)) (a1 : List Int) (a2 a3 a4 : List Q) (v1 : Int) : Option (Int ⊕ (Unit ⊕ Bool)) :=
bif decide (v1 < (a2.length : Int)) then
((m_spec_ColumnOf a0 a1 a2 v1).bind fun v2 =>
(m_spec_l5Dot v2 a3).bind fun (v3,v4,v5) =>
bif !v5 then
(some (.inr (.inr false)))
else
(grd (0 ≤ v1 ∧ v1 < (a4.length : Int)) <|
(m_spec_CompareRat ((a4.getD v1.toNat ⟨0,0⟩).num) ((a4.getD v1.toNat ⟨0,0⟩).den) v3 v4).bind fun v6 =>
bif decide (v6 < 0) then
(some (.inr (.inr false)))
else
(some (.inl (IntKind.i64.wrap (v1 + 1))))))
else
(some (.inr (.inl ())))
noncomputable def m_spec_l5Dual (a0 : List (List Int)) (a1 : List Int) (a2 a3 a4 : List Q) : Option Bool :=
(iter (l_spec_l5Dual_0 a0 a1 a2 a3 a4) (0 : Int)).bind fun
| (.inl _) => (
some true)
| (.inr r) => some r
theorem W104 (a0 : List (List Int)) (a1 : List Int) (a2 a3 a4 : List Q) (r : Bool) (h : m_spec_l5Dual a0 a1 a2 a3 a4 = some r) : AM.Spec Tryz.prog 53 [.agg [.list (.intss a0),.list (.ints a1),.list (.rats a2)],.list (.rats a3),.list (.rats a4)] [] (.bool r) [] := by
 refine spec_of (E := E337) Tryz.func53 rfl rfl rfl rfl ?_
 refine Tri.f 2 [] [.keep [1,2,3,7] [3]] rfl trivial ?_
 obtain ⟨x1,hk8,h⟩ := bind_some h
 refine Tri.loop (K1 := [.code [(1,0),(1,0),(0,0)] 0]) (K2 := [.blk 0,.code [] 2]) (fun v1 => ⟨[(1,.list (.rats a3)),(2,.list (.rats a4)),(3,.ptr 3 0),(7,.i v1)],[(3,.box [.list (.intss a0),.list (.ints a1),.list (.rats a2)])]⟩) (fun x e σ' => match x with | (.inl _) => e = .exit 0 ∧ σ' = ⟨[],[]⟩ | (.inr r) => e = .ret ∧ K222 r σ') hk8 rfl rfl ?_ ?_
 ·intro v1 x hs
  clear h
  have h := hs
  clear hs
  refine Tri.f 1 [] [.keep [1,2,3,7,14] [3]] rfl trivial ?_
  rcases bif_some h with ⟨hd1,h⟩ | ⟨hd1,h⟩
  ·obtain ⟨v2,hk2,h⟩ := bind_some h
   obtain ⟨⟨v3,v4,v5⟩,hk3,h⟩ := bind_some h
   refine Tri.f 2 [.g true,.r ⟨[],.sl 1100 0,[(1100,.arr 3 0 0 (.ints v2))]⟩,.v (.tuple [.agg [.i v3,.i v4],.bool v5])] [.keep [1,2,3,7,8,9] [3,8]] rfl ⟨fun _ => W100 v2 a3 (v3,v4,v5) hk3,fun _ => (W103 a0 a1 a2 v1 v2 hk2).swap 1000 1100,hd1,trivial⟩ ?_
   rcases bif_some h with ⟨hd4,h⟩ | ⟨hd4,h⟩
   ·refine Tri.f 1 [.g true] [.keep [1,2,3,7,35] [3]] rfl ⟨hd4,trivial⟩ ?_
    refine Tri.f 2 [.g true] [.keep [6] []] rfl ⟨rfl,trivial⟩ ?_
    cases h
    exact Tri.ret rfl ⟨nofun,rfl,rfl,rfl⟩
   ·obtain ⟨hg5,h⟩ := grd_some h
    obtain ⟨v6,hk6,h⟩ := bind_some h
    refine Tri.f 1 [.g false,.v (.i v6)] [.keep [1,2,3,7,35] [3]] rfl ⟨fun _ => W80 ((a4.getD v1.toNat ⟨0,0⟩).num) ((a4.getD v1.toNat ⟨0,0⟩).den) v3 v4 v6 hk6,hg5,hd4,trivial⟩ ?_
    rcases bif_some h with ⟨hd7,h⟩ | ⟨hd7,h⟩
    ·refine Tri.f 2 [.g true] [.keep [6] []] rfl ⟨hd7,trivial⟩ ?_
     cases h
     exact Tri.ret rfl ⟨nofun,rfl,rfl,rfl⟩
    ·refine Tri.f 2 [.g false] [.keep [1,2,3,7] [3]] rfl ⟨hd7,trivial⟩ ?_
     cases h
     exact Tri.nil ⟨rfl,rfl⟩
  ·refine Tri.f 1 [.g false] [.keep [] []] rfl ⟨hd1,trivial⟩ ?_
   cases h
   exact Tri.out 0 rfl ⟨nofun,rfl,rfl⟩
 ·intro e σ' hne hq
  rcases x1 with _ | r
  ·obtain ⟨rfl,rfl⟩ := hq
   refine TriX.exit (K' := [.code [] 2]) rfl ?_
   refine Tri.f 1 [] [.keep [6] []] rfl trivial ?_
   cases h
   exact Tri.ret rfl ⟨.inl rfl,rfl,rfl⟩
  ·obtain ⟨rfl,hq⟩ := hq
   cases h
   exact TriX.ret ⟨.inl rfl,hq⟩
noncomputable def E338 : Env := ⟨Tryz.prog,tys,(Tryz.f51.body).getD .skip,63,tysOk,mixedOk⟩
abbrev K223 (r : Bool) (σ' : ASt) : Prop := isRes E338.T Tryz.f51 (.bool r) [] σ'
noncomputable def m_spec_l5Optimal (a0 : List (List Int)) (a1 : List Int) (a2 : List Q) (_a3 : Int) (a4 a5 _a6 : List Q) (a7 a8 _a9 : Int) : Option Bool :=
(m_spec_IsFeasible a0 a1 a2 a4).bind fun v1 =>
bif !v1 then
(some false)
else
(bif (a5.length : Int) != (a1.length : Int) then
(some false)
else
((m_spec_l5Dual a0 a1 a2 a5 a2).bind fun v2 =>
bif !v2 then
(some false)
else
((m_spec_DotRat a2 a4).bind fun (v3,v4,v5) =>
(m_spec_l5Dot a1 a5).bind fun (v6,v7,v8) =>
bif v5 then
(bif v8 then
(bif v3 == v6 && v4 == v7 then
(some (v3 == a7 && v4 == a8))
else
(some false))
else
(some false))
else
(some false))))
theorem W105 (a0 : List (List Int)) (a1 : List Int) (a2 : List Q) (a3 : Int) (a4 a5 a6 : List Q) (a7 a8 a9 : Int) (r : Bool) (h : m_spec_l5Optimal a0 a1 a2 a3 a4 a5 a6 a7 a8 a9 = some r) : AM.Spec Tryz.prog 51 [.agg [.list (.intss a0),.list (.ints a1),.list (.rats a2)],.agg [.i a3,.list (.rats a4),.list (.rats a5),.list (.rats a6),.i a7,.i a8,.i a9]] [] (.bool r) [] := by
 refine spec_of (E := E338) Tryz.func51 rfl rfl rfl rfl ?_
 refine Tri.f 1 [] [.keep [2,3] [2,3]] rfl trivial ?_
 obtain ⟨v1,hk1,h⟩ := bind_some h
 rcases bif_some h with ⟨hd2,h⟩ | ⟨hd2,h⟩
 ·refine Tri.f 1 [.v (.bool v1),.g true,.g true] [.keep [2,3,31] [2,3]] rfl ⟨rfl,hd2,fun _ => W102 a0 a1 a2 a4 v1 hk1,trivial⟩ ?_
  refine Tri.f 2 [.g true] [.keep [4] []] rfl ⟨rfl,trivial⟩ ?_
  cases h
  exact Tri.ret rfl ⟨.inl rfl,rfl,rfl⟩
 ·rcases bif_some h with ⟨hd3,h⟩ | ⟨hd3,h⟩
  ·refine Tri.f 1 [.v (.bool v1),.g false,.g true] [.keep [2,3,31] [2,3]] rfl ⟨hd3,hd2,fun _ => W102 a0 a1 a2 a4 v1 hk1,trivial⟩ ?_
   refine Tri.f 2 [.g true] [.keep [4] []] rfl ⟨rfl,trivial⟩ ?_
   cases h
   exact Tri.ret rfl ⟨.inl rfl,rfl,rfl⟩
  ·obtain ⟨v2,hk4,h⟩ := bind_some h
   refine Tri.f 1 [.v (.bool v1),.g false,.g false,.v (.bool v2)] [.keep [2,3,31] [2,3]] rfl ⟨fun _ => W104 a0 a1 a2 a5 a2 v2 hk4,hd3,hd2,fun _ => W102 a0 a1 a2 a4 v1 hk1,trivial⟩ ?_
   rcases bif_some h with ⟨hd5,h⟩ | ⟨hd5,h⟩
   ·refine Tri.f 2 [.g true] [.keep [4] []] rfl ⟨hd5,trivial⟩ ?_
    cases h
    exact Tri.ret rfl ⟨.inl rfl,rfl,rfl⟩
   ·obtain ⟨⟨v3,v4,v5⟩,hk6,h⟩ := bind_some h
    refine Tri.f 2 [.g false,.v (.tuple [.agg [.i v3,.i v4],.bool v5])] [.keep [2,3,5,6] [2,3,5]] rfl ⟨fun _ => W99 a2 a4 (v3,v4,v5) hk6,hd5,trivial⟩ ?_
    obtain ⟨⟨v6,v7,v8⟩,hk7,h⟩ := bind_some h
    rcases bif_some h with ⟨hd8,h⟩ | ⟨hd8,h⟩
    ·rcases bif_some h with ⟨hd9,h⟩ | ⟨hd9,h⟩
     ·rcases bif_some h with ⟨hd10,h⟩ | ⟨hd10,h⟩
      ·refine Tri.f 2 [.v (.tuple [.agg [.i v6,.i v7],.bool v8]),.g true,.g true,.g true] [.keep [4] []] rfl ⟨hd10,hd9,hd8,fun _ => W100 a1 a5 (v6,v7,v8) hk7,trivial⟩ ?_
       cases h
       exact Tri.ret rfl ⟨.inl rfl,rfl,rfl⟩
      ·refine Tri.f 2 [.v (.tuple [.agg [.i v6,.i v7],.bool v8]),.g true,.g true,.g false] [.keep [4] []] rfl ⟨hd10,hd9,hd8,fun _ => W100 a1 a5 (v6,v7,v8) hk7,trivial⟩ ?_
       cases h
       exact Tri.ret rfl ⟨.inl rfl,rfl,rfl⟩
     ·refine Tri.f 2 [.v (.tuple [.agg [.i v6,.i v7],.bool v8]),.g true,.g false,.g false] [.keep [4] []] rfl ⟨rfl,hd9,hd8,fun _ => W100 a1 a5 (v6,v7,v8) hk7,trivial⟩ ?_
      cases h
      exact Tri.ret rfl ⟨.inl rfl,rfl,rfl⟩
    ·refine Tri.f 2 [.v (.tuple [.agg [.i v6,.i v7],.bool v8]),.g false,.g false,.g false] [.keep [4] []] rfl ⟨rfl,rfl,hd8,fun _ => W100 a1 a5 (v6,v7,v8) hk7,trivial⟩ ?_
     cases h
     exact Tri.ret rfl ⟨.inl rfl,rfl,rfl⟩
noncomputable def E339 : Env := ⟨Tryz.prog,tys,(Tryz.f54.body).getD .skip,16,tysOk,mixedOk⟩
abbrev K224 (r : List Q) (σ' : ASt) : Prop := isRes E339.T Tryz.f54 (.sl 1000 0) [(1000,.arr 31 0 0 (.rats r))] σ'
noncomputable def l_spec_l5Zeros_0 (a0 : Int) : (Int × (List Q)) → Option ((Int × (List Q)) ⊕ ((List Q)))
 | (v1,v2) => (
bif decide (v1 < a0) then
((m_spec_l3Int (0 : Int)).bind fun (v3,v4) =>
grd (v2.length + ([⟨v3,v4⟩] : List Q).length ≤ room) <|
some (.inl (IntKind.i64.wrap (v1 + 1),v2 ++ [⟨v3,v4⟩])))
else
(some (.inr v2)))
noncomputable def m_spec_l5Zeros (a0 : Int) : Option (List Q) :=
(iter (l_spec_l5Zeros_0 a0) ((0 : Int),[])).bind fun
| v5 => (
some v5)
theorem W106 (a0 : Int) (r : List Q) (h : m_spec_l5Zeros a0 = some r) : AM.Spec Tryz.prog 54 [.i a0] [] (.sl 1000 0) [(1000,.arr 31 0 0 (.rats r))] := by
 refine spec_of (E := E339) Tryz.func54 rfl rfl rfl rfl ?_
 refine Tri.f 3 [] [.keep [0,3,4] [5]] rfl trivial ?_
 obtain ⟨v5,hk4,h⟩ := bind_some h
 refine Tri.loop (K1 := [.code [(2,0),(1,0),(0,0)] 0]) (K2 := [.blk 0,.code [] 3]) (fun (v1,v2) => ⟨[(0,.i a0),(3,.sl 5 0),(4,.i v1)],[(5,.arr 31 0 0 (.rats v2))]⟩) (fun x e σ' => match x with | v5 => e = .exit 0 ∧ σ' = ⟨[(3,.sl 5 0)],[(5,.arr 31 0 0 (.rats v5))]⟩) hk4 rfl rfl ?_ ?_
 ·intro s x hs
  clear h
  have h := hs
  clear hs
  obtain ⟨v1,v2⟩ := s
  refine Tri.f 1 [] [.keep [0,3,4,8] [5]] rfl trivial ?_
  rcases bif_some h with ⟨hd1,h⟩ | ⟨hd1,h⟩
  ·obtain ⟨⟨v3,v4⟩,hk2,h⟩ := bind_some h
   obtain ⟨hg3,h⟩ := grd_some h
   refine Tri.f 3 [.g true,.v (.agg [.i v3,.i v4])] [.rever 5,.keep [0,3,4] [5]] rfl ⟨hg3,fun _ => W12 (0 : Int) (v3,v4) hk2,hd1,trivial⟩ ?_
   cases h
   exact Tri.nil ⟨rfl,rfl⟩
  ·refine Tri.f 1 [.g false] [.keep [3] [5]] rfl ⟨hd1,trivial⟩ ?_
   cases h
   exact Tri.out 0 rfl ⟨nofun,rfl,rfl⟩
 ·intro e σ' hne hq
  obtain ⟨rfl,rfl⟩ := hq
  refine TriX.exit (K' := [.code [] 3]) rfl ?_
  refine Tri.f 1 [] [.swap 5 1000,.keep [2] [1000]] rfl trivial ?_
  cases h
  exact Tri.ret rfl ⟨.inl rfl,rfl,rfl⟩
noncomputable def E340 : Env := ⟨Tryz.prog,tys,(Tryz.f17.body).getD .skip,100,tysOk,mixedOk⟩
abbrev K225 (r : Bool) (σ' : ASt) : Prop := isRes E340.T Tryz.f17 (.bool r) [] σ'
noncomputable def m_spec_CheckLP (a0 : List (List Int)) (a1 : List Int) (a2 : List Q) (a3 : Int) (a4 a5 a6 : List Q) (a7 a8 a9 : Int) : Option Bool :=
(m_spec_IsValidLP a0 a1 a2).bind fun v1 =>
bif !v1 then
(some false)
else
(bif a3 == 1 then
((m_spec_l5Optimal a0 a1 a2 a3 a4 a5 a6 a7 a8 a9).bind fun v2 =>
some v2)
else
(bif a3 == 2 then
((m_spec_l5Dot a1 a5).bind fun (v3,_,v5) =>
bif (a5.length : Int) == (a1.length : Int) then
((m_spec_l5Zeros (a2.length : Int)).bind fun v6 =>
(m_spec_l5Dual a0 a1 a2 a5 v6).bind fun v7 =>
bif v7 then
(bif v5 then
(some (decide (v3 > 0)))
else
(some false))
else
(some false))
else
(some false))
else
(bif a3 == 3 then
((m_spec_DotRat a2 a6).bind fun (v8,_,v10) =>
(m_spec_IsFeasible a0 a1 a2 a4).bind fun v11 =>
bif v11 then
(bif (a6.length : Int) == (a2.length : Int) then
((m_spec_l5NotNegative a6).bind fun v12 =>
bif v12 then
(grd ((0 : Int) ≤ (a1.length : Int) ∧ (a1.length : Int) = (a1.length : Int) ∧ (a1.length : Int) ≤ (room : Int)) <|
(m_spec_l5Gives a0 a1 a2 a6 (List.replicate (a1.length : Int).toNat (0 : Int))).bind fun v13 =>
bif v13 then
(bif v10 then
(some (decide (v8 < 0)))
else
(some false))
else
(some false))
else
(some false))
else
(some false))
else
(some false))
else
(some false))))
theorem W107 (a0 : List (List Int)) (a1 : List Int) (a2 : List Q) (a3 : Int) (a4 a5 a6 : List Q) (a7 a8 a9 : Int) (r : Bool) (h : m_spec_CheckLP a0 a1 a2 a3 a4 a5 a6 a7 a8 a9 = some r) : AM.Spec Tryz.prog 17 [.agg [.list (.intss a0),.list (.ints a1),.list (.rats a2)],.agg [.i a3,.list (.rats a4),.list (.rats a5),.list (.rats a6),.i a7,.i a8,.i a9]] [] (.bool r) [] := by
 refine spec_of (E := E340) Tryz.func17 rfl rfl rfl rfl ?_
 refine Tri.f 1 [] [.keep [2,3] [2,3]] rfl trivial ?_
 obtain ⟨v1,hk1,h⟩ := bind_some h
 refine Tri.f 1 [.v (.bool v1)] [.keep [2,3,11] [2,3]] rfl ⟨fun _ => W71 a0 a1 a2 v1 hk1,trivial⟩ ?_
 rcases bif_some h with ⟨hd2,h⟩ | ⟨hd2,h⟩
 ·refine Tri.f 2 [.g true] [.keep [4] []] rfl ⟨hd2,trivial⟩ ?_
  cases h
  exact Tri.ret rfl ⟨.inl rfl,rfl,rfl⟩
 ·refine Tri.f 3 [.g false] [.keep [2,3,13,14] [2,3]] rfl ⟨hd2,trivial⟩ ?_
  rcases bif_some h with ⟨hd3,h⟩ | ⟨hd3,h⟩
  ·obtain ⟨v2,hk4,h⟩ := bind_some h
   refine Tri.f 2 [.g true,.v (.bool v2)] [.keep [4] []] rfl ⟨fun _ => W105 a0 a1 a2 a3 a4 a5 a6 a7 a8 a9 v2 hk4,hd3,trivial⟩ ?_
   cases h
   exact Tri.ret rfl ⟨.inl rfl,rfl,rfl⟩
  ·refine Tri.f 2 [.g false] [.keep [2,3,13,19] [2,3]] rfl ⟨hd3,trivial⟩ ?_
   rcases bif_some h with ⟨hd5,h⟩ | ⟨hd5,h⟩
   ·obtain ⟨⟨v3,v4,v5⟩,hk6,h⟩ := bind_some h
    refine Tri.f 2 [.g true,.v (.tuple [.agg [.i v3,.i v4],.bool v5])] [.keep [2,3,5,6] [2,3,5]] rfl ⟨fun _ => W100 a1 a5 (v3,v4,v5) hk6,hd5,trivial⟩ ?_
    rcases bif_some h with ⟨hd7,h⟩ | ⟨hd7,h⟩
    ·obtain ⟨v6,hk8,h⟩ := bind_some h
     obtain ⟨v7,hk9,h⟩ := bind_some h
     rcases bif_some h with ⟨hd10,h⟩ | ⟨hd10,h⟩
     ·rcases bif_some h with ⟨hd11,h⟩ | ⟨hd11,h⟩
      ·refine Tri.f 1 [.g true,.r ⟨[],.sl 1100 0,[(1100,.arr 31 0 0 (.rats v6))]⟩,.v (.bool v7),.g true,.g true] [.keep [4] []] rfl ⟨hd11,hd10,fun _ => W104 a0 a1 a2 a5 v6 v7 hk9,fun _ => (W106 (a2.length : Int) v6 hk8).swap 1000 1100,hd7,trivial⟩ ?_
       cases h
       exact Tri.ret rfl ⟨.inl rfl,rfl,rfl⟩
      ·refine Tri.f 1 [.g true,.r ⟨[],.sl 1100 0,[(1100,.arr 31 0 0 (.rats v6))]⟩,.v (.bool v7),.g true,.g false] [.keep [4] []] rfl ⟨hd11,hd10,fun _ => W104 a0 a1 a2 a5 v6 v7 hk9,fun _ => (W106 (a2.length : Int) v6 hk8).swap 1000 1100,hd7,trivial⟩ ?_
       cases h
       exact Tri.ret rfl ⟨.inl rfl,rfl,rfl⟩
     ·refine Tri.f 1 [.g true,.r ⟨[],.sl 1100 0,[(1100,.arr 31 0 0 (.rats v6))]⟩,.v (.bool v7),.g false,.g false] [.keep [4] []] rfl ⟨rfl,hd10,fun _ => W104 a0 a1 a2 a5 v6 v7 hk9,fun _ => (W106 (a2.length : Int) v6 hk8).swap 1000 1100,hd7,trivial⟩ ?_
      cases h
      exact Tri.ret rfl ⟨.inl rfl,rfl,rfl⟩
    ·refine Tri.f 1 [.g false,.g false,.g false] [.keep [4] []] rfl ⟨rfl,rfl,hd7,trivial⟩ ?_
     cases h
     exact Tri.ret rfl ⟨.inl rfl,rfl,rfl⟩
   ·refine Tri.f 2 [.g false] [.keep [2,3,54] [2,3]] rfl ⟨hd5,trivial⟩ ?_
    rcases bif_some h with ⟨hd12,h⟩ | ⟨hd12,h⟩
    ·obtain ⟨⟨v8,v9,v10⟩,hk13,h⟩ := bind_some h
     refine Tri.f 2 [.g true,.v (.tuple [.agg [.i v8,.i v9],.bool v10])] [.keep [2,3,7,8] [2,3,7]] rfl ⟨fun _ => W99 a2 a6 (v8,v9,v10) hk13,hd12,trivial⟩ ?_
     obtain ⟨v11,hk14,h⟩ := bind_some h
     rcases bif_some h with ⟨hd15,h⟩ | ⟨hd15,h⟩
     ·rcases bif_some h with ⟨hd16,h⟩ | ⟨hd16,h⟩
      ·obtain ⟨v12,hk17,h⟩ := bind_some h
       rcases bif_some h with ⟨hd18,h⟩ | ⟨hd18,h⟩
       ·obtain ⟨hg19,h⟩ := grd_some h
        obtain ⟨v13,hk20,h⟩ := bind_some h
        rcases bif_some h with ⟨hd21,h⟩ | ⟨hd21,h⟩
        ·rcases bif_some h with ⟨hd22,h⟩ | ⟨hd22,h⟩
         ·refine Tri.f 1 [.v (.bool v11),.g true,.g true,.v (.bool v12),.g true,.v (.bool v13),.g true,.g true] [.keep [4] []] rfl ⟨hd22,hd21,fun _ => W101 a0 a1 a2 a6 (List.replicate (a1.length : Int).toNat (0 : Int)) v13 hk20,hg19,hd18,fun _ => W97 a6 v12 hk17,hd16,hd15,fun _ => W102 a0 a1 a2 a4 v11 hk14,trivial⟩ ?_
          cases h
          exact Tri.ret rfl ⟨.inl rfl,rfl,rfl⟩
         ·refine Tri.f 1 [.v (.bool v11),.g true,.g true,.v (.bool v12),.g true,.v (.bool v13),.g true,.g false] [.keep [4] []] rfl ⟨hd22,hd21,fun _ => W101 a0 a1 a2 a6 (List.replicate (a1.length : Int).toNat (0 : Int)) v13 hk20,hg19,hd18,fun _ => W97 a6 v12 hk17,hd16,hd15,fun _ => W102 a0 a1 a2 a4 v11 hk14,trivial⟩ ?_
          cases h
          exact Tri.ret rfl ⟨.inl rfl,rfl,rfl⟩
        ·refine Tri.f 1 [.v (.bool v11),.g true,.g true,.v (.bool v12),.g true,.v (.bool v13),.g false,.g false] [.keep [4] []] rfl ⟨rfl,hd21,fun _ => W101 a0 a1 a2 a6 (List.replicate (a1.length : Int).toNat (0 : Int)) v13 hk20,hg19,hd18,fun _ => W97 a6 v12 hk17,hd16,hd15,fun _ => W102 a0 a1 a2 a4 v11 hk14,trivial⟩ ?_
         cases h
         exact Tri.ret rfl ⟨.inl rfl,rfl,rfl⟩
       ·refine Tri.f 1 [.v (.bool v11),.g true,.g true,.v (.bool v12),.g false,.g false,.g false] [.keep [4] []] rfl ⟨rfl,rfl,hd18,fun _ => W97 a6 v12 hk17,hd16,hd15,fun _ => W102 a0 a1 a2 a4 v11 hk14,trivial⟩ ?_
        cases h
        exact Tri.ret rfl ⟨.inl rfl,rfl,rfl⟩
      ·refine Tri.f 1 [.v (.bool v11),.g true,.g false,.g false,.g false,.g false] [.keep [4] []] rfl ⟨rfl,rfl,rfl,hd16,hd15,fun _ => W102 a0 a1 a2 a4 v11 hk14,trivial⟩ ?_
       cases h
       exact Tri.ret rfl ⟨.inl rfl,rfl,rfl⟩
     ·refine Tri.f 1 [.v (.bool v11),.g false,.g false,.g false,.g false,.g false] [.keep [4] []] rfl ⟨rfl,rfl,rfl,rfl,hd15,fun _ => W102 a0 a1 a2 a4 v11 hk14,trivial⟩ ?_
      cases h
      exact Tri.ret rfl ⟨.inl rfl,rfl,rfl⟩
    ·refine Tri.f 2 [.g false] [.keep [4] []] rfl ⟨hd12,trivial⟩ ?_
     cases h
     exact Tri.ret rfl ⟨.inl rfl,rfl,rfl⟩
noncomputable def E341 : Env := ⟨Tryz.prog,tys,(Tryz.f8.body).getD .skip,37,tysOk,mixedOk⟩
abbrev K226 (r : Int × Int × Int × Int × (List Q) × (List Q) × (List Q)) (σ' : ASt) : Prop := isRes E341.T Tryz.f8 (.agg [.i r.1,.sl 1000 0,.sl 1001 0,.sl 1002 0,.i r.2.1,.i r.2.2.1,.i r.2.2.2.1]) [(1000,.arr 31 0 0 (.rats r.2.2.2.2.1)),(1001,.arr 31 0 0 (.rats r.2.2.2.2.2.1)),(1002,.arr 31 0 0 (.rats r.2.2.2.2.2.2))] σ'
noncomputable def m_spec_SolveLP (a0 : List (List Int)) (a1 : List Int) (a2 : List Q) : Option (Int × Int × Int × Int × (List Q) × (List Q) × (List Q)) :=
(m_spec_IsValidLP a0 a1 a2).bind fun v1 =>
bif !v1 then
(some (0,0,0,0,[],[],[]))
else
((m_spec_StartTableau a0 a1 a2).bind fun (v2,v3,v4) =>
(m_spec_l7Solve_io3 a0 a1 a2 v3 v4 v2 0 false).bind fun (v5,v6,v7,_,v9,v10,v11,_,_,_,v15,v16) =>
bif v16 then
(some ((4 : Int),0,0,0,[],[],[]))
else
((m_spec_CheckLP a0 a1 a2 v5 v9 v10 v11 v6 v7 v15).bind fun v17 =>
bif !v17 then
(some ((4 : Int),0,0,0,[],[],[]))
else
((m_spec_l4Copy v9).bind fun v18 =>
some (v5,v6,v7,v15,v18,v10,v11))))
theorem W108 (a0 : List (List Int)) (a1 : List Int) (a2 : List Q) (r : Int × Int × Int × Int × (List Q) × (List Q) × (List Q)) (h : m_spec_SolveLP a0 a1 a2 = some r) : AM.Spec Tryz.prog 8 [.agg [.list (.intss a0),.list (.ints a1),.list (.rats a2)]] [] (.agg [.i r.1,.sl 1000 0,.sl 1001 0,.sl 1002 0,.i r.2.1,.i r.2.2.1,.i r.2.2.2.1]) [(1000,.arr 31 0 0 (.rats r.2.2.2.2.1)),(1001,.arr 31 0 0 (.rats r.2.2.2.2.2.1)),(1002,.arr 31 0 0 (.rats r.2.2.2.2.2.2))] := by
 refine spec_of (E := E341) Tryz.func8 rfl rfl rfl rfl ?_
 refine Tri.f 1 [] [.keep [1,2] [1,2],.ownc 2 1 1100 31,.ownc 2 2 1101 31,.ownc 2 3 1102 31,.keep [1,2] [1,2,1100,1101,1102]] rfl trivial ?_
 obtain ⟨v1,hk1,h⟩ := bind_some h
 refine Tri.f 1 [.v (.bool v1)] [.keep [1,2,7] [1,2,1100,1101,1102]] rfl ⟨fun _ => W71 a0 a1 a2 v1 hk1,trivial⟩ ?_
 rcases bif_some h with ⟨hd2,h⟩ | ⟨hd2,h⟩
 ·refine Tri.f 2 [.g true] [.ownc 2 1 1103 31,.ownc 2 2 1104 31,.ownc 2 3 1105 31,.swap 1103 1000,.swap 1104 1001,.swap 1105 1002,.keep [2] [2,1000,1001,1002]] rfl ⟨hd2,trivial⟩ ?_
  cases h
  exact Tri.ret rfl ⟨.inl rfl,rfl,rfl⟩
 ·obtain ⟨⟨v2,v3,v4⟩,hk3,h⟩ := bind_some h
  refine Tri.f 2 [.g false,.r ⟨[],.agg [.sl 1106 0,.sl 1107 0,.i v2],[(1106,.arr 26 0 0 (.ratss v3)),(1107,.arr 3 0 0 (.ints v4))]⟩] [.keep [1,2,3] [1,2,13,1100,1101,1102,1106,1107]] rfl ⟨fun _ => ((W72 a0 a1 a2 (v2,v3,v4) hk3).swap 1000 1106).swap 1001 1107,hd2,trivial⟩ ?_
  obtain ⟨⟨v5,v6,v7,v8,v9,v10,v11,v12,v13,v14,v15,v16⟩,hk4,h⟩ := bind_some h
  refine Tri.f 2 [.r ⟨[13,1106,1107],.agg [.i v5,.sl 1108 0,.sl 1109 0,.sl 1110 0,.i v6,.i v7,.i v8],[(1108,.arr 31 0 0 (.rats v9)),(1109,.arr 31 0 0 (.rats v10)),(1110,.arr 31 0 0 (.rats v11)),(1111,.arr 26 0 0 (.ratss v12)),(1112,.arr 3 0 0 (.ints v13)),(13,.box [.undf,.undf,.undf,.sl 1111 0,.sl 1112 0,.i v14,.i v15,.bool v16])]⟩] [.keep [1,2,3,4] [1,2,4,13,1100,1101,1102,1108,1109,1110,1111,1112]] rfl ⟨(fun vf => (((((((((W96 (vf 13 0) (vf 13 1) (vf 13 2) a0 a1 a2 v3 v4 v2 0 false (v5,v6,v7,v8,v9,v10,v11,v12,v13,v14,v15,v16) hk4).swap 1000 1108).swap 1001 1109).swap 1002 1110).swap 1003 1111).swap 1004 1112).swap 2200 13).swap 2201 1106).swap 2202 1107)),trivial⟩ ?_
  rcases bif_some h with ⟨hd5,h⟩ | ⟨hd5,h⟩
  ·refine Tri.f 1 [.g true] [.keep [2,4,30] [2,4,1100,1101,1102,1108,1109,1110]] rfl ⟨hd5,trivial⟩ ?_
   refine Tri.f 2 [.g true] [.ownc 2 1 1113 31,.ownc 2 2 1114 31,.ownc 2 3 1115 31,.swap 1113 1000,.swap 1114 1001,.swap 1115 1002,.keep [2] [2,1000,1001,1002]] rfl ⟨rfl,trivial⟩ ?_
   cases h
   exact Tri.ret rfl ⟨.inl rfl,rfl,rfl⟩
  ·obtain ⟨v17,hk6,h⟩ := bind_some h
   refine Tri.f 1 [.g false,.v (.bool v17)] [.keep [2,4,30] [2,4,1100,1101,1102,1108,1109,1110]] rfl ⟨fun _ => W107 a0 a1 a2 v5 v9 v10 v11 v6 v7 v15 v17 hk6,hd5,trivial⟩ ?_
   rcases bif_some h with ⟨hd7,h⟩ | ⟨hd7,h⟩
   ·refine Tri.f 2 [.g true] [.ownc 2 1 1116 31,.ownc 2 2 1117 31,.ownc 2 3 1118 31,.swap 1116 1000,.swap 1117 1001,.swap 1118 1002,.keep [2] [2,1000,1001,1002]] rfl ⟨hd7,trivial⟩ ?_
    cases h
    exact Tri.ret rfl ⟨.inl rfl,rfl,rfl⟩
   ·obtain ⟨v18,hk8,h⟩ := bind_some h
    refine Tri.f 3 [.g false,.r ⟨[],.sl 1119 0,[(1119,.arr 31 0 0 (.rats v18))]⟩] [.swap 1119 1000,.swap 1109 1001,.swap 1110 1002,.keep [2] [2,1000,1001,1002]] rfl ⟨fun _ => (W75 v9 v18 hk8).swap 1000 1119,hd7,trivial⟩ ?_
    cases h
    exact Tri.ret rfl ⟨.inl rfl,rfl,rfl⟩
noncomputable def E342 : Env := ⟨Tryz.prog,tys,(Tryz.f21.body).getD .skip,26,tysOk,mixedOk⟩
abbrev K227 (r : Bool) (σ' : ASt) : Prop := isRes E342.T Tryz.f21 (.bool r) [] σ'
noncomputable def l_slices_Equal_impl_Rat_impl_Rat_0 (a0 a1 : List Q) (v1 : Int) : Option (Int ⊕ (Unit ⊕ Bool)) :=
bif decide (v1 < (a0.length : Int)) then
(grd (0 ≤ v1 ∧ v1 < (a0.length : Int)) <|
grd (0 ≤ v1 ∧ v1 < (a1.length : Int)) <|
bif !(((a0.getD v1.toNat ⟨0,0⟩).num) == ((a1.getD v1.toNat ⟨0,0⟩).num) && ((a0.getD v1.toNat ⟨0,0⟩).den) == ((a1.getD v1.toNat ⟨0,0⟩).den)) then
(some (.inr (.inr false)))
else
(some (.inl (IntKind.i64.wrap (v1 + 1)))))
else
(some (.inr (.inl ())))
noncomputable def m_slices_Equal_impl_Rat_impl_Rat (a0 a1 : List Q) : Option Bool :=
bif (a0.length : Int) != (a1.length : Int) then
(some false)
else
((iter (l_slices_Equal_impl_Rat_impl_Rat_0 a0 a1) (0 : Int)).bind fun
| (.inl _) => (
some true)
| (.inr r) => some r)
theorem W109 (a0 a1 : List Q) (r : Bool) (h : m_slices_Equal_impl_Rat_impl_Rat a0 a1 = some r) : AM.Spec Tryz.prog 21 [.list (.rats a0),.list (.rats a1)] [] (.bool r) [] := by
 refine spec_of (E := E342) Tryz.func21 rfl rfl rfl rfl ?_
 refine Tri.f 2 [] [.keep [0,1,10] []] rfl trivial ?_
 rcases bif_some h with ⟨hd1,h⟩ | ⟨hd1,h⟩
 ·refine Tri.f 2 [.g true] [.keep [4] []] rfl ⟨hd1,trivial⟩ ?_
  cases h
  exact Tri.ret rfl ⟨.inl rfl,rfl,rfl⟩
 ·refine Tri.f 2 [.g false] [.keep [0,1,12,13] []] rfl ⟨hd1,trivial⟩ ?_
  obtain ⟨x1,hk6,h⟩ := bind_some h
  refine Tri.loop (K1 := [.code [(2,0),(1,0),(0,0)] 0]) (K2 := [.blk 0,.code [] 3]) (fun v1 => ⟨[(0,.list (.rats a0)),(1,.list (.rats a1)),(12,.i (a0.length : Int)),(13,.i v1)],[]⟩) (fun x e σ' => match x with | (.inl _) => e = .exit 0 ∧ σ' = ⟨[],[]⟩ | (.inr r) => e = .ret ∧ K227 r σ') hk6 rfl rfl ?_ ?_
  ·intro v1 x hs
   clear h
   have h := hs
   clear hs
   refine Tri.f 1 [] [.keep [0,1,12,13,14] []] rfl trivial ?_
   rcases bif_some h with ⟨hd2,h⟩ | ⟨hd2,h⟩
   ·obtain ⟨hg3,h⟩ := grd_some h
    obtain ⟨hg4,h⟩ := grd_some h
    refine Tri.f 3 [.g true] [.keep [0,1,12,13,24] []] rfl ⟨hg4,hg3,hd2,trivial⟩ ?_
    rcases bif_some h with ⟨hd5,h⟩ | ⟨hd5,h⟩
    ·refine Tri.f 2 [.g true] [.keep [4] []] rfl ⟨hd5,trivial⟩ ?_
     cases h
     exact Tri.ret rfl ⟨nofun,rfl,rfl,rfl⟩
    ·refine Tri.f 2 [.g false] [.keep [0,1,12,13] []] rfl ⟨hd5,trivial⟩ ?_
     cases h
     exact Tri.nil ⟨rfl,rfl⟩
   ·refine Tri.f 1 [.g false] [.keep [] []] rfl ⟨hd2,trivial⟩ ?_
    cases h
    exact Tri.out 0 rfl ⟨nofun,rfl,rfl⟩
  ·intro e σ' hne hq
   rcases x1 with _ | r
   ·obtain ⟨rfl,rfl⟩ := hq
    refine TriX.exit (K' := [.code [] 3]) rfl ?_
    refine Tri.f 1 [] [.keep [4] []] rfl trivial ?_
    cases h
    exact Tri.ret rfl ⟨.inl rfl,rfl,rfl⟩
   ·obtain ⟨rfl,hq⟩ := hq
    cases h
    exact TriX.ret ⟨.inl rfl,hq⟩
noncomputable def E343 : Env := ⟨Tryz.prog,tys,(Tryz.f7.body).getD .skip,45,tysOk,mixedOk⟩
abbrev K228 (r : Bool) (σ' : ASt) : Prop := isRes E343.T Tryz.f7 (.bool r) [] σ'
noncomputable def m_impl_EqualResult (a0 : Int) (a1 a2 a3 : List Q) (a4 a5 a6 a7 : Int) (a8 a9 a10 : List Q) (a11 a12 a13 : Int) : Option Bool :=
bif a0 == a7 then
((m_slices_Equal_impl_Rat_impl_Rat a1 a8).bind fun v1 =>
bif v1 then
((m_slices_Equal_impl_Rat_impl_Rat a2 a9).bind fun v2 =>
bif v2 then
((m_slices_Equal_impl_Rat_impl_Rat a3 a10).bind fun v3 =>
bif v3 then
(bif a4 == a11 && a5 == a12 then
(some (a6 == a13))
else
(some false))
else
(some false))
else
(some false))
else
(some false))
else
(some false)
theorem W110 (a0 : Int) (a1 a2 a3 : List Q) (a4 a5 a6 a7 : Int) (a8 a9 a10 : List Q) (a11 a12 a13 : Int) (r : Bool) (h : m_impl_EqualResult a0 a1 a2 a3 a4 a5 a6 a7 a8 a9 a10 a11 a12 a13 = some r) : AM.Spec Tryz.prog 7 [.agg [.i a0,.list (.rats a1),.list (.rats a2),.list (.rats a3),.i a4,.i a5,.i a6],.agg [.i a7,.list (.rats a8),.list (.rats a9),.list (.rats a10),.i a11,.i a12,.i a13]] [] (.bool r) [] := by
 refine spec_of (E := E343) Tryz.func7 rfl rfl rfl rfl ?_
 refine Tri.f 1 [] [.keep [2,3] [2,3]] rfl trivial ?_
 rcases bif_some h with ⟨hd1,h⟩ | ⟨hd1,h⟩
 ·obtain ⟨v1,hk2,h⟩ := bind_some h
  rcases bif_some h with ⟨hd3,h⟩ | ⟨hd3,h⟩
  ·obtain ⟨v2,hk4,h⟩ := bind_some h
   rcases bif_some h with ⟨hd5,h⟩ | ⟨hd5,h⟩
   ·obtain ⟨v3,hk6,h⟩ := bind_some h
    rcases bif_some h with ⟨hd7,h⟩ | ⟨hd7,h⟩
    ·rcases bif_some h with ⟨hd8,h⟩ | ⟨hd8,h⟩
     ·refine Tri.f 1 [.g true,.v (.bool v1),.g true,.v (.bool v2),.g true,.v (.bool v3),.g true,.g true] [.keep [4] []] rfl ⟨hd8,hd7,fun _ => W109 a3 a10 v3 hk6,hd5,fun _ => W109 a2 a9 v2 hk4,hd3,fun _ => W109 a1 a8 v1 hk2,hd1,trivial⟩ ?_
      cases h
      exact Tri.ret rfl ⟨.inl rfl,rfl,rfl⟩
     ·refine Tri.f 1 [.g true,.v (.bool v1),.g true,.v (.bool v2),.g true,.v (.bool v3),.g true,.g false] [.keep [4] []] rfl ⟨hd8,hd7,fun _ => W109 a3 a10 v3 hk6,hd5,fun _ => W109 a2 a9 v2 hk4,hd3,fun _ => W109 a1 a8 v1 hk2,hd1,trivial⟩ ?_
      cases h
      exact Tri.ret rfl ⟨.inl rfl,rfl,rfl⟩
    ·refine Tri.f 1 [.g true,.v (.bool v1),.g true,.v (.bool v2),.g true,.v (.bool v3),.g false,.g false] [.keep [4] []] rfl ⟨rfl,hd7,fun _ => W109 a3 a10 v3 hk6,hd5,fun _ => W109 a2 a9 v2 hk4,hd3,fun _ => W109 a1 a8 v1 hk2,hd1,trivial⟩ ?_
     cases h
     exact Tri.ret rfl ⟨.inl rfl,rfl,rfl⟩
   ·refine Tri.f 1 [.g true,.v (.bool v1),.g true,.v (.bool v2),.g false,.g false,.g false] [.keep [4] []] rfl ⟨rfl,rfl,hd5,fun _ => W109 a2 a9 v2 hk4,hd3,fun _ => W109 a1 a8 v1 hk2,hd1,trivial⟩ ?_
    cases h
    exact Tri.ret rfl ⟨.inl rfl,rfl,rfl⟩
  ·refine Tri.f 1 [.g true,.v (.bool v1),.g false,.g false,.g false,.g false] [.keep [4] []] rfl ⟨rfl,rfl,rfl,hd3,fun _ => W109 a1 a8 v1 hk2,hd1,trivial⟩ ?_
   cases h
   exact Tri.ret rfl ⟨.inl rfl,rfl,rfl⟩
 ·refine Tri.f 1 [.g false,.g false,.g false,.g false,.g false] [.keep [4] []] rfl ⟨rfl,rfl,rfl,rfl,hd1,trivial⟩ ?_
  cases h
  exact Tri.ret rfl ⟨.inl rfl,rfl,rfl⟩
abbrev K229 (u0 : Value) (a0 : List (List Q)) (u1 : Value) (a1 : List Int) (r : (List UInt8) × Int × Int × Int) (σ' : ASt) : Prop := isRes E238.T Tryz.f19 (.ptr 1000 0) [(1000,.box [.list (.bytes r.1),.i r.2.1,.i r.2.2.1]),(2000,.box [.lst u0 (.ratss a0),.lst u1 (.ints a1),.i r.2.2.2])] σ'
noncomputable def l_spec_l1New_io1_0 (a3 : List UInt8) : (Int × Int) → Option ((Int × Int) ⊕ Int)
 | (v1,v2) => (
bif decide (v2 < (a3.length : Int)) then
(bif decide (v2 < 4000) then
(grd (0 ≤ v2 ∧ v2 < (a3.length : Int)) <|
some (.inl (bitsOf .and .i64 (IntKind.i64.wrap ((IntKind.i64.wrap ((IntKind.i64.wrap (v1 * 131)) + (IntKind.i64.wrap (((a3.getD v2.toNat 0).toNat : Int))))) + 7)) (1073741823 : Int),IntKind.i64.wrap (v2 + 1))))
else
(some (.inr v1)))
else
(some (.inr v1)))
noncomputable def m_spec_l1New_io1 (_a0 : List (List Q)) (_a1 : List Int) (a2 : Int) (a3 : List UInt8) : Option ((List UInt8) × Int × Int × Int) :=
(iter (l_spec_l1New_io1_0 a3) (IntKind.i64.wrap ((26583 : Int) + (a3.length : Int)),(0 : Int))).bind fun
| v3 => (
some (a3,0,v3,a2))
theorem W111 (u0 u1 : Value) (a0 : List (List Q)) (a1 : List Int) (a2 : Int) (a3 : List UInt8) (r : (List UInt8) × Int × Int × Int) (h : m_spec_l1New_io1 a0 a1 a2 a3 = some r) : AM.Spec Tryz.prog 19 [.list (.bytes a3)] [(2000,.box [.lst u0 (.ratss a0),.lst u1 (.ints a1),.i a2])] (.ptr 1000 0) [(1000,.box [.list (.bytes r.1),.i r.2.1,.i r.2.2.1]),(2000,.box [.lst u0 (.ratss a0),.lst u1 (.ints a1),.i r.2.2.2])] := by
 refine spec_of (E := E238) Tryz.func19 rfl rfl rfl rfl ?_
 refine Tri.f 3 [] [.keep [0,3,4] [2000]] rfl trivial ?_
 obtain ⟨v3,hk4,h⟩ := bind_some h
 refine Tri.loop (K1 := [.code [(2,0),(1,0),(0,0)] 0]) (K2 := [.blk 0,.code [] 3]) (fun (v1,v2) => ⟨[(0,.list (.bytes a3)),(3,.i v1),(4,.i v2)],[(2000,.box [.lst u0 (.ratss a0),.lst u1 (.ints a1),.i a2])]⟩) (fun x e σ' => match x with | v3 => e = .exit 0 ∧ σ' = ⟨[(0,.list (.bytes a3)),(3,.i v3)],[(2000,.box [.lst u0 (.ratss a0),.lst u1 (.ints a1),.i a2])]⟩) hk4 rfl rfl ?_ ?_
 ·intro s x hs
  clear h
  have h := hs
  clear hs
  obtain ⟨v1,v2⟩ := s
  rcases bif_some h with ⟨hd1,h⟩ | ⟨hd1,h⟩
  ·refine Tri.f 1 [.g true] [.keep [0,3,4,15] [2000]] rfl ⟨hd1,trivial⟩ ?_
   rcases bif_some h with ⟨hd2,h⟩ | ⟨hd2,h⟩
   ·obtain ⟨hg3,h⟩ := grd_some h
    refine Tri.f 3 [.g true] [.keep [0,3,4] [2000]] rfl ⟨hg3,hd2,trivial⟩ ?_
    cases h
    exact Tri.nil ⟨rfl,rfl⟩
   ·refine Tri.f 1 [.g false] [.keep [0,3] [2000]] rfl ⟨hd2,trivial⟩ ?_
    cases h
    exact Tri.out 0 rfl ⟨nofun,rfl,rfl⟩
  ·refine Tri.f 1 [.g false] [.keep [0,3,4,15] [2000]] rfl ⟨hd1,trivial⟩ ?_
   refine Tri.f 1 [.g false] [.keep [0,3] [2000]] rfl ⟨rfl,trivial⟩ ?_
   cases h
   exact Tri.out 0 rfl ⟨nofun,rfl,rfl⟩
 ·intro e σ' hne hq
  obtain ⟨rfl,rfl⟩ := hq
  refine TriX.exit (K' := [.code [] 3]) rfl ?_
  refine Tri.f 1 [] [.swap 31 1000,.keep [2] [1000,2000]] rfl trivial ?_
  cases h
  exact Tri.ret rfl ⟨.inl rfl,rfl,rfl⟩
noncomputable def E344 : Env := ⟨Tryz.prog,tys,(Tryz.f33.body).getD .skip,57,tysOk,mixedOk⟩
abbrev K230 (u0 : Value) (a0 : List (List Q)) (u1 : Value) (a1 : List Int) (u2 : Value) (a3 : List UInt8) (r : (List (List Q)) × (List Int) × Int × (List (List Q)) × (List Int) × Int × (List UInt8) × Int × Int) (σ' : ASt) : Prop := isRes E344.T Tryz.f33 (.agg [.list (.ratss r.1),.list (.ints r.2.1),.i r.2.2.1]) [(2320,.box [.list (.ratss r.2.2.2.1),.list (.ints r.2.2.2.2.1),.i r.2.2.2.2.2.1]),(2321,.box [.list (.bytes r.2.2.2.2.2.2.1),.i r.2.2.2.2.2.2.2.1,.i r.2.2.2.2.2.2.2.2])] σ'
noncomputable def l_spec_l6Draw_io2_0 (a3 : List UInt8) (v9 : Int) : (Int × Int × (List (List Q)) × (List Int) × Int × Int) → Option ((Int × Int × (List (List Q)) × (List Int) × Int × Int) ⊕ ((Int × (List (List Q)) × (List Int) × Int × Int)))
 | (v12,v13,v14,v15,v16,v17) => (
bif decide (v12 < v9) then
((m_spec_l1Below_io1 a3 v16 v17 (v14.length : Int)).bind fun (v18,v19,v20) =>
(m_spec_l1Below_io1 a3 v19 v20 (IntKind.i64.wrap (v13 + 1))).bind fun (v21,v22,v23) =>
(m_spec_PivotTableau v14 v15 v13 v18 v21).bind fun (v24,_,v26,v27) =>
some (.inl (IntKind.i64.wrap (v12 + 1),v24,v26,v27,v22,v23)))
else
(some (.inr (v13,v14,v15,v16,v17))))
noncomputable def m_spec_l6Draw_io2 (a0 : List (List Q)) (a1 : List Int) (a2 : Int) (a3 : List UInt8) (a4 a5 : Int) : Option ((List (List Q)) × (List Int) × Int × (List (List Q)) × (List Int) × Int × (List UInt8) × Int × Int) :=
(m_spec_l5Draw_io1 a3 a4 a5).bind fun (v1,v2,v3,v4,v5) =>
(m_spec_StartTableau v1 v2 v3).bind fun (v6,v7,v8) =>
(m_spec_l1Below_io1 a3 v4 v5 (3 : Int)).bind fun (v9,v10,v11) =>
(iter (l_spec_l6Draw_io2_0 a3 v9) ((0 : Int),v6,v7,v8,v10,v11)).bind fun
| (v28,v29,v30,v31,v32) => (
(m_spec_l1Below_io1 a3 v31 v32 (16 : Int)).bind fun (v33,v34,v35) =>
bif v33 == 0 then
(grd (v30.length + ([(0 : Int)] : List Int).length ≤ room) <|
some (v29,v30 ++ [(0 : Int)],v28,a0,a1,a2,a3,v34,v35))
else
(bif v33 == 1 then
(grd ((0 : Int) ≤ (0 : Int) ∧ (0 : Int) < (v29.length : Int)) <|
grd ((0 : Int) ≤ (1 : Int) ∧ (1 : Int) ≤ ((v29.getD ((0 : Int).toNat) []).length : Int)) <|
grd ((0 : Int) ≤ (0 : Int) ∧ (0 : Int) < (v29.length : Int)) <|
some (v29.set ((0 : Int).toNat) (((v29.getD ((0 : Int).toNat) []).drop ((1 : Int).toNat)).take ((v29.getD ((0 : Int).toNat) []).length - (1 : Int).toNat)),v30,v28,a0,a1,a2,a3,v34,v35))
else
(bif v33 == 2 then
(some (v29,v30,IntKind.i64.wrap (v28 + 1),a0,a1,a2,a3,v34,v35))
else
(some (v29,v30,v28,a0,a1,a2,a3,v34,v35)))))
theorem W112 (u0 u1 u2 : Value) (a0 : List (List Q)) (a1 : List Int) (a2 : Int) (a3 : List UInt8) (a4 : Int) (a5 : Int) (r : (List (List Q)) × (List Int) × Int × (List (List Q)) × (List Int) × Int × (List UInt8) × Int × Int) (h : m_spec_l6Draw_io2 a0 a1 a2 a3 a4 a5 = some r) : AM.Spec Tryz.prog 33 [.ptr 2321 0] [(2320,.box [.lst u0 (.ratss a0),.lst u1 (.ints a1),.i a2]),(2321,.box [.lst u2 (.bytes a3),.i a4,.i a5])] (.agg [.list (.ratss r.1),.list (.ints r.2.1),.i r.2.2.1]) [(2320,.box [.list (.ratss r.2.2.2.1),.list (.ints r.2.2.2.2.1),.i r.2.2.2.2.2.1]),(2321,.box [.list (.bytes r.2.2.2.2.2.2.1),.i r.2.2.2.2.2.2.2.1,.i r.2.2.2.2.2.2.2.2])] := by
 refine spec_of (E := E344) Tryz.func33 rfl rfl rfl rfl ?_
 refine Tri.f 1 [] [.keep [0,2] [2,2320,2321],.ownc 2 0 1100 26,.ownc 2 1 1101 3,.keep [0,2] [2,1100,1101,2320,2321]] rfl trivial ?_
 obtain ⟨⟨v1,v2,v3,v4,v5⟩,hk1,h⟩ := bind_some h
 obtain ⟨⟨v6,v7,v8⟩,hk2,h⟩ := bind_some h
 obtain ⟨⟨v9,v10,v11⟩,hk3,h⟩ := bind_some h
 refine Tri.f 3 [.r ⟨[2321],.agg [.sl 1102 0,.sl 1103 0,.sl 1104 0],[(1102,.arr 25 0 0 (.intss v1)),(1103,.arr 3 0 0 (.ints v2)),(1104,.arr 31 0 0 (.rats v3)),(2321,.box [.undf,.i v4,.i v5])]⟩,.r ⟨[],.agg [.sl 1105 0,.sl 1106 0,.i v6],[(1105,.arr 26 0 0 (.ratss v7)),(1106,.arr 3 0 0 (.ints v8))]⟩,.r ⟨[2321],.i v9,[(2321,.box [.undf,.i v10,.i v11])]⟩] [.keep [0,2,3,4,5] [2,3,1100,1101,1105,1106,2320,2321]] rfl ⟨(fun vf => ((W3 (vf 2321 0) a3 v4 v5 (3 : Int) (v9,v10,v11) hk3).swap 2060 2321)),fun _ => ((W72 v1 v2 v3 (v6,v7,v8) hk2).swap 1000 1105).swap 1001 1106,(fun vf => (((((W13 (vf 2321 0) a3 a4 a5 (v1,v2,v3,v4,v5) hk1).swap 1000 1102).swap 1001 1103).swap 1002 1104).swap 2040 2321)),trivial⟩ ?_
 obtain ⟨x1,hk8,h⟩ := bind_some h
 refine Tri.loop (K1 := [.code [(3,0),(1,0),(0,0)] 0]) (K2 := [.blk 0,.code [] 4]) (fun (v12,v13,v14,v15,v16,v17) => ⟨[(0,.ptr 2321 0),(2,.ptr 2 0),(3,.ptr 3 0),(4,.i v9),(5,.i v12)],[(2,.box [.sl 1100 0,.sl 1101 0,.i 0]),(3,.box [.sl 1105 0,.sl 1106 0,.i v13]),(1100,.arr 26 0 0 (.ratss [])),(1101,.arr 3 0 0 (.ints [])),(1105,.arr 26 0 0 (.ratss v14)),(1106,.arr 3 0 0 (.ints v15)),(2320,.box [.lst u0 (.ratss a0),.lst u1 (.ints a1),.i a2]),(2321,.box [.lst u2 (.bytes a3),.i v16,.i v17])]⟩) (fun x e σ' => match x with | (v28,v29,v30,v31,v32) => e = .exit 0 ∧ σ' = ⟨[(0,.ptr 2321 0),(2,.ptr 2 0),(3,.ptr 3 0)],[(2,.box [.sl 1100 0,.sl 1101 0,.i 0]),(3,.box [.sl 1105 0,.sl 1106 0,.i v28]),(1100,.arr 26 0 0 (.ratss [])),(1101,.arr 3 0 0 (.ints [])),(1105,.arr 26 0 0 (.ratss v29)),(1106,.arr 3 0 0 (.ints v30)),(2320,.box [.lst u0 (.ratss a0),.lst u1 (.ints a1),.i a2]),(2321,.box [.lst u2 (.bytes a3),.i v31,.i v32])]⟩) hk8 rfl rfl ?_ ?_
 ·intro s x hs
  clear h
  have h := hs
  clear hs
  obtain ⟨v12,v13,v14,v15,v16,v17⟩ := s
  refine Tri.f 1 [] [.keep [0,2,3,4,5,13] [2,3,1100,1101,1105,1106,2320,2321]] rfl trivial ?_
  rcases bif_some h with ⟨hd4,h⟩ | ⟨hd4,h⟩
  ·obtain ⟨⟨v18,v19,v20⟩,hk5,h⟩ := bind_some h
   obtain ⟨⟨v21,v22,v23⟩,hk6,h⟩ := bind_some h
   obtain ⟨⟨v24,v25,v26,v27⟩,hk7,h⟩ := bind_some h
   refine Tri.f 3 [.g true,.r ⟨[2321],.i v18,[(2321,.box [.undf,.i v19,.i v20])]⟩,.r ⟨[2321],.i v21,[(2321,.box [.undf,.i v22,.i v23])]⟩,.r ⟨[],.tuple [.agg [.sl 1107 0,.sl 1108 0,.i v24],.bool v25],[(1107,.arr 26 0 0 (.ratss v26)),(1108,.arr 3 0 0 (.ints v27))]⟩] [.swap 1107 1105,.swap 1108 1106,.keep [0,2,3,4,5] [2,3,1100,1101,1105,1106,2320,2321]] rfl ⟨fun _ => ((W87 v14 v15 v13 v18 v21 (v24,v25,v26,v27) hk7).swap 1000 1107).swap 1001 1108,(fun vf => ((W3 (vf 2321 0) a3 v19 v20 (IntKind.i64.wrap (v13 + 1)) (v21,v22,v23) hk6).swap 2060 2321)),(fun vf => ((W3 (vf 2321 0) a3 v16 v17 (v14.length : Int) (v18,v19,v20) hk5).swap 2060 2321)),hd4,trivial⟩ ?_
   cases h
   exact Tri.nil ⟨rfl,rfl⟩
  ·refine Tri.f 1 [.g false] [.keep [0,2,3] [2,3,1100,1101,1105,1106,2320,2321]] rfl ⟨hd4,trivial⟩ ?_
   cases h
   exact Tri.out 0 rfl ⟨nofun,rfl,rfl⟩
 ·intro e σ' hne hq
  obtain ⟨v28,v29,v30,v31,v32⟩ := x1
  obtain ⟨rfl,rfl⟩ := hq
  refine TriX.exit (K' := [.code [] 4]) rfl ?_
  obtain ⟨⟨v33,v34,v35⟩,hk9,h⟩ := bind_some h
  refine Tri.f 2 [.r ⟨[2321],.i v33,[(2321,.box [.undf,.i v34,.i v35])]⟩] [.keep [2,3,32,33] [2,3,1100,1101,1105,1106,2320,2321]] rfl ⟨(fun vf => ((W3 (vf 2321 0) a3 v31 v32 (16 : Int) (v33,v34,v35) hk9).swap 2060 2321)),trivial⟩ ?_
  rcases bif_some h with ⟨hd10,h⟩ | ⟨hd10,h⟩
  ·obtain ⟨hg11,h⟩ := grd_some h
   refine Tri.f 3 [.g true] [.keep [2] [2,1105,1106,2320,2321],.give [2,2320,2321],.keep [2] [2,2320,2321]] rfl ⟨hg11,hd10,trivial⟩ ?_
   refine Tri.f 0 [] [.keep [2] [2,2320,2321]] rfl trivial ?_
   cases h
   exact Tri.ret rfl ⟨.inl rfl,rfl,rfl⟩
  ·refine Tri.f 2 [.g false] [.keep [2,3,32,40] [2,3,1100,1101,1105,1106,2320,2321]] rfl ⟨hd10,trivial⟩ ?_
   rcases bif_some h with ⟨hd12,h⟩ | ⟨hd12,h⟩
   ·obtain ⟨hg13,h⟩ := grd_some h
    obtain ⟨hg14,h⟩ := grd_some h
    obtain ⟨hg15,h⟩ := grd_some h
    refine Tri.f 3 [.g true] [.keep [2] [2,1105,1106,2320,2321],.give [2,2320,2321],.keep [2] [2,2320,2321]] rfl ⟨hg15,hg14,hg13,hd12,trivial⟩ ?_
    refine Tri.f 0 [] [.keep [2] [2,2320,2321]] rfl trivial ?_
    cases h
    exact Tri.ret rfl ⟨.inl rfl,rfl,rfl⟩
   ·refine Tri.f 2 [.g false] [.keep [2,3,50] [2,3,1100,1101,1105,1106,2320,2321]] rfl ⟨hd12,trivial⟩ ?_
    rcases bif_some h with ⟨hd16,h⟩ | ⟨hd16,h⟩
    ·refine Tri.f 3 [.g true] [.keep [2] [2,1105,1106,2320,2321],.give [2,2320,2321],.keep [2] [2,2320,2321]] rfl ⟨hd16,trivial⟩ ?_
     refine Tri.f 0 [] [.keep [2] [2,2320,2321]] rfl trivial ?_
     cases h
     exact Tri.ret rfl ⟨.inl rfl,rfl,rfl⟩
    ·refine Tri.f 2 [.g false] [.keep [2] [2,1105,1106,2320,2321],.give [2,2320,2321],.keep [2] [2,2320,2321]] rfl ⟨hd16,trivial⟩ ?_
     refine Tri.f 0 [] [.keep [2] [2,2320,2321]] rfl trivial ?_
     cases h
     exact Tri.ret rfl ⟨.inl rfl,rfl,rfl⟩
abbrev K231 (u0 : Value) (a0 : List (List Q)) (u1 : Value) (a1 : List Int) (u2 : Value) (a3 : List (List Q)) (u3 : Value) (a4 : List Int) (r : (List UInt8) × Int × Int × Int × Int) (σ' : ASt) : Prop := isRes E238.T Tryz.f19 (.ptr 1000 0) [(1000,.box [.list (.bytes r.1),.i r.2.1,.i r.2.2.1]),(2000,.box [.lst u0 (.ratss a0),.lst u1 (.ints a1),.i r.2.2.2.1]),(2001,.box [.lst u2 (.ratss a3),.lst u3 (.ints a4),.i r.2.2.2.2])] σ'
noncomputable def l_spec_l1New_io2_0 (a6 : List UInt8) : (Int × Int) → Option ((Int × Int) ⊕ Int)
 | (v1,v2) => (
bif decide (v2 < (a6.length : Int)) then
(bif decide (v2 < 4000) then
(grd (0 ≤ v2 ∧ v2 < (a6.length : Int)) <|
some (.inl (bitsOf .and .i64 (IntKind.i64.wrap ((IntKind.i64.wrap ((IntKind.i64.wrap (v1 * 131)) + (IntKind.i64.wrap (((a6.getD v2.toNat 0).toNat : Int))))) + 7)) (1073741823 : Int),IntKind.i64.wrap (v2 + 1))))
else
(some (.inr v1)))
else
(some (.inr v1)))
noncomputable def m_spec_l1New_io2 (_a0 : List (List Q)) (_a1 : List Int) (a2 : Int) (_a3 : List (List Q)) (_a4 : List Int) (a5 : Int) (a6 : List UInt8) : Option ((List UInt8) × Int × Int × Int × Int) :=
(iter (l_spec_l1New_io2_0 a6) (IntKind.i64.wrap ((26583 : Int) + (a6.length : Int)),(0 : Int))).bind fun
| v3 => (
some (a6,0,v3,a2,a5))
theorem W113 (u0 u1 u2 u3 : Value) (a0 : List (List Q)) (a1 : List Int) (a2 : Int) (a3 : List (List Q)) (a4 : List Int) (a5 : Int) (a6 : List UInt8) (r : (List UInt8) × Int × Int × Int × Int) (h : m_spec_l1New_io2 a0 a1 a2 a3 a4 a5 a6 = some r) : AM.Spec Tryz.prog 19 [.list (.bytes a6)] [(2000,.box [.lst u0 (.ratss a0),.lst u1 (.ints a1),.i a2]),(2001,.box [.lst u2 (.ratss a3),.lst u3 (.ints a4),.i a5])] (.ptr 1000 0) [(1000,.box [.list (.bytes r.1),.i r.2.1,.i r.2.2.1]),(2000,.box [.lst u0 (.ratss a0),.lst u1 (.ints a1),.i r.2.2.2.1]),(2001,.box [.lst u2 (.ratss a3),.lst u3 (.ints a4),.i r.2.2.2.2])] := by
 refine spec_of (E := E238) Tryz.func19 rfl rfl rfl rfl ?_
 refine Tri.f 3 [] [.keep [0,3,4] [2000,2001]] rfl trivial ?_
 obtain ⟨v3,hk4,h⟩ := bind_some h
 refine Tri.loop (K1 := [.code [(2,0),(1,0),(0,0)] 0]) (K2 := [.blk 0,.code [] 3]) (fun (v1,v2) => ⟨[(0,.list (.bytes a6)),(3,.i v1),(4,.i v2)],[(2000,.box [.lst u0 (.ratss a0),.lst u1 (.ints a1),.i a2]),(2001,.box [.lst u2 (.ratss a3),.lst u3 (.ints a4),.i a5])]⟩) (fun x e σ' => match x with | v3 => e = .exit 0 ∧ σ' = ⟨[(0,.list (.bytes a6)),(3,.i v3)],[(2000,.box [.lst u0 (.ratss a0),.lst u1 (.ints a1),.i a2]),(2001,.box [.lst u2 (.ratss a3),.lst u3 (.ints a4),.i a5])]⟩) hk4 rfl rfl ?_ ?_
 ·intro s x hs
  clear h
  have h := hs
  clear hs
  obtain ⟨v1,v2⟩ := s
  rcases bif_some h with ⟨hd1,h⟩ | ⟨hd1,h⟩
  ·refine Tri.f 1 [.g true] [.keep [0,3,4,15] [2000,2001]] rfl ⟨hd1,trivial⟩ ?_
   rcases bif_some h with ⟨hd2,h⟩ | ⟨hd2,h⟩
   ·obtain ⟨hg3,h⟩ := grd_some h
    refine Tri.f 3 [.g true] [.keep [0,3,4] [2000,2001]] rfl ⟨hg3,hd2,trivial⟩ ?_
    cases h
    exact Tri.nil ⟨rfl,rfl⟩
   ·refine Tri.f 1 [.g false] [.keep [0,3] [2000,2001]] rfl ⟨hd2,trivial⟩ ?_
    cases h
    exact Tri.out 0 rfl ⟨nofun,rfl,rfl⟩
  ·refine Tri.f 1 [.g false] [.keep [0,3,4,15] [2000,2001]] rfl ⟨hd1,trivial⟩ ?_
   refine Tri.f 1 [.g false] [.keep [0,3] [2000,2001]] rfl ⟨rfl,trivial⟩ ?_
   cases h
   exact Tri.out 0 rfl ⟨nofun,rfl,rfl⟩
 ·intro e σ' hne hq
  obtain ⟨rfl,rfl⟩ := hq
  refine TriX.exit (K' := [.code [] 3]) rfl ?_
  refine Tri.f 1 [] [.swap 31 1000,.keep [2] [1000,2000,2001]] rfl trivial ?_
  cases h
  exact Tri.ret rfl ⟨.inl rfl,rfl,rfl⟩
abbrev K232 (u0 : Value) (a0 : List (List Q)) (u1 : Value) (a1 : List Int) (u2 : Value) (a3 : List UInt8) (u3 : Value) (a6 : List (List Q)) (u4 : Value) (a7 : List Int) (r : (List (List Q)) × (List Int) × Int × (List (List Q)) × (List Int) × Int × (List UInt8) × Int × Int × (List (List Q)) × (List Int) × Int) (σ' : ASt) : Prop := isRes E344.T Tryz.f33 (.agg [.list (.ratss r.1),.list (.ints r.2.1),.i r.2.2.1]) [(2320,.box [.list (.ratss r.2.2.2.1),.list (.ints r.2.2.2.2.1),.i r.2.2.2.2.2.1]),(2321,.box [.list (.bytes r.2.2.2.2.2.2.1),.i r.2.2.2.2.2.2.2.1,.i r.2.2.2.2.2.2.2.2.1]),(2322,.box [.list (.ratss r.2.2.2.2.2.2.2.2.2.1),.list (.ints r.2.2.2.2.2.2.2.2.2.2.1),.i r.2.2.2.2.2.2.2.2.2.2.2])] σ'
noncomputable def l_spec_l6Draw_io3_0 (a3 : List UInt8) (v9 : Int) : (Int × Int × (List (List Q)) × (List Int) × Int × Int) → Option ((Int × Int × (List (List Q)) × (List Int) × Int × Int) ⊕ ((Int × (List (List Q)) × (List Int) × Int × Int)))
 | (v12,v13,v14,v15,v16,v17) => (
bif decide (v12 < v9) then
((m_spec_l1Below_io1 a3 v16 v17 (v14.length : Int)).bind fun (v18,v19,v20) =>
(m_spec_l1Below_io1 a3 v19 v20 (IntKind.i64.wrap (v13 + 1))).bind fun (v21,v22,v23) =>
(m_spec_PivotTableau v14 v15 v13 v18 v21).bind fun (v24,_,v26,v27) =>
some (.inl (IntKind.i64.wrap (v12 + 1),v24,v26,v27,v22,v23)))
else
(some (.inr (v13,v14,v15,v16,v17))))
noncomputable def m_spec_l6Draw_io3 (a0 : List (List Q)) (a1 : List Int) (a2 : Int) (a3 : List UInt8) (a4 a5 : Int) (a6 : List (List Q)) (a7 : List Int) (a8 : Int) : Option ((List (List Q)) × (List Int) × Int × (List (List Q)) × (List Int) × Int × (List UInt8) × Int × Int × (List (List Q)) × (List Int) × Int) :=
(m_spec_l5Draw_io1 a3 a4 a5).bind fun (v1,v2,v3,v4,v5) =>
(m_spec_StartTableau v1 v2 v3).bind fun (v6,v7,v8) =>
(m_spec_l1Below_io1 a3 v4 v5 (3 : Int)).bind fun (v9,v10,v11) =>
(iter (l_spec_l6Draw_io3_0 a3 v9) ((0 : Int),v6,v7,v8,v10,v11)).bind fun
| (v28,v29,v30,v31,v32) => (
(m_spec_l1Below_io1 a3 v31 v32 (16 : Int)).bind fun (v33,v34,v35) =>
bif v33 == 0 then
(grd (v30.length + ([(0 : Int)] : List Int).length ≤ room) <|
some (v29,v30 ++ [(0 : Int)],v28,a0,a1,a2,a3,v34,v35,a6,a7,a8))
else
(bif v33 == 1 then
(grd ((0 : Int) ≤ (0 : Int) ∧ (0 : Int) < (v29.length : Int)) <|
grd ((0 : Int) ≤ (1 : Int) ∧ (1 : Int) ≤ ((v29.getD ((0 : Int).toNat) []).length : Int)) <|
grd ((0 : Int) ≤ (0 : Int) ∧ (0 : Int) < (v29.length : Int)) <|
some (v29.set ((0 : Int).toNat) (((v29.getD ((0 : Int).toNat) []).drop ((1 : Int).toNat)).take ((v29.getD ((0 : Int).toNat) []).length - (1 : Int).toNat)),v30,v28,a0,a1,a2,a3,v34,v35,a6,a7,a8))
else
(bif v33 == 2 then
(some (v29,v30,IntKind.i64.wrap (v28 + 1),a0,a1,a2,a3,v34,v35,a6,a7,a8))
else
(some (v29,v30,v28,a0,a1,a2,a3,v34,v35,a6,a7,a8)))))
theorem W114 (u0 u1 u2 u3 u4 : Value) (a0 : List (List Q)) (a1 : List Int) (a2 : Int) (a3 : List UInt8) (a4 : Int) (a5 : Int) (a6 : List (List Q)) (a7 : List Int) (a8 : Int) (r : (List (List Q)) × (List Int) × Int × (List (List Q)) × (List Int) × Int × (List UInt8) × Int × Int × (List (List Q)) × (List Int) × Int) (h : m_spec_l6Draw_io3 a0 a1 a2 a3 a4 a5 a6 a7 a8 = some r) : AM.Spec Tryz.prog 33 [.ptr 2321 0] [(2320,.box [.lst u0 (.ratss a0),.lst u1 (.ints a1),.i a2]),(2321,.box [.lst u2 (.bytes a3),.i a4,.i a5]),(2322,.box [.lst u3 (.ratss a6),.lst u4 (.ints a7),.i a8])] (.agg [.list (.ratss r.1),.list (.ints r.2.1),.i r.2.2.1]) [(2320,.box [.list (.ratss r.2.2.2.1),.list (.ints r.2.2.2.2.1),.i r.2.2.2.2.2.1]),(2321,.box [.list (.bytes r.2.2.2.2.2.2.1),.i r.2.2.2.2.2.2.2.1,.i r.2.2.2.2.2.2.2.2.1]),(2322,.box [.list (.ratss r.2.2.2.2.2.2.2.2.2.1),.list (.ints r.2.2.2.2.2.2.2.2.2.2.1),.i r.2.2.2.2.2.2.2.2.2.2.2])] := by
 refine spec_of (E := E344) Tryz.func33 rfl rfl rfl rfl ?_
 refine Tri.f 1 [] [.keep [0,2] [2,2320,2321,2322],.ownc 2 0 1100 26,.ownc 2 1 1101 3,.keep [0,2] [2,1100,1101,2320,2321,2322]] rfl trivial ?_
 obtain ⟨⟨v1,v2,v3,v4,v5⟩,hk1,h⟩ := bind_some h
 obtain ⟨⟨v6,v7,v8⟩,hk2,h⟩ := bind_some h
 obtain ⟨⟨v9,v10,v11⟩,hk3,h⟩ := bind_some h
 refine Tri.f 3 [.r ⟨[2321],.agg [.sl 1102 0,.sl 1103 0,.sl 1104 0],[(1102,.arr 25 0 0 (.intss v1)),(1103,.arr 3 0 0 (.ints v2)),(1104,.arr 31 0 0 (.rats v3)),(2321,.box [.undf,.i v4,.i v5])]⟩,.r ⟨[],.agg [.sl 1105 0,.sl 1106 0,.i v6],[(1105,.arr 26 0 0 (.ratss v7)),(1106,.arr 3 0 0 (.ints v8))]⟩,.r ⟨[2321],.i v9,[(2321,.box [.undf,.i v10,.i v11])]⟩] [.keep [0,2,3,4,5] [2,3,1100,1101,1105,1106,2320,2321,2322]] rfl ⟨(fun vf => ((W3 (vf 2321 0) a3 v4 v5 (3 : Int) (v9,v10,v11) hk3).swap 2060 2321)),fun _ => ((W72 v1 v2 v3 (v6,v7,v8) hk2).swap 1000 1105).swap 1001 1106,(fun vf => (((((W13 (vf 2321 0) a3 a4 a5 (v1,v2,v3,v4,v5) hk1).swap 1000 1102).swap 1001 1103).swap 1002 1104).swap 2040 2321)),trivial⟩ ?_
 obtain ⟨x1,hk8,h⟩ := bind_some h
 refine Tri.loop (K1 := [.code [(3,0),(1,0),(0,0)] 0]) (K2 := [.blk 0,.code [] 4]) (fun (v12,v13,v14,v15,v16,v17) => ⟨[(0,.ptr 2321 0),(2,.ptr 2 0),(3,.ptr 3 0),(4,.i v9),(5,.i v12)],[(2,.box [.sl 1100 0,.sl 1101 0,.i 0]),(3,.box [.sl 1105 0,.sl 1106 0,.i v13]),(1100,.arr 26 0 0 (.ratss [])),(1101,.arr 3 0 0 (.ints [])),(1105,.arr 26 0 0 (.ratss v14)),(1106,.arr 3 0 0 (.ints v15)),(2320,.box [.lst u0 (.ratss a0),.lst u1 (.ints a1),.i a2]),(2321,.box [.lst u2 (.bytes a3),.i v16,.i v17]),(2322,.box [.lst u3 (.ratss a6),.lst u4 (.ints a7),.i a8])]⟩) (fun x e σ' => match x with | (v28,v29,v30,v31,v32) => e = .exit 0 ∧ σ' = ⟨[(0,.ptr 2321 0),(2,.ptr 2 0),(3,.ptr 3 0)],[(2,.box [.sl 1100 0,.sl 1101 0,.i 0]),(3,.box [.sl 1105 0,.sl 1106 0,.i v28]),(1100,.arr 26 0 0 (.ratss [])),(1101,.arr 3 0 0 (.ints [])),(1105,.arr 26 0 0 (.ratss v29)),(1106,.arr 3 0 0 (.ints v30)),(2320,.box [.lst u0 (.ratss a0),.lst u1 (.ints a1),.i a2]),(2321,.box [.lst u2 (.bytes a3),.i v31,.i v32]),(2322,.box [.lst u3 (.ratss a6),.lst u4 (.ints a7),.i a8])]⟩) hk8 rfl rfl ?_ ?_
 ·intro s x hs
  clear h
  have h := hs
  clear hs
  obtain ⟨v12,v13,v14,v15,v16,v17⟩ := s
  refine Tri.f 1 [] [.keep [0,2,3,4,5,13] [2,3,1100,1101,1105,1106,2320,2321,2322]] rfl trivial ?_
  rcases bif_some h with ⟨hd4,h⟩ | ⟨hd4,h⟩
  ·obtain ⟨⟨v18,v19,v20⟩,hk5,h⟩ := bind_some h
   obtain ⟨⟨v21,v22,v23⟩,hk6,h⟩ := bind_some h
   obtain ⟨⟨v24,v25,v26,v27⟩,hk7,h⟩ := bind_some h
   refine Tri.f 3 [.g true,.r ⟨[2321],.i v18,[(2321,.box [.undf,.i v19,.i v20])]⟩,.r ⟨[2321],.i v21,[(2321,.box [.undf,.i v22,.i v23])]⟩,.r ⟨[],.tuple [.agg [.sl 1107 0,.sl 1108 0,.i v24],.bool v25],[(1107,.arr 26 0 0 (.ratss v26)),(1108,.arr 3 0 0 (.ints v27))]⟩] [.swap 1107 1105,.swap 1108 1106,.keep [0,2,3,4,5] [2,3,1100,1101,1105,1106,2320,2321,2322]] rfl ⟨fun _ => ((W87 v14 v15 v13 v18 v21 (v24,v25,v26,v27) hk7).swap 1000 1107).swap 1001 1108,(fun vf => ((W3 (vf 2321 0) a3 v19 v20 (IntKind.i64.wrap (v13 + 1)) (v21,v22,v23) hk6).swap 2060 2321)),(fun vf => ((W3 (vf 2321 0) a3 v16 v17 (v14.length : Int) (v18,v19,v20) hk5).swap 2060 2321)),hd4,trivial⟩ ?_
   cases h
   exact Tri.nil ⟨rfl,rfl⟩
  ·refine Tri.f 1 [.g false] [.keep [0,2,3] [2,3,1100,1101,1105,1106,2320,2321,2322]] rfl ⟨hd4,trivial⟩ ?_
   cases h
   exact Tri.out 0 rfl ⟨nofun,rfl,rfl⟩
 ·intro e σ' hne hq
  obtain ⟨v28,v29,v30,v31,v32⟩ := x1
  obtain ⟨rfl,rfl⟩ := hq
  refine TriX.exit (K' := [.code [] 4]) rfl ?_
  obtain ⟨⟨v33,v34,v35⟩,hk9,h⟩ := bind_some h
  refine Tri.f 2 [.r ⟨[2321],.i v33,[(2321,.box [.undf,.i v34,.i v35])]⟩] [.keep [2,3,32,33] [2,3,1100,1101,1105,1106,2320,2321,2322]] rfl ⟨(fun vf => ((W3 (vf 2321 0) a3 v31 v32 (16 : Int) (v33,v34,v35) hk9).swap 2060 2321)),trivial⟩ ?_
  rcases bif_some h with ⟨hd10,h⟩ | ⟨hd10,h⟩
  ·obtain ⟨hg11,h⟩ := grd_some h
   refine Tri.f 3 [.g true] [.keep [2] [2,1105,1106,2320,2321,2322],.give [2,2320,2321,2322],.keep [2] [2,2320,2321,2322]] rfl ⟨hg11,hd10,trivial⟩ ?_
   refine Tri.f 0 [] [.keep [2] [2,2320,2321,2322]] rfl trivial ?_
   cases h
   exact Tri.ret rfl ⟨.inl rfl,rfl,rfl⟩
  ·refine Tri.f 2 [.g false] [.keep [2,3,32,40] [2,3,1100,1101,1105,1106,2320,2321,2322]] rfl ⟨hd10,trivial⟩ ?_
   rcases bif_some h with ⟨hd12,h⟩ | ⟨hd12,h⟩
   ·obtain ⟨hg13,h⟩ := grd_some h
    obtain ⟨hg14,h⟩ := grd_some h
    obtain ⟨hg15,h⟩ := grd_some h
    refine Tri.f 3 [.g true] [.keep [2] [2,1105,1106,2320,2321,2322],.give [2,2320,2321,2322],.keep [2] [2,2320,2321,2322]] rfl ⟨hg15,hg14,hg13,hd12,trivial⟩ ?_
    refine Tri.f 0 [] [.keep [2] [2,2320,2321,2322]] rfl trivial ?_
    cases h
    exact Tri.ret rfl ⟨.inl rfl,rfl,rfl⟩
   ·refine Tri.f 2 [.g false] [.keep [2,3,50] [2,3,1100,1101,1105,1106,2320,2321,2322]] rfl ⟨hd12,trivial⟩ ?_
    rcases bif_some h with ⟨hd16,h⟩ | ⟨hd16,h⟩
    ·refine Tri.f 3 [.g true] [.keep [2] [2,1105,1106,2320,2321,2322],.give [2,2320,2321,2322],.keep [2] [2,2320,2321,2322]] rfl ⟨hd16,trivial⟩ ?_
     refine Tri.f 0 [] [.keep [2] [2,2320,2321,2322]] rfl trivial ?_
     cases h
     exact Tri.ret rfl ⟨.inl rfl,rfl,rfl⟩
    ·refine Tri.f 2 [.g false] [.keep [2] [2,1105,1106,2320,2321,2322],.give [2,2320,2321,2322],.keep [2] [2,2320,2321,2322]] rfl ⟨hd16,trivial⟩ ?_
     refine Tri.f 0 [] [.keep [2] [2,2320,2321,2322]] rfl trivial ?_
     cases h
     exact Tri.ret rfl ⟨.inl rfl,rfl,rfl⟩
noncomputable def E345 : Env := ⟨Tryz.prog,tys,(Tryz.f30.body).getD .skip,33,tysOk,mixedOk⟩
abbrev K233 (u0 : Value) (a0 : List (List Q)) (u1 : Value) (a1 : List Int) (r : (List (List Q)) × (List Int) × Int × (List Q) × (List (List Q)) × (List Int) × Int) (σ' : ASt) : Prop := isRes E345.T Tryz.f30 (.tuple [.agg [.list (.ratss r.1),.list (.ints r.2.1),.i r.2.2.1],.sl 1000 0]) [(1000,.arr 31 0 0 (.rats r.2.2.2.1)),(2340,.box [.list (.ratss r.2.2.2.2.1),.list (.ints r.2.2.2.2.2.1),.i r.2.2.2.2.2.2])] σ'
noncomputable def l_spec_DrawCostRow_io1_0 (v6 : List (List Q)) (v8 : Int) (v12 : List UInt8) : (Int × (List Q) × Int × Int) → Option ((Int × (List Q) × Int × Int) ⊕ ((List Q)))
 | (v18,v19,v20,v21) => (
bif decide (v18 < (IntKind.i64.wrap (v8 + (v6.length : Int)))) then
((m_spec_l5Number_io1 v12 v20 v21).bind fun (v22,v23,v24) =>
(m_spec_l3Int v22).bind fun (v25,v26) =>
grd (v19.length + ([⟨v25,v26⟩] : List Q).length ≤ room) <|
some (.inl (IntKind.i64.wrap (v18 + 1),v19 ++ [⟨v25,v26⟩],v23,v24)))
else
(some (.inr v19)))
noncomputable def m_spec_DrawCostRow_io1 (a0 : List (List Q)) (a1 : List Int) (a2 : Int) (a3 : List UInt8) : Option ((List (List Q)) × (List Int) × Int × (List Q) × (List (List Q)) × (List Int) × Int) :=
(m_spec_l1New_io2 [] [] 0 a0 a1 a2 a3).bind fun (v1,v2,v3,v4,v5) =>
(m_spec_l6Draw_io3 [] [] v4 v1 v2 v3 a0 a1 v5).bind fun (v6,v7,v8,_,_,_,v12,v13,v14,v15,v16,v17) =>
(iter (l_spec_DrawCostRow_io1_0 v6 v8 v12) ((0 : Int),[],v13,v14)).bind fun
| v27 => (
some (v6,v7,v8,v27,v15,v16,v17))
theorem W115 (u0 u1 : Value) (a0 : List (List Q)) (a1 : List Int) (a2 : Int) (a3 : List UInt8) (r : (List (List Q)) × (List Int) × Int × (List Q) × (List (List Q)) × (List Int) × Int) (h : m_spec_DrawCostRow_io1 a0 a1 a2 a3 = some r) : AM.Spec Tryz.prog 30 [.list (.bytes a3)] [(2340,.box [.lst u0 (.ratss a0),.lst u1 (.ints a1),.i a2])] (.tuple [.agg [.list (.ratss r.1),.list (.ints r.2.1),.i r.2.2.1],.sl 1000 0]) [(1000,.arr 31 0 0 (.rats r.2.2.2.1)),(2340,.box [.list (.ratss r.2.2.2.2.1),.list (.ints r.2.2.2.2.2.1),.i r.2.2.2.2.2.2])] := by
 refine spec_of (E := E345) Tryz.func30 rfl rfl rfl rfl ?_
 refine Tri.f 1 [] [.keep [0,2] [2,2340],.ownc 2 0 1100 26,.ownc 2 1 1101 3,.keep [0,2] [2,1100,1101,2340]] rfl trivial ?_
 refine Tri.f 0 [] [.keep [0,2] [2,1100,1101,2340],.give [2,2340],.keep [0,2] [2,2340]] rfl trivial ?_
 obtain ⟨⟨v1,v2,v3,v4,v5⟩,hk1,h⟩ := bind_some h
 obtain ⟨⟨v6,v7,v8,v9,v10,v11,v12,v13,v14,v15,v16,v17⟩,hk2,h⟩ := bind_some h
 refine Tri.f 3 [.r ⟨[2,2340],.ptr 1102 0,[(1102,.box [.list (.bytes v1),.i v2,.i v3]),(2,.box [.undf,.undf,.i v4]),(2340,.box [.undf,.undf,.i v5])]⟩,.r ⟨[2,1102,2340],.agg [.list (.ratss v6),.list (.ints v7),.i v8],[(2,.box [.list (.ratss v9),.list (.ints v10),.i v11]),(1102,.box [.list (.bytes v12),.i v13,.i v14]),(2340,.box [.list (.ratss v15),.list (.ints v16),.i v17])]⟩] [.keep [2,4,5,6] [2,5,13,1102,2340]] rfl ⟨(fun vf => ((((W114 (vf 2 0) (vf 2 1) (vf 1102 0) (vf 2340 0) (vf 2340 1) [] [] v4 v1 v2 v3 a0 a1 v5 (v6,v7,v8,v9,v10,v11,v12,v13,v14,v15,v16,v17) hk2).swap 2320 2).swap 2321 1102).swap 2322 2340)),(fun vf => ((((W113 (vf 2 0) (vf 2 1) (vf 2340 0) (vf 2340 1) [] [] 0 a0 a1 a2 a3 (v1,v2,v3,v4,v5) hk1).swap 1000 1102).swap 2000 2).swap 2001 2340)),trivial⟩ ?_
 refine Tri.f 2 [] [.keep [2,4,5,6,7,8] [2,5,13,1102,2340]] rfl trivial ?_
 obtain ⟨v27,hk7,h⟩ := bind_some h
 refine Tri.loop (K1 := [.code [(5,0),(1,0),(0,0)] 0]) (K2 := [.blk 0,.code [] 6]) (fun (v18,v19,v20,v21) => ⟨[(2,.ptr 2 0),(4,.ptr 1102 0),(5,.ptr 5 0),(6,.sl 13 0),(7,.i (IntKind.i64.wrap (v8 + (v6.length : Int)))),(8,.i v18)],[(2,.box [.list (.ratss v9),.list (.ints v10),.i v11]),(5,.box [.list (.ratss v6),.list (.ints v7),.i v8]),(13,.arr 31 0 0 (.rats v19)),(1102,.box [.list (.bytes v12),.i v20,.i v21]),(2340,.box [.list (.ratss v15),.list (.ints v16),.i v17])]⟩) (fun x e σ' => match x with | v27 => e = .exit 0 ∧ σ' = ⟨[(2,.ptr 2 0),(5,.ptr 5 0),(6,.sl 13 0)],[(2,.box [.list (.ratss v9),.list (.ints v10),.i v11]),(5,.box [.list (.ratss v6),.list (.ints v7),.i v8]),(13,.arr 31 0 0 (.rats v27)),(2340,.box [.list (.ratss v15),.list (.ints v16),.i v17])]⟩) hk7 rfl rfl ?_ ?_
 ·intro s x hs
  clear h
  have h := hs
  clear hs
  obtain ⟨v18,v19,v20,v21⟩ := s
  refine Tri.f 1 [] [.keep [2,4,5,6,7,8,22] [2,5,13,1102,2340]] rfl trivial ?_
  rcases bif_some h with ⟨hd3,h⟩ | ⟨hd3,h⟩
  ·obtain ⟨⟨v22,v23,v24⟩,hk4,h⟩ := bind_some h
   obtain ⟨⟨v25,v26⟩,hk5,h⟩ := bind_some h
   obtain ⟨hg6,h⟩ := grd_some h
   refine Tri.f 3 [.g true,.r ⟨[1102],.i v22,[(1102,.box [.undf,.i v23,.i v24])]⟩,.v (.agg [.i v25,.i v26])] [.rever 13,.keep [2,4,5,6,7,8] [2,5,13,1102,2340]] rfl ⟨hg6,fun _ => W12 v22 (v25,v26) hk5,(fun vf => ((W6 (vf 1102 0) v12 v20 v21 (v22,v23,v24) hk4).swap 2120 1102)),hd3,trivial⟩ ?_
   cases h
   exact Tri.nil ⟨rfl,rfl⟩
  ·refine Tri.f 1 [.g false] [.keep [2,5,6] [2,5,13,2340]] rfl ⟨hd3,trivial⟩ ?_
   cases h
   exact Tri.out 0 rfl ⟨nofun,rfl,rfl⟩
 ·intro e σ' hne hq
  obtain ⟨rfl,rfl⟩ := hq
  refine TriX.exit (K' := [.code [] 6]) rfl ?_
  refine Tri.f 1 [] [.swap 13 1000,.keep [2,3] [2,1000,2340]] rfl trivial ?_
  cases h
  exact Tri.ret rfl ⟨.inl rfl,rfl,rfl⟩
noncomputable def E346 : Env := ⟨Tryz.prog,tys,(Tryz.f10.body).getD .skip,30,tysOk,mixedOk⟩
abbrev K234 (r : (List (List Q)) × (List Int) × Int × (List Q) × Int) (σ' : ASt) : Prop := isRes E346.T Tryz.f10 (.tuple [.agg [.list (.ratss r.1),.list (.ints r.2.1),.i r.2.2.1],.list (.rats r.2.2.2.1),.i r.2.2.2.2]) [] σ'
noncomputable def m_spec_DrawEnteringColumn (a0 : List UInt8) : Option ((List (List Q)) × (List Int) × Int × (List Q) × Int) :=
(m_spec_DrawCostRow_io1 [] [] 0 a0).bind fun (v1,v2,v3,v4,v5,v6,v7) =>
(m_spec_CostRow v1 v2 v3 v4).bind fun (_,v9) =>
(m_spec_l1New_io1 v5 v6 v7 a0).bind fun (v10,v11,v12,_) =>
(m_spec_l1PickInt_io1 v10 v11 v12 [v3,v3,(1 : Int),(99 : Int),(0 : Int)]).bind fun (v14,_,_) =>
some (v1,v2,v3,v9,v14)
theorem W116 (a0 : List UInt8) (r : (List (List Q)) × (List Int) × Int × (List Q) × Int) (h : m_spec_DrawEnteringColumn a0 = some r) : AM.Spec Tryz.prog 10 [.list (.bytes a0)] [] (.tuple [.agg [.list (.ratss r.1),.list (.ints r.2.1),.i r.2.2.1],.list (.rats r.2.2.2.1),.i r.2.2.2.2]) [] := by
 refine spec_of (E := E346) Tryz.func10 rfl rfl rfl rfl ?_
 refine Tri.f 1 [] [.keep [0,2] [2],.ownc 2 0 1100 26,.ownc 2 1 1101 3,.keep [0,2] [2,1100,1101]] rfl trivial ?_
 refine Tri.f 0 [] [.keep [0,2] [2,1100,1101],.give [2],.keep [0,2] [2]] rfl trivial ?_
 obtain ⟨⟨v1,v2,v3,v4,v5,v6,v7⟩,hk1,h⟩ := bind_some h
 obtain ⟨⟨v8,v9⟩,hk2,h⟩ := bind_some h
 refine Tri.f 2 [.r ⟨[2],.tuple [.agg [.list (.ratss v1),.list (.ints v2),.i v3],.sl 1102 0],[(1102,.arr 31 0 0 (.rats v4)),(2,.box [.list (.ratss v5),.list (.ints v6),.i v7])]⟩,.r ⟨[],.tuple [.sl 1103 0,.bool v8],[(1103,.arr 31 0 0 (.rats v9))]⟩] [.keep [0,2,5,7] [2,5,1103],.give [2],.keep [0,2,5,7] [2]] rfl ⟨fun _ => (W79 v1 v2 v3 v4 (v8,v9) hk2).swap 1000 1103,(fun vf => (((W115 (vf 2 0) (vf 2 1) [] [] 0 a0 (v1,v2,v3,v4,v5,v6,v7) hk1).swap 1000 1102).swap 2340 2)),trivial⟩ ?_
 obtain ⟨⟨v10,v11,v12,v13⟩,hk3,h⟩ := bind_some h
 obtain ⟨⟨v14,v15,v16⟩,hk4,h⟩ := bind_some h
 refine Tri.f 1 [.r ⟨[2],.ptr 1104 0,[(1104,.box [.list (.bytes v10),.i v11,.i v12]),(2,.box [.undf,.undf,.i v13])]⟩,.r ⟨[1104],.i v14,[(1104,.box [.undf,.i v15,.i v16])]⟩] [.keep [2,3,4] [2]] rfl ⟨(fun vf => ((W5 (vf 1104 0) v10 v11 v12 [v3,v3,(1 : Int),(99 : Int),(0 : Int)] (v14,v15,v16) hk4).swap 2140 1104)),(fun vf => (((W111 (vf 2 0) (vf 2 1) v5 v6 v7 a0 (v10,v11,v12,v13) hk3).swap 1000 1104).swap 2000 2)),trivial⟩ ?_
 cases h
 exact Tri.ret rfl ⟨.inl rfl,rfl,rfl⟩
noncomputable def E347 : Env := ⟨Tryz.prog,tys,(Tryz.f11.body).getD .skip,17,tysOk,mixedOk⟩
abbrev K235 (r : (List (List Q)) × (List Int) × Int × Int) (σ' : ASt) : Prop := isRes E347.T Tryz.f11 (.tuple [.agg [.list (.ratss r.1),.list (.ints r.2.1),.i r.2.2.1],.i r.2.2.2]) [] σ'
noncomputable def m_spec_DrawLeavingRow (a0 : List UInt8) : Option ((List (List Q)) × (List Int) × Int × Int) :=
(m_spec_l1New_io1 [] [] 0 a0).bind fun (v1,v2,v3,v4) =>
(m_spec_l6Draw_io2 [] [] v4 v1 v2 v3).bind fun (v5,v6,v7,_,_,_,v11,v12,v13) =>
(m_spec_l1Below_io1 v11 v12 v13 (IntKind.i64.wrap (v7 + 2))).bind fun (v14,_,_) =>
some (v5,v6,v7,IntKind.i64.wrap (v14 - 1))
theorem W117 (a0 : List UInt8) (r : (List (List Q)) × (List Int) × Int × Int) (h : m_spec_DrawLeavingRow a0 = some r) : AM.Spec Tryz.prog 11 [.list (.bytes a0)] [] (.tuple [.agg [.list (.ratss r.1),.list (.ints r.2.1),.i r.2.2.1],.i r.2.2.2]) [] := by
 refine spec_of (E := E347) Tryz.func11 rfl rfl rfl rfl ?_
 refine Tri.f 1 [] [.keep [0,2] [2],.ownc 2 0 1100 26,.ownc 2 1 1101 3,.keep [0,2] [2,1100,1101]] rfl trivial ?_
 refine Tri.f 0 [] [.keep [0,2] [2,1100,1101],.give [2],.keep [0,2] [2]] rfl trivial ?_
 obtain ⟨⟨v1,v2,v3,v4⟩,hk1,h⟩ := bind_some h
 obtain ⟨⟨v5,v6,v7,v8,v9,v10,v11,v12,v13⟩,hk2,h⟩ := bind_some h
 refine Tri.f 2 [.r ⟨[2],.ptr 1102 0,[(1102,.box [.list (.bytes v1),.i v2,.i v3]),(2,.box [.undf,.undf,.i v4])]⟩,.r ⟨[2,1102],.agg [.list (.ratss v5),.list (.ints v6),.i v7],[(2,.box [.list (.ratss v8),.list (.ints v9),.i v10]),(1102,.box [.list (.bytes v11),.i v12,.i v13])]⟩] [.keep [2,4,5] [2,5,1102]] rfl ⟨(fun vf => (((W112 (vf 2 0) (vf 2 1) (vf 1102 0) [] [] v4 v1 v2 v3 (v5,v6,v7,v8,v9,v10,v11,v12,v13) hk2).swap 2320 2).swap 2321 1102)),(fun vf => (((W111 (vf 2 0) (vf 2 1) [] [] 0 a0 (v1,v2,v3,v4) hk1).swap 1000 1102).swap 2000 2)),trivial⟩ ?_
 obtain ⟨⟨v14,v15,v16⟩,hk3,h⟩ := bind_some h
 refine Tri.f 1 [.r ⟨[1102],.i v14,[(1102,.box [.undf,.i v15,.i v16])]⟩] [.keep [2,3] [2]] rfl ⟨(fun vf => ((W3 (vf 1102 0) v11 v12 v13 (IntKind.i64.wrap (v7 + 2)) (v14,v15,v16) hk3).swap 2060 1102)),trivial⟩ ?_
 cases h
 exact Tri.ret rfl ⟨.inl rfl,rfl,rfl⟩
end Go.Proofs.YtbkpiknmlomjnaaGreat
