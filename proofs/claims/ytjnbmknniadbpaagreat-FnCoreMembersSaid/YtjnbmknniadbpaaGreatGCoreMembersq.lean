/- models and walks -/
import Derived.Test.YtjnbmknniadbpaaGreatGCoreMembersp
namespace Go.Proofs.YtjnbmknniadbpaaGreat
open Go.AM
set_option maxRecDepth 100000
set_option maxHeartbeats 4000000
noncomputable def E406 : Env := ⟨Tryz.prog,tys,(Tryz.f99.body).getD .skip,26,tysOk,mixedOk⟩
abbrev K269 (r : Bool) (σ' : ASt) : Prop := isRes E406.T Tryz.f99 (.bool r) [] σ'
noncomputable def m_spec_IsFeasible (a0 : List (List Int)) (a1 : List Int) (a2 a3 : List Q) : Option Bool :=
(m_spec_IsValidLP a0 a1 a2).bind fun v1 =>
bif v1 then
(bif (a3.length : Int) == (a2.length : Int) then
((m_spec_l5NotNegative a3).bind fun v2 =>
bif v2 then
((m_spec_l5Gives a0 a1 a2 a3 a1).bind fun v3 =>
some v3)
else
(some false))
else
(some false))
else
(some false)
theorem W127 (a0 : List (List Int)) (a1 : List Int) (a2 a3 : List Q) (r : Bool) (h : m_spec_IsFeasible a0 a1 a2 a3 = some r) : AM.Spec Tryz.prog 99 [.agg [.list (.intss a0),.list (.ints a1),.list (.rats a2)],.list (.rats a3)] [] (.bool r) [] := by
 refine spec_of (E := E406) Tryz.func99 rfl rfl rfl rfl ?_
 refine Tri.f 1 [] [.keep [1,2] [2]] rfl trivial ?_
 obtain ⟨v1,hk1,h⟩ := bind_some h
 rcases bif_some h with ⟨hd2,h⟩ | ⟨hd2,h⟩
 ·rcases bif_some h with ⟨hd3,h⟩ | ⟨hd3,h⟩
  ·obtain ⟨v2,hk4,h⟩ := bind_some h
   rcases bif_some h with ⟨hd5,h⟩ | ⟨hd5,h⟩
   ·obtain ⟨v3,hk6,h⟩ := bind_some h
    refine Tri.f 1 [.v (.bool v1),.g true,.g true,.v (.bool v2),.g true,.v (.bool v3)] [.keep [4] []] rfl ⟨fun _ => W126 a0 a1 a2 a3 a1 v3 hk6,hd5,fun _ => W122 a3 v2 hk4,hd3,hd2,fun _ => W96 a0 a1 a2 v1 hk1,trivial⟩ ?_
    cases h
    exact Tri.ret rfl ⟨.inl rfl,rfl,rfl⟩
   ·refine Tri.f 1 [.v (.bool v1),.g true,.g true,.v (.bool v2),.g false] [.keep [4] []] rfl ⟨hd5,fun _ => W122 a3 v2 hk4,hd3,hd2,fun _ => W96 a0 a1 a2 v1 hk1,trivial⟩ ?_
    cases h
    exact Tri.ret rfl ⟨.inl rfl,rfl,rfl⟩
  ·refine Tri.f 1 [.v (.bool v1),.g true,.g false,.g false] [.keep [4] []] rfl ⟨rfl,hd3,hd2,fun _ => W96 a0 a1 a2 v1 hk1,trivial⟩ ?_
   cases h
   exact Tri.ret rfl ⟨.inl rfl,rfl,rfl⟩
 ·refine Tri.f 1 [.v (.bool v1),.g false,.g false,.g false] [.keep [4] []] rfl ⟨rfl,rfl,hd2,fun _ => W96 a0 a1 a2 v1 hk1,trivial⟩ ?_
  cases h
  exact Tri.ret rfl ⟨.inl rfl,rfl,rfl⟩
noncomputable def E407 : Env := ⟨Tryz.prog,tys,(Tryz.f172.body).getD .skip,40,tysOk,mixedOk⟩
abbrev K270 (r : List Int) (σ' : ASt) : Prop := isRes E407.T Tryz.f172 (.sl 1000 0) [(1000,.arr 3 0 0 (.ints r))] σ'
noncomputable def l_spec_ColumnOf_0 (a0 : List (List Int)) (a3 : Int) : (Int × (List Int)) → Option ((Int × (List Int)) ⊕ ((List Int)))
 | (v3,v4) => (
bif decide (v3 < (a0.length : Int)) then
(grd (0 ≤ v3 ∧ v3 < (a0.length : Int)) <|
grd (0 ≤ a3 ∧ a3 < ((a0.getD v3.toNat []).length : Int)) <|
grd (v4.length + ([(a0.getD v3.toNat []).getD a3.toNat 0] : List Int).length ≤ room) <|
some (.inl (IntKind.i64.wrap (v3 + 1),v4 ++ [(a0.getD v3.toNat []).getD a3.toNat 0])))
else
(some (.inr v4)))
noncomputable def m_spec_ColumnOf (a0 : List (List Int)) (a1 : List Int) (a2 : List Q) (a3 : Int) : Option (List Int) :=
(m_spec_IsValidLP a0 a1 a2).bind fun v1 =>
bif !v1 then
(some [])
else
((m_spec_l1In a3 (0 : Int) (IntKind.i64.wrap ((a2.length : Int) - 1))).bind fun v2 =>
bif !v2 then
(some [])
else
((iter (l_spec_ColumnOf_0 a0 a3) ((0 : Int),[])).bind fun
| v5 => (
some v5)))
theorem W128 (a0 : List (List Int)) (a1 : List Int) (a2 : List Q) (a3 : Int) (r : List Int) (h : m_spec_ColumnOf a0 a1 a2 a3 = some r) : AM.Spec Tryz.prog 172 [.agg [.list (.intss a0),.list (.ints a1),.list (.rats a2)],.i a3] [] (.sl 1000 0) [(1000,.arr 3 0 0 (.ints r))] := by
 refine spec_of (E := E407) Tryz.func172 rfl rfl rfl rfl ?_
 refine Tri.f 2 [] [.keep [1,2,5] [2,7]] rfl trivial ?_
 obtain ⟨v1,hk1,h⟩ := bind_some h
 rcases bif_some h with ⟨hd2,h⟩ | ⟨hd2,h⟩
 ·refine Tri.f 1 [.v (.bool v1),.g true] [.keep [1,2,5,19] [2,7]] rfl ⟨hd2,fun _ => W96 a0 a1 a2 v1 hk1,trivial⟩ ?_
  refine Tri.f 2 [.g true] [.swap 7 1000,.keep [4] [1000]] rfl ⟨rfl,trivial⟩ ?_
  cases h
  exact Tri.ret rfl ⟨.inl rfl,rfl,rfl⟩
 ·obtain ⟨v2,hk3,h⟩ := bind_some h
  refine Tri.f 1 [.v (.bool v1),.g false,.v (.bool v2)] [.keep [1,2,5,19] [2,7]] rfl ⟨fun _ => W4 a3 (0 : Int) (IntKind.i64.wrap ((a2.length : Int) - 1)) v2 hk3,hd2,fun _ => W96 a0 a1 a2 v1 hk1,trivial⟩ ?_
  rcases bif_some h with ⟨hd4,h⟩ | ⟨hd4,h⟩
  ·refine Tri.f 2 [.g true] [.swap 7 1000,.keep [4] [1000]] rfl ⟨hd4,trivial⟩ ?_
   cases h
   exact Tri.ret rfl ⟨.inl rfl,rfl,rfl⟩
  ·refine Tri.f 2 [.g false] [.keep [1,2,5,6] [2,7]] rfl ⟨hd4,trivial⟩ ?_
   obtain ⟨v5,hk9,h⟩ := bind_some h
   refine Tri.loop (K1 := [.code [(3,0),(1,0),(0,0)] 0]) (K2 := [.blk 0,.code [] 4]) (fun (v3,v4) => ⟨[(1,.i a3),(2,.ptr 2 0),(5,.sl 7 0),(6,.i v3)],[(2,.box [.list (.intss a0),.list (.ints a1),.list (.rats a2)]),(7,.arr 3 0 0 (.ints v4))]⟩) (fun x e σ' => match x with | v5 => e = .exit 0 ∧ σ' = ⟨[(5,.sl 7 0)],[(7,.arr 3 0 0 (.ints v5))]⟩) hk9 rfl rfl ?_ ?_
   ·intro s x hs
    clear h
    have h := hs
    clear hs
    obtain ⟨v3,v4⟩ := s
    refine Tri.f 1 [] [.keep [1,2,5,6,25] [2,7]] rfl trivial ?_
    rcases bif_some h with ⟨hd5,h⟩ | ⟨hd5,h⟩
    ·obtain ⟨hg6,h⟩ := grd_some h
     obtain ⟨hg7,h⟩ := grd_some h
     obtain ⟨hg8,h⟩ := grd_some h
     refine Tri.f 3 [.g true] [.rever 7,.keep [1,2,5,6] [2,7]] rfl ⟨hg8,hg7,hg6,hd5,trivial⟩ ?_
     cases h
     exact Tri.nil ⟨rfl,rfl⟩
    ·refine Tri.f 1 [.g false] [.keep [5] [7]] rfl ⟨hd5,trivial⟩ ?_
     cases h
     exact Tri.out 0 rfl ⟨nofun,rfl,rfl⟩
   ·intro e σ' hne hq
    obtain ⟨rfl,rfl⟩ := hq
    refine TriX.exit (K' := [.code [] 4]) rfl ?_
    refine Tri.f 1 [] [.swap 7 1000,.keep [4] [1000]] rfl trivial ?_
    cases h
    exact Tri.ret rfl ⟨.inl rfl,rfl,rfl⟩
noncomputable def E408 : Env := ⟨Tryz.prog,tys,(Tryz.f96.body).getD .skip,36,tysOk,mixedOk⟩
abbrev K271 (r : Bool) (σ' : ASt) : Prop := isRes E408.T Tryz.f96 (.bool r) [] σ'
noncomputable def l_spec_l5Dual_0 (a0 : List (List Int)) (a1 : List Int) (a2 a3 a4 : List Q) (v1 : Int) : Option (Int ⊕ (Unit ⊕ Bool)) :=
bif decide (v1 < (a2.length : Int)) then
((m_spec_ColumnOf a0 a1 a2 v1).bind fun v2 =>
(m_spec_l5Dot v2 a3).bind fun (v3,v4,v5) =>
bif !v5 then
(some (.inr (.inr false)))
else
(grd (0 ≤ v1 ∧ v1 < (a4.length : Int)) <|
(m_spec_CompareRat ((a4.getD v1.toNat ⟨0,0⟩).num) ((a4.getD v1.toNat ⟨0,0⟩).den) v3 v4).bind fun v6 =>
bif decide (v6 < 0) then
(some (.inr (.inr false)))
else
(some (.inl (IntKind.i64.wrap (v1 + 1))))))
else
(some (.inr (.inl ())))
noncomputable def m_spec_l5Dual (a0 : List (List Int)) (a1 : List Int) (a2 a3 a4 : List Q) : Option Bool :=
(iter (l_spec_l5Dual_0 a0 a1 a2 a3 a4) (0 : Int)).bind fun
| (.inl _) => (
some true)
| (.inr r) => some r
theorem W129 (a0 : List (List Int)) (a1 : List Int) (a2 a3 a4 : List Q) (r : Bool) (h : m_spec_l5Dual a0 a1 a2 a3 a4 = some r) : AM.Spec Tryz.prog 96 [.agg [.list (.intss a0),.list (.ints a1),.list (.rats a2)],.list (.rats a3),.list (.rats a4)] [] (.bool r) [] := by
 refine spec_of (E := E408) Tryz.func96 rfl rfl rfl rfl ?_
 refine Tri.f 2 [] [.keep [1,2,3,7] [3]] rfl trivial ?_
 obtain ⟨x1,hk8,h⟩ := bind_some h
 refine Tri.loop (K1 := [.code [(1,0),(1,0),(0,0)] 0]) (K2 := [.blk 0,.code [] 2]) (fun v1 => ⟨[(1,.list (.rats a3)),(2,.list (.rats a4)),(3,.ptr 3 0),(7,.i v1)],[(3,.box [.list (.intss a0),.list (.ints a1),.list (.rats a2)])]⟩) (fun x e σ' => match x with | (.inl _) => e = .exit 0 ∧ σ' = ⟨[],[]⟩ | (.inr r) => e = .ret ∧ K271 r σ') hk8 rfl rfl ?_ ?_
 ·intro v1 x hs
  clear h
  have h := hs
  clear hs
  refine Tri.f 1 [] [.keep [1,2,3,7,14] [3]] rfl trivial ?_
  rcases bif_some h with ⟨hd1,h⟩ | ⟨hd1,h⟩
  ·obtain ⟨v2,hk2,h⟩ := bind_some h
   obtain ⟨⟨v3,v4,v5⟩,hk3,h⟩ := bind_some h
   refine Tri.f 2 [.g true,.r ⟨[],.sl 1100 0,[(1100,.arr 3 0 0 (.ints v2))]⟩,.v (.tuple [.agg [.i v3,.i v4],.bool v5])] [.keep [1,2,3,7,8,9] [3,8]] rfl ⟨fun _ => W125 v2 a3 (v3,v4,v5) hk3,fun _ => (W128 a0 a1 a2 v1 v2 hk2).swap 1000 1100,hd1,trivial⟩ ?_
   rcases bif_some h with ⟨hd4,h⟩ | ⟨hd4,h⟩
   ·refine Tri.f 1 [.g true] [.keep [1,2,3,7,35] [3]] rfl ⟨hd4,trivial⟩ ?_
    refine Tri.f 2 [.g true] [.keep [6] []] rfl ⟨rfl,trivial⟩ ?_
    cases h
    exact Tri.ret rfl ⟨nofun,rfl,rfl,rfl⟩
   ·obtain ⟨hg5,h⟩ := grd_some h
    obtain ⟨v6,hk6,h⟩ := bind_some h
    refine Tri.f 1 [.g false,.v (.i v6)] [.keep [1,2,3,7,35] [3]] rfl ⟨fun _ => W105 ((a4.getD v1.toNat ⟨0,0⟩).num) ((a4.getD v1.toNat ⟨0,0⟩).den) v3 v4 v6 hk6,hg5,hd4,trivial⟩ ?_
    rcases bif_some h with ⟨hd7,h⟩ | ⟨hd7,h⟩
    ·refine Tri.f 2 [.g true] [.keep [6] []] rfl ⟨hd7,trivial⟩ ?_
     cases h
     exact Tri.ret rfl ⟨nofun,rfl,rfl,rfl⟩
    ·refine Tri.f 2 [.g false] [.keep [1,2,3,7] [3]] rfl ⟨hd7,trivial⟩ ?_
     cases h
     exact Tri.nil ⟨rfl,rfl⟩
  ·refine Tri.f 1 [.g false] [.keep [] []] rfl ⟨hd1,trivial⟩ ?_
   cases h
   exact Tri.out 0 rfl ⟨nofun,rfl,rfl⟩
 ·intro e σ' hne hq
  rcases x1 with _ | r
  ·obtain ⟨rfl,rfl⟩ := hq
   refine TriX.exit (K' := [.code [] 2]) rfl ?_
   refine Tri.f 1 [] [.keep [6] []] rfl trivial ?_
   cases h
   exact Tri.ret rfl ⟨.inl rfl,rfl,rfl⟩
  ·obtain ⟨rfl,hq⟩ := hq
   cases h
   exact TriX.ret ⟨.inl rfl,hq⟩
noncomputable def E409 : Env := ⟨Tryz.prog,tys,(Tryz.f94.body).getD .skip,63,tysOk,mixedOk⟩
abbrev K272 (r : Bool) (σ' : ASt) : Prop := isRes E409.T Tryz.f94 (.bool r) [] σ'
noncomputable def m_spec_l5Optimal (a0 : List (List Int)) (a1 : List Int) (a2 : List Q) (_a3 : Int) (a4 a5 _a6 : List Q) (a7 a8 _a9 : Int) : Option Bool :=
(m_spec_IsFeasible a0 a1 a2 a4).bind fun v1 =>
bif !v1 then
(some false)
else
(bif (a5.length : Int) != (a1.length : Int) then
(some false)
else
((m_spec_l5Dual a0 a1 a2 a5 a2).bind fun v2 =>
bif !v2 then
(some false)
else
((m_spec_DotRat a2 a4).bind fun (v3,v4,v5) =>
(m_spec_l5Dot a1 a5).bind fun (v6,v7,v8) =>
bif v5 then
(bif v8 then
(bif v3 == v6 && v4 == v7 then
(some (v3 == a7 && v4 == a8))
else
(some false))
else
(some false))
else
(some false))))
theorem W130 (a0 : List (List Int)) (a1 : List Int) (a2 : List Q) (a3 : Int) (a4 a5 a6 : List Q) (a7 a8 a9 : Int) (r : Bool) (h : m_spec_l5Optimal a0 a1 a2 a3 a4 a5 a6 a7 a8 a9 = some r) : AM.Spec Tryz.prog 94 [.agg [.list (.intss a0),.list (.ints a1),.list (.rats a2)],.agg [.i a3,.list (.rats a4),.list (.rats a5),.list (.rats a6),.i a7,.i a8,.i a9]] [] (.bool r) [] := by
 refine spec_of (E := E409) Tryz.func94 rfl rfl rfl rfl ?_
 refine Tri.f 1 [] [.keep [2,3] [2,3]] rfl trivial ?_
 obtain ⟨v1,hk1,h⟩ := bind_some h
 rcases bif_some h with ⟨hd2,h⟩ | ⟨hd2,h⟩
 ·refine Tri.f 1 [.v (.bool v1),.g true,.g true] [.keep [2,3,31] [2,3]] rfl ⟨rfl,hd2,fun _ => W127 a0 a1 a2 a4 v1 hk1,trivial⟩ ?_
  refine Tri.f 2 [.g true] [.keep [4] []] rfl ⟨rfl,trivial⟩ ?_
  cases h
  exact Tri.ret rfl ⟨.inl rfl,rfl,rfl⟩
 ·rcases bif_some h with ⟨hd3,h⟩ | ⟨hd3,h⟩
  ·refine Tri.f 1 [.v (.bool v1),.g false,.g true] [.keep [2,3,31] [2,3]] rfl ⟨hd3,hd2,fun _ => W127 a0 a1 a2 a4 v1 hk1,trivial⟩ ?_
   refine Tri.f 2 [.g true] [.keep [4] []] rfl ⟨rfl,trivial⟩ ?_
   cases h
   exact Tri.ret rfl ⟨.inl rfl,rfl,rfl⟩
  ·obtain ⟨v2,hk4,h⟩ := bind_some h
   refine Tri.f 1 [.v (.bool v1),.g false,.g false,.v (.bool v2)] [.keep [2,3,31] [2,3]] rfl ⟨fun _ => W129 a0 a1 a2 a5 a2 v2 hk4,hd3,hd2,fun _ => W127 a0 a1 a2 a4 v1 hk1,trivial⟩ ?_
   rcases bif_some h with ⟨hd5,h⟩ | ⟨hd5,h⟩
   ·refine Tri.f 2 [.g true] [.keep [4] []] rfl ⟨hd5,trivial⟩ ?_
    cases h
    exact Tri.ret rfl ⟨.inl rfl,rfl,rfl⟩
   ·obtain ⟨⟨v3,v4,v5⟩,hk6,h⟩ := bind_some h
    refine Tri.f 2 [.g false,.v (.tuple [.agg [.i v3,.i v4],.bool v5])] [.keep [2,3,5,6] [2,3,5]] rfl ⟨fun _ => W124 a2 a4 (v3,v4,v5) hk6,hd5,trivial⟩ ?_
    obtain ⟨⟨v6,v7,v8⟩,hk7,h⟩ := bind_some h
    rcases bif_some h with ⟨hd8,h⟩ | ⟨hd8,h⟩
    ·rcases bif_some h with ⟨hd9,h⟩ | ⟨hd9,h⟩
     ·rcases bif_some h with ⟨hd10,h⟩ | ⟨hd10,h⟩
      ·refine Tri.f 2 [.v (.tuple [.agg [.i v6,.i v7],.bool v8]),.g true,.g true,.g true] [.keep [4] []] rfl ⟨hd10,hd9,hd8,fun _ => W125 a1 a5 (v6,v7,v8) hk7,trivial⟩ ?_
       cases h
       exact Tri.ret rfl ⟨.inl rfl,rfl,rfl⟩
      ·refine Tri.f 2 [.v (.tuple [.agg [.i v6,.i v7],.bool v8]),.g true,.g true,.g false] [.keep [4] []] rfl ⟨hd10,hd9,hd8,fun _ => W125 a1 a5 (v6,v7,v8) hk7,trivial⟩ ?_
       cases h
       exact Tri.ret rfl ⟨.inl rfl,rfl,rfl⟩
     ·refine Tri.f 2 [.v (.tuple [.agg [.i v6,.i v7],.bool v8]),.g true,.g false,.g false] [.keep [4] []] rfl ⟨rfl,hd9,hd8,fun _ => W125 a1 a5 (v6,v7,v8) hk7,trivial⟩ ?_
      cases h
      exact Tri.ret rfl ⟨.inl rfl,rfl,rfl⟩
    ·refine Tri.f 2 [.v (.tuple [.agg [.i v6,.i v7],.bool v8]),.g false,.g false,.g false] [.keep [4] []] rfl ⟨rfl,rfl,hd8,fun _ => W125 a1 a5 (v6,v7,v8) hk7,trivial⟩ ?_
     cases h
     exact Tri.ret rfl ⟨.inl rfl,rfl,rfl⟩
noncomputable def E410 : Env := ⟨Tryz.prog,tys,(Tryz.f97.body).getD .skip,16,tysOk,mixedOk⟩
abbrev K273 (r : List Q) (σ' : ASt) : Prop := isRes E410.T Tryz.f97 (.sl 1000 0) [(1000,.arr 31 0 0 (.rats r))] σ'
noncomputable def l_spec_l5Zeros_0 (a0 : Int) : (Int × (List Q)) → Option ((Int × (List Q)) ⊕ ((List Q)))
 | (v1,v2) => (
bif decide (v1 < a0) then
((m_spec_l3Int (0 : Int)).bind fun (v3,v4) =>
grd (v2.length + ([⟨v3,v4⟩] : List Q).length ≤ room) <|
some (.inl (IntKind.i64.wrap (v1 + 1),v2 ++ [⟨v3,v4⟩])))
else
(some (.inr v2)))
noncomputable def m_spec_l5Zeros (a0 : Int) : Option (List Q) :=
(iter (l_spec_l5Zeros_0 a0) ((0 : Int),[])).bind fun
| v5 => (
some v5)
theorem W131 (a0 : Int) (r : List Q) (h : m_spec_l5Zeros a0 = some r) : AM.Spec Tryz.prog 97 [.i a0] [] (.sl 1000 0) [(1000,.arr 31 0 0 (.rats r))] := by
 refine spec_of (E := E410) Tryz.func97 rfl rfl rfl rfl ?_
 refine Tri.f 3 [] [.keep [0,3,4] [5]] rfl trivial ?_
 obtain ⟨v5,hk4,h⟩ := bind_some h
 refine Tri.loop (K1 := [.code [(2,0),(1,0),(0,0)] 0]) (K2 := [.blk 0,.code [] 3]) (fun (v1,v2) => ⟨[(0,.i a0),(3,.sl 5 0),(4,.i v1)],[(5,.arr 31 0 0 (.rats v2))]⟩) (fun x e σ' => match x with | v5 => e = .exit 0 ∧ σ' = ⟨[(3,.sl 5 0)],[(5,.arr 31 0 0 (.rats v5))]⟩) hk4 rfl rfl ?_ ?_
 ·intro s x hs
  clear h
  have h := hs
  clear hs
  obtain ⟨v1,v2⟩ := s
  refine Tri.f 1 [] [.keep [0,3,4,8] [5]] rfl trivial ?_
  rcases bif_some h with ⟨hd1,h⟩ | ⟨hd1,h⟩
  ·obtain ⟨⟨v3,v4⟩,hk2,h⟩ := bind_some h
   obtain ⟨hg3,h⟩ := grd_some h
   refine Tri.f 3 [.g true,.v (.agg [.i v3,.i v4])] [.rever 5,.keep [0,3,4] [5]] rfl ⟨hg3,fun _ => W17 (0 : Int) (v3,v4) hk2,hd1,trivial⟩ ?_
   cases h
   exact Tri.nil ⟨rfl,rfl⟩
  ·refine Tri.f 1 [.g false] [.keep [3] [5]] rfl ⟨hd1,trivial⟩ ?_
   cases h
   exact Tri.out 0 rfl ⟨nofun,rfl,rfl⟩
 ·intro e σ' hne hq
  obtain ⟨rfl,rfl⟩ := hq
  refine TriX.exit (K' := [.code [] 3]) rfl ?_
  refine Tri.f 1 [] [.swap 5 1000,.keep [2] [1000]] rfl trivial ?_
  cases h
  exact Tri.ret rfl ⟨.inl rfl,rfl,rfl⟩
noncomputable def E411 : Env := ⟨Tryz.prog,tys,(Tryz.f22.body).getD .skip,100,tysOk,mixedOk⟩
abbrev K274 (r : Bool) (σ' : ASt) : Prop := isRes E411.T Tryz.f22 (.bool r) [] σ'
noncomputable def m_spec_CheckLP (a0 : List (List Int)) (a1 : List Int) (a2 : List Q) (a3 : Int) (a4 a5 a6 : List Q) (a7 a8 a9 : Int) : Option Bool :=
(m_spec_IsValidLP a0 a1 a2).bind fun v1 =>
bif !v1 then
(some false)
else
(bif a3 == 1 then
((m_spec_l5Optimal a0 a1 a2 a3 a4 a5 a6 a7 a8 a9).bind fun v2 =>
some v2)
else
(bif a3 == 2 then
((m_spec_l5Dot a1 a5).bind fun (v3,_,v5) =>
bif (a5.length : Int) == (a1.length : Int) then
((m_spec_l5Zeros (a2.length : Int)).bind fun v6 =>
(m_spec_l5Dual a0 a1 a2 a5 v6).bind fun v7 =>
bif v7 then
(bif v5 then
(some (decide (v3 > 0)))
else
(some false))
else
(some false))
else
(some false))
else
(bif a3 == 3 then
((m_spec_DotRat a2 a6).bind fun (v8,_,v10) =>
(m_spec_IsFeasible a0 a1 a2 a4).bind fun v11 =>
bif v11 then
(bif (a6.length : Int) == (a2.length : Int) then
((m_spec_l5NotNegative a6).bind fun v12 =>
bif v12 then
(grd ((0 : Int) ≤ (a1.length : Int) ∧ (a1.length : Int) = (a1.length : Int) ∧ (a1.length : Int) ≤ (room : Int)) <|
(m_spec_l5Gives a0 a1 a2 a6 (List.replicate (a1.length : Int).toNat (0 : Int))).bind fun v13 =>
bif v13 then
(bif v10 then
(some (decide (v8 < 0)))
else
(some false))
else
(some false))
else
(some false))
else
(some false))
else
(some false))
else
(some false))))
theorem W132 (a0 : List (List Int)) (a1 : List Int) (a2 : List Q) (a3 : Int) (a4 a5 a6 : List Q) (a7 a8 a9 : Int) (r : Bool) (h : m_spec_CheckLP a0 a1 a2 a3 a4 a5 a6 a7 a8 a9 = some r) : AM.Spec Tryz.prog 22 [.agg [.list (.intss a0),.list (.ints a1),.list (.rats a2)],.agg [.i a3,.list (.rats a4),.list (.rats a5),.list (.rats a6),.i a7,.i a8,.i a9]] [] (.bool r) [] := by
 refine spec_of (E := E411) Tryz.func22 rfl rfl rfl rfl ?_
 refine Tri.f 1 [] [.keep [2,3] [2,3]] rfl trivial ?_
 obtain ⟨v1,hk1,h⟩ := bind_some h
 refine Tri.f 1 [.v (.bool v1)] [.keep [2,3,11] [2,3]] rfl ⟨fun _ => W96 a0 a1 a2 v1 hk1,trivial⟩ ?_
 rcases bif_some h with ⟨hd2,h⟩ | ⟨hd2,h⟩
 ·refine Tri.f 2 [.g true] [.keep [4] []] rfl ⟨hd2,trivial⟩ ?_
  cases h
  exact Tri.ret rfl ⟨.inl rfl,rfl,rfl⟩
 ·refine Tri.f 3 [.g false] [.keep [2,3,13,14] [2,3]] rfl ⟨hd2,trivial⟩ ?_
  rcases bif_some h with ⟨hd3,h⟩ | ⟨hd3,h⟩
  ·obtain ⟨v2,hk4,h⟩ := bind_some h
   refine Tri.f 2 [.g true,.v (.bool v2)] [.keep [4] []] rfl ⟨fun _ => W130 a0 a1 a2 a3 a4 a5 a6 a7 a8 a9 v2 hk4,hd3,trivial⟩ ?_
   cases h
   exact Tri.ret rfl ⟨.inl rfl,rfl,rfl⟩
  ·refine Tri.f 2 [.g false] [.keep [2,3,13,19] [2,3]] rfl ⟨hd3,trivial⟩ ?_
   rcases bif_some h with ⟨hd5,h⟩ | ⟨hd5,h⟩
   ·obtain ⟨⟨v3,v4,v5⟩,hk6,h⟩ := bind_some h
    refine Tri.f 2 [.g true,.v (.tuple [.agg [.i v3,.i v4],.bool v5])] [.keep [2,3,5,6] [2,3,5]] rfl ⟨fun _ => W125 a1 a5 (v3,v4,v5) hk6,hd5,trivial⟩ ?_
    rcases bif_some h with ⟨hd7,h⟩ | ⟨hd7,h⟩
    ·obtain ⟨v6,hk8,h⟩ := bind_some h
     obtain ⟨v7,hk9,h⟩ := bind_some h
     rcases bif_some h with ⟨hd10,h⟩ | ⟨hd10,h⟩
     ·rcases bif_some h with ⟨hd11,h⟩ | ⟨hd11,h⟩
      ·refine Tri.f 1 [.g true,.r ⟨[],.sl 1100 0,[(1100,.arr 31 0 0 (.rats v6))]⟩,.v (.bool v7),.g true,.g true] [.keep [4] []] rfl ⟨hd11,hd10,fun _ => W129 a0 a1 a2 a5 v6 v7 hk9,fun _ => (W131 (a2.length : Int) v6 hk8).swap 1000 1100,hd7,trivial⟩ ?_
       cases h
       exact Tri.ret rfl ⟨.inl rfl,rfl,rfl⟩
      ·refine Tri.f 1 [.g true,.r ⟨[],.sl 1100 0,[(1100,.arr 31 0 0 (.rats v6))]⟩,.v (.bool v7),.g true,.g false] [.keep [4] []] rfl ⟨hd11,hd10,fun _ => W129 a0 a1 a2 a5 v6 v7 hk9,fun _ => (W131 (a2.length : Int) v6 hk8).swap 1000 1100,hd7,trivial⟩ ?_
       cases h
       exact Tri.ret rfl ⟨.inl rfl,rfl,rfl⟩
     ·refine Tri.f 1 [.g true,.r ⟨[],.sl 1100 0,[(1100,.arr 31 0 0 (.rats v6))]⟩,.v (.bool v7),.g false,.g false] [.keep [4] []] rfl ⟨rfl,hd10,fun _ => W129 a0 a1 a2 a5 v6 v7 hk9,fun _ => (W131 (a2.length : Int) v6 hk8).swap 1000 1100,hd7,trivial⟩ ?_
      cases h
      exact Tri.ret rfl ⟨.inl rfl,rfl,rfl⟩
    ·refine Tri.f 1 [.g false,.g false,.g false] [.keep [4] []] rfl ⟨rfl,rfl,hd7,trivial⟩ ?_
     cases h
     exact Tri.ret rfl ⟨.inl rfl,rfl,rfl⟩
   ·refine Tri.f 2 [.g false] [.keep [2,3,54] [2,3]] rfl ⟨hd5,trivial⟩ ?_
    rcases bif_some h with ⟨hd12,h⟩ | ⟨hd12,h⟩
    ·obtain ⟨⟨v8,v9,v10⟩,hk13,h⟩ := bind_some h
     refine Tri.f 2 [.g true,.v (.tuple [.agg [.i v8,.i v9],.bool v10])] [.keep [2,3,7,8] [2,3,7]] rfl ⟨fun _ => W124 a2 a6 (v8,v9,v10) hk13,hd12,trivial⟩ ?_
     obtain ⟨v11,hk14,h⟩ := bind_some h
     rcases bif_some h with ⟨hd15,h⟩ | ⟨hd15,h⟩
     ·rcases bif_some h with ⟨hd16,h⟩ | ⟨hd16,h⟩
      ·obtain ⟨v12,hk17,h⟩ := bind_some h
       rcases bif_some h with ⟨hd18,h⟩ | ⟨hd18,h⟩
       ·obtain ⟨hg19,h⟩ := grd_some h
        obtain ⟨v13,hk20,h⟩ := bind_some h
        rcases bif_some h with ⟨hd21,h⟩ | ⟨hd21,h⟩
        ·rcases bif_some h with ⟨hd22,h⟩ | ⟨hd22,h⟩
         ·refine Tri.f 1 [.v (.bool v11),.g true,.g true,.v (.bool v12),.g true,.v (.bool v13),.g true,.g true] [.keep [4] []] rfl ⟨hd22,hd21,fun _ => W126 a0 a1 a2 a6 (List.replicate (a1.length : Int).toNat (0 : Int)) v13 hk20,hg19,hd18,fun _ => W122 a6 v12 hk17,hd16,hd15,fun _ => W127 a0 a1 a2 a4 v11 hk14,trivial⟩ ?_
          cases h
          exact Tri.ret rfl ⟨.inl rfl,rfl,rfl⟩
         ·refine Tri.f 1 [.v (.bool v11),.g true,.g true,.v (.bool v12),.g true,.v (.bool v13),.g true,.g false] [.keep [4] []] rfl ⟨hd22,hd21,fun _ => W126 a0 a1 a2 a6 (List.replicate (a1.length : Int).toNat (0 : Int)) v13 hk20,hg19,hd18,fun _ => W122 a6 v12 hk17,hd16,hd15,fun _ => W127 a0 a1 a2 a4 v11 hk14,trivial⟩ ?_
          cases h
          exact Tri.ret rfl ⟨.inl rfl,rfl,rfl⟩
        ·refine Tri.f 1 [.v (.bool v11),.g true,.g true,.v (.bool v12),.g true,.v (.bool v13),.g false,.g false] [.keep [4] []] rfl ⟨rfl,hd21,fun _ => W126 a0 a1 a2 a6 (List.replicate (a1.length : Int).toNat (0 : Int)) v13 hk20,hg19,hd18,fun _ => W122 a6 v12 hk17,hd16,hd15,fun _ => W127 a0 a1 a2 a4 v11 hk14,trivial⟩ ?_
         cases h
         exact Tri.ret rfl ⟨.inl rfl,rfl,rfl⟩
       ·refine Tri.f 1 [.v (.bool v11),.g true,.g true,.v (.bool v12),.g false,.g false,.g false] [.keep [4] []] rfl ⟨rfl,rfl,hd18,fun _ => W122 a6 v12 hk17,hd16,hd15,fun _ => W127 a0 a1 a2 a4 v11 hk14,trivial⟩ ?_
        cases h
        exact Tri.ret rfl ⟨.inl rfl,rfl,rfl⟩
      ·refine Tri.f 1 [.v (.bool v11),.g true,.g false,.g false,.g false,.g false] [.keep [4] []] rfl ⟨rfl,rfl,rfl,hd16,hd15,fun _ => W127 a0 a1 a2 a4 v11 hk14,trivial⟩ ?_
       cases h
       exact Tri.ret rfl ⟨.inl rfl,rfl,rfl⟩
     ·refine Tri.f 1 [.v (.bool v11),.g false,.g false,.g false,.g false,.g false] [.keep [4] []] rfl ⟨rfl,rfl,rfl,rfl,hd15,fun _ => W127 a0 a1 a2 a4 v11 hk14,trivial⟩ ?_
      cases h
      exact Tri.ret rfl ⟨.inl rfl,rfl,rfl⟩
    ·refine Tri.f 2 [.g false] [.keep [4] []] rfl ⟨hd12,trivial⟩ ?_
     cases h
     exact Tri.ret rfl ⟨.inl rfl,rfl,rfl⟩
noncomputable def E412 : Env := ⟨Tryz.prog,tys,(Tryz.f13.body).getD .skip,37,tysOk,mixedOk⟩
abbrev K275 (r : Int × Int × Int × Int × (List Q) × (List Q) × (List Q)) (σ' : ASt) : Prop := isRes E412.T Tryz.f13 (.agg [.i r.1,.sl 1000 0,.sl 1001 0,.sl 1002 0,.i r.2.1,.i r.2.2.1,.i r.2.2.2.1]) [(1000,.arr 31 0 0 (.rats r.2.2.2.2.1)),(1001,.arr 31 0 0 (.rats r.2.2.2.2.2.1)),(1002,.arr 31 0 0 (.rats r.2.2.2.2.2.2))] σ'
noncomputable def m_spec_SolveLP (a0 : List (List Int)) (a1 : List Int) (a2 : List Q) : Option (Int × Int × Int × Int × (List Q) × (List Q) × (List Q)) :=
(m_spec_IsValidLP a0 a1 a2).bind fun v1 =>
bif !v1 then
(some (0,0,0,0,[],[],[]))
else
((m_spec_StartTableau a0 a1 a2).bind fun (v2,v3,v4) =>
(m_spec_l7Solve_io3 a0 a1 a2 v3 v4 v2 0 false).bind fun (v5,v6,v7,_,v9,v10,v11,_,_,_,v15,v16) =>
bif v16 then
(some ((4 : Int),0,0,0,[],[],[]))
else
((m_spec_CheckLP a0 a1 a2 v5 v9 v10 v11 v6 v7 v15).bind fun v17 =>
bif !v17 then
(some ((4 : Int),0,0,0,[],[],[]))
else
((m_spec_l4Copy v9).bind fun v18 =>
some (v5,v6,v7,v15,v18,v10,v11))))
theorem W133 (a0 : List (List Int)) (a1 : List Int) (a2 : List Q) (r : Int × Int × Int × Int × (List Q) × (List Q) × (List Q)) (h : m_spec_SolveLP a0 a1 a2 = some r) : AM.Spec Tryz.prog 13 [.agg [.list (.intss a0),.list (.ints a1),.list (.rats a2)]] [] (.agg [.i r.1,.sl 1000 0,.sl 1001 0,.sl 1002 0,.i r.2.1,.i r.2.2.1,.i r.2.2.2.1]) [(1000,.arr 31 0 0 (.rats r.2.2.2.2.1)),(1001,.arr 31 0 0 (.rats r.2.2.2.2.2.1)),(1002,.arr 31 0 0 (.rats r.2.2.2.2.2.2))] := by
 refine spec_of (E := E412) Tryz.func13 rfl rfl rfl rfl ?_
 refine Tri.f 1 [] [.keep [1,2] [1,2],.ownc 2 1 1100 31,.ownc 2 2 1101 31,.ownc 2 3 1102 31,.keep [1,2] [1,2,1100,1101,1102]] rfl trivial ?_
 obtain ⟨v1,hk1,h⟩ := bind_some h
 refine Tri.f 1 [.v (.bool v1)] [.keep [1,2,7] [1,2,1100,1101,1102]] rfl ⟨fun _ => W96 a0 a1 a2 v1 hk1,trivial⟩ ?_
 rcases bif_some h with ⟨hd2,h⟩ | ⟨hd2,h⟩
 ·refine Tri.f 2 [.g true] [.ownc 2 1 1103 31,.ownc 2 2 1104 31,.ownc 2 3 1105 31,.swap 1103 1000,.swap 1104 1001,.swap 1105 1002,.keep [2] [2,1000,1001,1002]] rfl ⟨hd2,trivial⟩ ?_
  cases h
  exact Tri.ret rfl ⟨.inl rfl,rfl,rfl⟩
 ·obtain ⟨⟨v2,v3,v4⟩,hk3,h⟩ := bind_some h
  refine Tri.f 2 [.g false,.r ⟨[],.agg [.sl 1106 0,.sl 1107 0,.i v2],[(1106,.arr 26 0 0 (.ratss v3)),(1107,.arr 3 0 0 (.ints v4))]⟩] [.keep [1,2,3] [1,2,13,1100,1101,1102,1106,1107]] rfl ⟨fun _ => ((W97 a0 a1 a2 (v2,v3,v4) hk3).swap 1000 1106).swap 1001 1107,hd2,trivial⟩ ?_
  obtain ⟨⟨v5,v6,v7,v8,v9,v10,v11,v12,v13,v14,v15,v16⟩,hk4,h⟩ := bind_some h
  refine Tri.f 2 [.r ⟨[13,1106,1107],.agg [.i v5,.sl 1108 0,.sl 1109 0,.sl 1110 0,.i v6,.i v7,.i v8],[(1108,.arr 31 0 0 (.rats v9)),(1109,.arr 31 0 0 (.rats v10)),(1110,.arr 31 0 0 (.rats v11)),(1111,.arr 26 0 0 (.ratss v12)),(1112,.arr 3 0 0 (.ints v13)),(13,.box [.undf,.undf,.undf,.sl 1111 0,.sl 1112 0,.i v14,.i v15,.bool v16])]⟩] [.keep [1,2,3,4] [1,2,4,13,1100,1101,1102,1108,1109,1110,1111,1112]] rfl ⟨(fun vf => (((((((((W121 (vf 13 0) (vf 13 1) (vf 13 2) a0 a1 a2 v3 v4 v2 0 false (v5,v6,v7,v8,v9,v10,v11,v12,v13,v14,v15,v16) hk4).swap 1000 1108).swap 1001 1109).swap 1002 1110).swap 1003 1111).swap 1004 1112).swap 2220 13).swap 2221 1106).swap 2222 1107)),trivial⟩ ?_
  rcases bif_some h with ⟨hd5,h⟩ | ⟨hd5,h⟩
  ·refine Tri.f 1 [.g true] [.keep [2,4,30] [2,4,1100,1101,1102,1108,1109,1110]] rfl ⟨hd5,trivial⟩ ?_
   refine Tri.f 2 [.g true] [.ownc 2 1 1113 31,.ownc 2 2 1114 31,.ownc 2 3 1115 31,.swap 1113 1000,.swap 1114 1001,.swap 1115 1002,.keep [2] [2,1000,1001,1002]] rfl ⟨rfl,trivial⟩ ?_
   cases h
   exact Tri.ret rfl ⟨.inl rfl,rfl,rfl⟩
  ·obtain ⟨v17,hk6,h⟩ := bind_some h
   refine Tri.f 1 [.g false,.v (.bool v17)] [.keep [2,4,30] [2,4,1100,1101,1102,1108,1109,1110]] rfl ⟨fun _ => W132 a0 a1 a2 v5 v9 v10 v11 v6 v7 v15 v17 hk6,hd5,trivial⟩ ?_
   rcases bif_some h with ⟨hd7,h⟩ | ⟨hd7,h⟩
   ·refine Tri.f 2 [.g true] [.ownc 2 1 1116 31,.ownc 2 2 1117 31,.ownc 2 3 1118 31,.swap 1116 1000,.swap 1117 1001,.swap 1118 1002,.keep [2] [2,1000,1001,1002]] rfl ⟨hd7,trivial⟩ ?_
    cases h
    exact Tri.ret rfl ⟨.inl rfl,rfl,rfl⟩
   ·obtain ⟨v18,hk8,h⟩ := bind_some h
    refine Tri.f 3 [.g false,.r ⟨[],.sl 1119 0,[(1119,.arr 31 0 0 (.rats v18))]⟩] [.swap 1119 1000,.swap 1109 1001,.swap 1110 1002,.keep [2] [2,1000,1001,1002]] rfl ⟨fun _ => (W100 v9 v18 hk8).swap 1000 1119,hd7,trivial⟩ ?_
    cases h
    exact Tri.ret rfl ⟨.inl rfl,rfl,rfl⟩
noncomputable def E413 : Env := ⟨Tryz.prog,tys,(Tryz.f25.body).getD .skip,87,tysOk,mixedOk⟩
abbrev K276 (r : Int × (List Q) × (List Q)) (σ' : ASt) : Prop := isRes E413.T Tryz.f25 (.agg [.i r.1,.sl 1000 0,.sl 1001 0]) [(1000,.arr 31 0 0 (.rats r.2.1)),(1001,.arr 31 0 0 (.rats r.2.2))] σ'
noncomputable def l_spec_FindCore_0 (v10 : List Q) : (Int × (List Q)) → Option ((Int × (List Q)) ⊕ ((List Q)))
 | (v18,v19) => (
bif decide (v18 < (v10.length : Int)) then
(grd (0 ≤ v18 ∧ v18 < (v10.length : Int)) <|
(m_spec_l7Negated ((v10.getD v18.toNat ⟨0,0⟩).num) ((v10.getD v18.toNat ⟨0,0⟩).den)).bind fun (v20,v21) =>
grd (v19.length + ([⟨v20,v21⟩] : List Q).length ≤ room) <|
some (.inl (IntKind.i64.wrap (v18 + 1),v19 ++ [⟨v20,v21⟩])))
else
(some (.inr v19)))
noncomputable def m_spec_FindCore (a0 : Int) (a1 : List Int) : Option (Int × (List Q) × (List Q)) :=
(m_spec_BalancedLP a0 a1).bind fun (v1,v2,v3,v4) =>
bif !v1 then
(some (0,[],[]))
else
((m_spec_SolveLP v2 v3 v4).bind fun (v5,v6,v7,_,v9,v10,_) =>
(m_spec_GrandValue a0 a1).bind fun v12 =>
(m_spec_l3Int v12).bind fun (v13,v14) =>
(m_spec_AddRat v13 v14 v6 v7).bind fun (v15,v16,v17) =>
bif v5 != 1 then
(some ((3 : Int),[],[]))
else
(bif !v17 then
(some ((3 : Int),[],[]))
else
(bif decide (v15 < 0) then
(some ((2 : Int),[],v9))
else
((iter (l_spec_FindCore_0 v10) ((0 : Int),[])).bind fun
| v22 => (
grd (0 ≤ IntKind.i64.wrap (a0 - 1) ∧ IntKind.i64.wrap (a0 - 1) < (v22.length : Int)) <|
(m_spec_AddRat ((v22.getD ((IntKind.i64.wrap (a0 - 1)).toNat) ⟨0,0⟩).num) ((v22.getD ((IntKind.i64.wrap (a0 - 1)).toNat) ⟨0,0⟩).den) v15 v16).bind fun (v23,v24,v25) =>
bif !v25 then
(some ((3 : Int),[],[]))
else
(grd (0 ≤ IntKind.i64.wrap (a0 - 1) ∧ IntKind.i64.wrap (a0 - 1) < (v22.length : Int)) <|
some ((1 : Int),v22.set ((IntKind.i64.wrap (a0 - 1)).toNat) ⟨v23,v24⟩,[])))))))
theorem W134 (a0 : Int) (a1 : List Int) (r : Int × (List Q) × (List Q)) (h : m_spec_FindCore a0 a1 = some r) : AM.Spec Tryz.prog 25 [.agg [.i a0,.list (.ints a1)]] [] (.agg [.i r.1,.sl 1000 0,.sl 1001 0]) [(1000,.arr 31 0 0 (.rats r.2.1)),(1001,.arr 31 0 0 (.rats r.2.2))] := by
 refine spec_of (E := E413) Tryz.func25 rfl rfl rfl rfl ?_
 refine Tri.f 1 [] [.keep [1,2] [1,2],.ownc 2 1 1100 31,.ownc 2 2 1101 31,.keep [1,2] [1,2,1100,1101]] rfl trivial ?_
 obtain ⟨⟨v1,v2,v3,v4⟩,hk1,h⟩ := bind_some h
 refine Tri.f 2 [.r ⟨[],.tuple [.agg [.sl 1102 0,.sl 1103 0,.sl 1104 0],.bool v1],[(1102,.arr 25 0 0 (.intss v2)),(1103,.arr 3 0 0 (.ints v3)),(1104,.arr 31 0 0 (.rats v4))]⟩] [.keep [1,2,3,18] [1,2,3,1100,1101,1102,1103,1104]] rfl ⟨fun _ => (((W93 a0 a1 (v1,v2,v3,v4) hk1).swap 1000 1102).swap 1001 1103).swap 1002 1104,trivial⟩ ?_
 rcases bif_some h with ⟨hd2,h⟩ | ⟨hd2,h⟩
 ·refine Tri.f 2 [.g true] [.ownc 2 1 1105 31,.ownc 2 2 1106 31,.swap 1105 1000,.swap 1106 1001,.keep [2] [2,1000,1001]] rfl ⟨hd2,trivial⟩ ?_
  cases h
  exact Tri.ret rfl ⟨.inl rfl,rfl,rfl⟩
 ·obtain ⟨⟨v5,v6,v7,v8,v9,v10,v11⟩,hk3,h⟩ := bind_some h
  refine Tri.f 2 [.g false,.r ⟨[],.agg [.i v5,.sl 1107 0,.sl 1108 0,.sl 1109 0,.i v6,.i v7,.i v8],[(1107,.arr 31 0 0 (.rats v9)),(1108,.arr 31 0 0 (.rats v10)),(1109,.arr 31 0 0 (.rats v11))]⟩] [.keep [1,2,5] [1,2,5,1100,1101,1107,1108,1109]] rfl ⟨fun _ => (((W133 v2 v3 v4 (v5,v6,v7,v8,v9,v10,v11) hk3).swap 1000 1107).swap 1001 1108).swap 1002 1109,hd2,trivial⟩ ?_
  obtain ⟨v12,hk4,h⟩ := bind_some h
  obtain ⟨⟨v13,v14⟩,hk5,h⟩ := bind_some h
  obtain ⟨⟨v15,v16,v17⟩,hk6,h⟩ := bind_some h
  rcases bif_some h with ⟨hd7,h⟩ | ⟨hd7,h⟩
  ·refine Tri.f 2 [.v (.i v12),.v (.agg [.i v13,.i v14]),.v (.tuple [.agg [.i v15,.i v16],.bool v17]),.g true] [.keep [1,2,5,6,37] [1,2,5,6,1100,1101,1107,1108,1109]] rfl ⟨hd7,fun _ => W102 v13 v14 v6 v7 (v15,v16,v17) hk6,fun _ => W17 v12 (v13,v14) hk5,fun _ => W16 a0 a1 v12 hk4,trivial⟩ ?_
   refine Tri.f 2 [.g true] [.ownc 2 1 1110 31,.ownc 2 2 1111 31,.swap 1110 1000,.swap 1111 1001,.keep [2] [2,1000,1001]] rfl ⟨rfl,trivial⟩ ?_
   cases h
   exact Tri.ret rfl ⟨.inl rfl,rfl,rfl⟩
  ·refine Tri.f 2 [.v (.i v12),.v (.agg [.i v13,.i v14]),.v (.tuple [.agg [.i v15,.i v16],.bool v17]),.g false] [.keep [1,2,5,6,37] [1,2,5,6,1100,1101,1107,1108,1109]] rfl ⟨hd7,fun _ => W102 v13 v14 v6 v7 (v15,v16,v17) hk6,fun _ => W17 v12 (v13,v14) hk5,fun _ => W16 a0 a1 v12 hk4,trivial⟩ ?_
   rcases bif_some h with ⟨hd8,h⟩ | ⟨hd8,h⟩
   ·refine Tri.f 2 [.g true] [.ownc 2 1 1112 31,.ownc 2 2 1113 31,.swap 1112 1000,.swap 1113 1001,.keep [2] [2,1000,1001]] rfl ⟨hd8,trivial⟩ ?_
    cases h
    exact Tri.ret rfl ⟨.inl rfl,rfl,rfl⟩
   ·refine Tri.f 2 [.g false] [.keep [1,2,5,6,41] [1,2,5,6,1100,1101,1107,1108,1109]] rfl ⟨hd8,trivial⟩ ?_
    rcases bif_some h with ⟨hd9,h⟩ | ⟨hd9,h⟩
    ·refine Tri.f 2 [.g true] [.ownc 2 1 1114 31,.swap 1114 1000,.swap 1107 1001,.keep [2] [2,1000,1001]] rfl ⟨hd9,trivial⟩ ?_
     cases h
     exact Tri.ret rfl ⟨.inl rfl,rfl,rfl⟩
    ·refine Tri.f 3 [.g false] [.ownc 8 1 1115 31,.ownc 8 2 1116 31,.keep [1,2,5,6,8,9] [1,2,5,6,8,1100,1101,1107,1108,1109,1115,1116]] rfl ⟨hd9,trivial⟩ ?_
     obtain ⟨v22,hk14,h⟩ := bind_some h
     refine Tri.loop (K1 := [.code [(8,0),(1,0),(0,0)] 0]) (K2 := [.blk 0,.code [] 9]) (fun (v18,v19) => ⟨[(1,.ptr 1 0),(2,.ptr 2 0),(5,.ptr 5 0),(6,.ptr 6 0),(8,.ptr 8 0),(9,.i v18)],[(1,.box [.i a0,.list (.ints a1)]),(2,.box [.i 0,.sl 1100 0,.sl 1101 0]),(5,.box [.i v5,.sl 1107 0,.sl 1108 0,.sl 1109 0,.i v6,.i v7,.i v8]),(6,.box [.i v15,.i v16]),(8,.box [.i (1 : Int),.sl 1115 0,.sl 1116 0]),(1100,.arr 31 0 0 (.rats [])),(1101,.arr 31 0 0 (.rats [])),(1107,.arr 31 0 0 (.rats v9)),(1108,.arr 31 0 0 (.rats v10)),(1109,.arr 31 0 0 (.rats v11)),(1115,.arr 31 0 0 (.rats v19)),(1116,.arr 31 0 0 (.rats []))]⟩) (fun x e σ' => match x with | v22 => e = .exit 0 ∧ σ' = ⟨[(1,.ptr 1 0),(2,.ptr 2 0),(6,.ptr 6 0),(8,.ptr 8 0)],[(1,.box [.i a0,.list (.ints a1)]),(2,.box [.i 0,.sl 1100 0,.sl 1101 0]),(6,.box [.i v15,.i v16]),(8,.box [.i (1 : Int),.sl 1115 0,.sl 1116 0]),(1100,.arr 31 0 0 (.rats [])),(1101,.arr 31 0 0 (.rats [])),(1115,.arr 31 0 0 (.rats v22)),(1116,.arr 31 0 0 (.rats []))]⟩) hk14 rfl rfl ?_ ?_
     ·intro s x hs
      clear h
      have h := hs
      clear hs
      obtain ⟨v18,v19⟩ := s
      refine Tri.f 1 [] [.keep [1,2,5,6,8,9,50] [1,2,5,6,8,1100,1101,1107,1108,1109,1115,1116]] rfl trivial ?_
      rcases bif_some h with ⟨hd10,h⟩ | ⟨hd10,h⟩
      ·obtain ⟨hg11,h⟩ := grd_some h
       obtain ⟨⟨v20,v21⟩,hk12,h⟩ := bind_some h
       obtain ⟨hg13,h⟩ := grd_some h
       refine Tri.f 3 [.g true,.v (.agg [.i v20,.i v21])] [.rever 1115,.keep [1,2,5,6,8,9] [1,2,5,6,8,1100,1101,1107,1108,1109,1115,1116]] rfl ⟨hg13,fun _ => W119 ((v10.getD v18.toNat ⟨0,0⟩).num) ((v10.getD v18.toNat ⟨0,0⟩).den) (v20,v21) hk12,hg11,hd10,trivial⟩ ?_
       cases h
       exact Tri.nil ⟨rfl,rfl⟩
      ·refine Tri.f 1 [.g false] [.keep [1,2,6,8] [1,2,6,8,1100,1101,1115,1116]] rfl ⟨hd10,trivial⟩ ?_
       cases h
       exact Tri.out 0 rfl ⟨nofun,rfl,rfl⟩
     ·intro e σ' hne hq
      obtain ⟨rfl,rfl⟩ := hq
      refine TriX.exit (K' := [.code [] 9]) rfl ?_
      obtain ⟨hg15,h⟩ := grd_some h
      obtain ⟨⟨v23,v24,v25⟩,hk16,h⟩ := bind_some h
      refine Tri.f 2 [.v (.tuple [.agg [.i v23,.i v24],.bool v25])] [.keep [1,2,8,10,77] [1,2,8,10,1100,1101,1115,1116]] rfl ⟨fun _ => W102 ((v22.getD ((IntKind.i64.wrap (a0 - 1)).toNat) ⟨0,0⟩).num) ((v22.getD ((IntKind.i64.wrap (a0 - 1)).toNat) ⟨0,0⟩).den) v15 v16 (v23,v24,v25) hk16,hg15,trivial⟩ ?_
      rcases bif_some h with ⟨hd17,h⟩ | ⟨hd17,h⟩
      ·refine Tri.f 2 [.g true] [.ownc 2 1 1117 31,.ownc 2 2 1118 31,.swap 1117 1000,.swap 1118 1001,.keep [2] [2,1000,1001]] rfl ⟨hd17,trivial⟩ ?_
       cases h
       exact Tri.ret rfl ⟨.inl rfl,rfl,rfl⟩
      ·obtain ⟨hg18,h⟩ := grd_some h
       refine Tri.f 3 [.g false] [.swap 1115 1000,.swap 1116 1001,.keep [2] [2,1000,1001]] rfl ⟨hg18,hd17,trivial⟩ ?_
       cases h
       exact Tri.ret rfl ⟨.inl rfl,rfl,rfl⟩
noncomputable def E414 : Env := ⟨Tryz.prog,tys,(Tryz.f207.body).getD .skip,5,tysOk,mixedOk⟩
abbrev K277 (r : Bool) (σ' : ASt) : Prop := isRes E414.T Tryz.f207 (.bool r) [] σ'
noncomputable def m_spec_l2Good (a0 : Int) : Option Bool :=
(m_spec_l1In a0 (0 : Int) (31 : Int)).bind fun v1 =>
some v1
theorem W135 (a0 : Int) (r : Bool) (h : m_spec_l2Good a0 = some r) : AM.Spec Tryz.prog 207 [.i a0] [] (.bool r) [] := by
 refine spec_of (E := E414) Tryz.func207 rfl rfl rfl rfl ?_
 refine Tri.f 1 [] [.keep [0] []] rfl trivial ?_
 obtain ⟨v1,hk1,h⟩ := bind_some h
 refine Tri.f 1 [.v (.bool v1)] [.keep [2] []] rfl ⟨fun _ => W4 a0 (0 : Int) (31 : Int) v1 hk1,trivial⟩ ?_
 cases h
 exact Tri.ret rfl ⟨.inl rfl,rfl,rfl⟩
noncomputable def E415 : Env := ⟨Tryz.prog,tys,(Tryz.f204.body).getD .skip,22,tysOk,mixedOk⟩
abbrev K278 (r : List Int) (σ' : ASt) : Prop := isRes E415.T Tryz.f204 (.sl 1000 0) [(1000,.arr 3 0 0 (.ints r))] σ'
noncomputable def l_spec_MembersOf_0 (a0 : Int) : (Int × (List Int)) → Option ((Int × (List Int)) ⊕ ((List Int)))
 | (v1,v2) => (
bif decide (v1 < 5) then
((m_spec_l2Good a0).bind fun v3 =>
bif v3 then
((m_spec_HasPlayer a0 v1).bind fun v4 =>
bif v4 then
(grd (v2.length + ([v1] : List Int).length ≤ room) <|
some (.inl (IntKind.i64.wrap (v1 + 1),v2 ++ [v1])))
else
(some (.inl (IntKind.i64.wrap (v1 + 1),v2))))
else
(some (.inr v2)))
else
(some (.inr v2)))
noncomputable def m_spec_MembersOf (a0 : Int) : Option (List Int) :=
(iter (l_spec_MembersOf_0 a0) ((0 : Int),[])).bind fun
| v5 => (
some v5)
theorem W136 (a0 : Int) (r : List Int) (h : m_spec_MembersOf a0 = some r) : AM.Spec Tryz.prog 204 [.i a0] [] (.sl 1000 0) [(1000,.arr 3 0 0 (.ints r))] := by
 refine spec_of (E := E415) Tryz.func204 rfl rfl rfl rfl ?_
 refine Tri.f 3 [] [.keep [0,3,4] [5]] rfl trivial ?_
 obtain ⟨v5,hk7,h⟩ := bind_some h
 refine Tri.loop (K1 := [.code [(2,0),(1,0),(0,0)] 0]) (K2 := [.blk 0,.code [] 3]) (fun (v1,v2) => ⟨[(0,.i a0),(3,.sl 5 0),(4,.i v1)],[(5,.arr 3 0 0 (.ints v2))]⟩) (fun x e σ' => match x with | v5 => e = .exit 0 ∧ σ' = ⟨[(3,.sl 5 0)],[(5,.arr 3 0 0 (.ints v5))]⟩) hk7 rfl rfl ?_ ?_
 ·intro s x hs
  clear h
  have h := hs
  clear hs
  obtain ⟨v1,v2⟩ := s
  rcases bif_some h with ⟨hd1,h⟩ | ⟨hd1,h⟩
  ·obtain ⟨v3,hk2,h⟩ := bind_some h
   refine Tri.f 1 [.g true,.v (.bool v3)] [.keep [0,3,4,11] [5]] rfl ⟨fun _ => W135 a0 v3 hk2,hd1,trivial⟩ ?_
   rcases bif_some h with ⟨hd3,h⟩ | ⟨hd3,h⟩
   ·obtain ⟨v4,hk4,h⟩ := bind_some h
    refine Tri.f 2 [.g true,.v (.bool v4)] [.keep [0,3,4,16] [5]] rfl ⟨fun _ => W7 a0 v1 v4 hk4,hd3,trivial⟩ ?_
    rcases bif_some h with ⟨hd5,h⟩ | ⟨hd5,h⟩
    ·obtain ⟨hg6,h⟩ := grd_some h
     refine Tri.f 3 [.g true] [.rever 5,.keep [0,3,4] [5]] rfl ⟨hg6,hd5,trivial⟩ ?_
     cases h
     exact Tri.nil ⟨rfl,rfl⟩
    ·refine Tri.f 2 [.g false] [.keep [0,3,4] [5]] rfl ⟨hd5,trivial⟩ ?_
     cases h
     exact Tri.nil ⟨rfl,rfl⟩
   ·refine Tri.f 1 [.g false] [.keep [3] [5]] rfl ⟨hd3,trivial⟩ ?_
    cases h
    exact Tri.out 0 rfl ⟨nofun,rfl,rfl⟩
  ·refine Tri.f 1 [.g false] [.keep [0,3,4,11] [5]] rfl ⟨hd1,trivial⟩ ?_
   refine Tri.f 1 [.g false] [.keep [3] [5]] rfl ⟨rfl,trivial⟩ ?_
   cases h
   exact Tri.out 0 rfl ⟨nofun,rfl,rfl⟩
 ·intro e σ' hne hq
  obtain ⟨rfl,rfl⟩ := hq
  refine TriX.exit (K' := [.code [] 3]) rfl ?_
  refine Tri.f 1 [] [.swap 5 1000,.keep [2] [1000]] rfl trivial ?_
  cases h
  exact Tri.ret rfl ⟨.inl rfl,rfl,rfl⟩
noncomputable def E416 : Env := ⟨Tryz.prog,tys,(Tryz.f199.body).getD .skip,52,tysOk,mixedOk⟩
abbrev K279 (r : Int × Int × Bool) (σ' : ASt) : Prop := isRes E416.T Tryz.f199 (.tuple [.agg [.i r.1,.i r.2.1],.bool r.2.2]) [] σ'
noncomputable def l_spec_ShareOf_0 (a0 : List Q) (v3 : List Int) : (Int × Int × Int) → Option ((Int × Int × Int) ⊕ ((Int × Int) ⊕ ((Int × Int × Bool))))
 | (v4,v5,v6) => (
bif decide (v4 < (v3.length : Int)) then
(grd (0 ≤ v4 ∧ v4 < (v3.length : Int)) <|
bif decide ((v3.getD v4.toNat 0) ≥ (a0.length : Int)) then
(some (.inr (.inr (0,0,false))))
else
(grd (0 ≤ v4 ∧ v4 < (v3.length : Int)) <|
grd (0 ≤ v3.getD v4.toNat 0 ∧ v3.getD v4.toNat 0 < (a0.length : Int)) <|
(m_spec_AddRat v5 v6 ((a0.getD ((v3.getD v4.toNat 0).toNat) ⟨0,0⟩).num) ((a0.getD ((v3.getD v4.toNat 0).toNat) ⟨0,0⟩).den)).bind fun (v7,v8,v9) =>
bif !v9 then
(some (.inr (.inr (0,0,false))))
else
(some (.inl (IntKind.i64.wrap (v4 + 1),v7,v8)))))
else
(some (.inr (.inl (v5,v6)))))
noncomputable def m_spec_ShareOf (a0 : List Q) (a1 : Int) : Option (Int × Int × Bool) :=
(m_spec_l3Int (0 : Int)).bind fun (v1,v2) =>
bif decide (a1 < 0) then
(some (0,0,false))
else
(bif decide (a1 > 31) then
(some (0,0,false))
else
((m_spec_MembersOf a1).bind fun v3 =>
(iter (l_spec_ShareOf_0 a0 v3) ((0 : Int),v1,v2)).bind fun
| (.inl (v10,v11)) => (
some (v10,v11,true))
| (.inr r) => some r))
theorem W137 (a0 : List Q) (a1 : Int) (r : Int × Int × Bool) (h : m_spec_ShareOf a0 a1 = some r) : AM.Spec Tryz.prog 199 [.list (.rats a0),.i a1] [] (.tuple [.agg [.i r.1,.i r.2.1],.bool r.2.2]) [] := by
 refine spec_of (E := E416) Tryz.func199 rfl rfl rfl rfl ?_
 refine Tri.f 1 [] [.keep [0,1,4] [4]] rfl trivial ?_
 obtain ⟨⟨v1,v2⟩,hk1,h⟩ := bind_some h
 rcases bif_some h with ⟨hd2,h⟩ | ⟨hd2,h⟩
 ·refine Tri.f 2 [.v (.agg [.i v1,.i v2]),.g true] [.keep [0,1,4,6,17] [4,6]] rfl ⟨hd2,fun _ => W17 (0 : Int) (v1,v2) hk1,trivial⟩ ?_
  refine Tri.f 2 [.g true] [.keep [4,5] [4]] rfl ⟨rfl,trivial⟩ ?_
  cases h
  exact Tri.ret rfl ⟨.inl rfl,rfl,rfl⟩
 ·refine Tri.f 2 [.v (.agg [.i v1,.i v2]),.g false] [.keep [0,1,4,6,17] [4,6]] rfl ⟨hd2,fun _ => W17 (0 : Int) (v1,v2) hk1,trivial⟩ ?_
  rcases bif_some h with ⟨hd3,h⟩ | ⟨hd3,h⟩
  ·refine Tri.f 2 [.g true] [.keep [4,5] [4]] rfl ⟨hd3,trivial⟩ ?_
   cases h
   exact Tri.ret rfl ⟨.inl rfl,rfl,rfl⟩
  ·obtain ⟨v3,hk4,h⟩ := bind_some h
   refine Tri.f 3 [.g false,.r ⟨[],.sl 1100 0,[(1100,.arr 3 0 0 (.ints v3))]⟩] [.keep [0,4,6,7,8] [4,6,1100]] rfl ⟨fun _ => (W136 a1 v3 hk4).swap 1000 1100,hd3,trivial⟩ ?_
   obtain ⟨x1,hk12,h⟩ := bind_some h
   refine Tri.loop (K1 := [.code [(4,0),(1,0),(0,0)] 0]) (K2 := [.blk 0,.code [] 5]) (fun (v4,v5,v6) => ⟨[(0,.list (.rats a0)),(4,.ptr 4 0),(6,.ptr 6 0),(7,.sl 1100 0),(8,.i v4)],[(4,.box [.i 0,.i 0]),(6,.box [.i v5,.i v6]),(1100,.arr 3 0 0 (.ints v3))]⟩) (fun x e σ' => match x with | (.inl (v10,v11)) => e = .exit 0 ∧ σ' = ⟨[(4,.ptr 4 0),(6,.ptr 6 0)],[(4,.box [.i 0,.i 0]),(6,.box [.i v10,.i v11])]⟩ | (.inr r) => e = .ret ∧ K279 r σ') hk12 rfl rfl ?_ ?_
   ·intro s x hs
    clear h
    have h := hs
    clear hs
    obtain ⟨v4,v5,v6⟩ := s
    refine Tri.f 1 [] [.keep [0,4,6,7,8,24] [4,6,1100]] rfl trivial ?_
    rcases bif_some h with ⟨hd5,h⟩ | ⟨hd5,h⟩
    ·obtain ⟨hg6,h⟩ := grd_some h
     refine Tri.f 2 [.g true] [.keep [0,4,6,7,8,33] [4,6,1100]] rfl ⟨hg6,hd5,trivial⟩ ?_
     rcases bif_some h with ⟨hd7,h⟩ | ⟨hd7,h⟩
     ·refine Tri.f 2 [.g true] [.keep [4,5] [4]] rfl ⟨hd7,trivial⟩ ?_
      cases h
      exact Tri.ret rfl ⟨nofun,rfl,rfl,rfl⟩
     ·obtain ⟨hg8,h⟩ := grd_some h
      obtain ⟨hg9,h⟩ := grd_some h
      obtain ⟨⟨v7,v8,v9⟩,hk10,h⟩ := bind_some h
      refine Tri.f 3 [.g false,.v (.tuple [.agg [.i v7,.i v8],.bool v9])] [.keep [0,4,6,7,8,9,48] [4,6,9,1100]] rfl ⟨fun _ => W102 v5 v6 ((a0.getD ((v3.getD v4.toNat 0).toNat) ⟨0,0⟩).num) ((a0.getD ((v3.getD v4.toNat 0).toNat) ⟨0,0⟩).den) (v7,v8,v9) hk10,hg9,hg8,hd7,trivial⟩ ?_
      rcases bif_some h with ⟨hd11,h⟩ | ⟨hd11,h⟩
      ·refine Tri.f 2 [.g true] [.keep [4,5] [4]] rfl ⟨hd11,trivial⟩ ?_
       cases h
       exact Tri.ret rfl ⟨nofun,rfl,rfl,rfl⟩
      ·refine Tri.f 3 [.g false] [.keep [0,4,6,7,8] [4,6,1100]] rfl ⟨hd11,trivial⟩ ?_
       cases h
       exact Tri.nil ⟨rfl,rfl⟩
    ·refine Tri.f 1 [.g false] [.keep [4,6] [4,6]] rfl ⟨hd5,trivial⟩ ?_
     cases h
     exact Tri.out 0 rfl ⟨nofun,rfl,rfl⟩
   ·intro e σ' hne hq
    rcases x1 with ⟨v10,v11⟩ | r
    ·obtain ⟨rfl,rfl⟩ := hq
     refine TriX.exit (K' := [.code [] 5]) rfl ?_
     refine Tri.f 1 [] [.keep [4,5] [4]] rfl trivial ?_
     cases h
     exact Tri.ret rfl ⟨.inl rfl,rfl,rfl⟩
    ·obtain ⟨rfl,hq⟩ := hq
     cases h
     exact TriX.ret ⟨.inl rfl,hq⟩
noncomputable def E417 : Env := ⟨Tryz.prog,tys,(Tryz.f184.body).getD .skip,39,tysOk,mixedOk⟩
abbrev K280 (r : Bool) (σ' : ASt) : Prop := isRes E417.T Tryz.f184 (.bool r) [] σ'
noncomputable def m_spec_IsPayoff (a0 : Int) (a1 : List Int) (a2 : List Q) : Option Bool :=
(m_spec_IsValidGame a0 a1).bind fun v1 =>
bif !v1 then
(some false)
else
(bif (a2.length : Int) != a0 then
(some false)
else
((m_spec_AllValid a2).bind fun v2 =>
bif !v2 then
(some false)
else
((m_spec_ShareOf a2 (IntKind.i64.wrap ((a1.length : Int) - 1))).bind fun (v3,v4,v5) =>
bif v5 then
((m_spec_GrandValue a0 a1).bind fun v6 =>
(m_spec_l3Int v6).bind fun (v7,v8) =>
some (v3 == v7 && v4 == v8))
else
(some false))))
theorem W138 (a0 : Int) (a1 : List Int) (a2 : List Q) (r : Bool) (h : m_spec_IsPayoff a0 a1 a2 = some r) : AM.Spec Tryz.prog 184 [.agg [.i a0,.list (.ints a1)],.list (.rats a2)] [] (.bool r) [] := by
 refine spec_of (E := E417) Tryz.func184 rfl rfl rfl rfl ?_
 refine Tri.f 1 [] [.keep [1,2] [2]] rfl trivial ?_
 obtain ⟨v1,hk1,h⟩ := bind_some h
 rcases bif_some h with ⟨hd2,h⟩ | ⟨hd2,h⟩
 ·refine Tri.f 1 [.v (.bool v1),.g true,.g true] [.keep [1,2,21] [2]] rfl ⟨rfl,hd2,fun _ => W15 a0 a1 v1 hk1,trivial⟩ ?_
  refine Tri.f 2 [.g true] [.keep [4] []] rfl ⟨rfl,trivial⟩ ?_
  cases h
  exact Tri.ret rfl ⟨.inl rfl,rfl,rfl⟩
 ·rcases bif_some h with ⟨hd3,h⟩ | ⟨hd3,h⟩
  ·refine Tri.f 1 [.v (.bool v1),.g false,.g true] [.keep [1,2,21] [2]] rfl ⟨hd3,hd2,fun _ => W15 a0 a1 v1 hk1,trivial⟩ ?_
   refine Tri.f 2 [.g true] [.keep [4] []] rfl ⟨rfl,trivial⟩ ?_
   cases h
   exact Tri.ret rfl ⟨.inl rfl,rfl,rfl⟩
  ·obtain ⟨v2,hk4,h⟩ := bind_some h
   refine Tri.f 1 [.v (.bool v1),.g false,.g false,.v (.bool v2)] [.keep [1,2,21] [2]] rfl ⟨fun _ => W95 a2 v2 hk4,hd3,hd2,fun _ => W15 a0 a1 v1 hk1,trivial⟩ ?_
   rcases bif_some h with ⟨hd5,h⟩ | ⟨hd5,h⟩
   ·refine Tri.f 2 [.g true] [.keep [4] []] rfl ⟨hd5,trivial⟩ ?_
    cases h
    exact Tri.ret rfl ⟨.inl rfl,rfl,rfl⟩
   ·obtain ⟨⟨v3,v4,v5⟩,hk6,h⟩ := bind_some h
    refine Tri.f 2 [.g false,.v (.tuple [.agg [.i v3,.i v4],.bool v5])] [.keep [2,5,6] [2,5]] rfl ⟨fun _ => W137 a2 (IntKind.i64.wrap ((a1.length : Int) - 1)) (v3,v4,v5) hk6,hd5,trivial⟩ ?_
    rcases bif_some h with ⟨hd7,h⟩ | ⟨hd7,h⟩
    ·obtain ⟨v6,hk8,h⟩ := bind_some h
     obtain ⟨⟨v7,v8⟩,hk9,h⟩ := bind_some h
     refine Tri.f 1 [.g true,.v (.i v6),.v (.agg [.i v7,.i v8])] [.keep [4] []] rfl ⟨fun _ => W17 v6 (v7,v8) hk9,fun _ => W16 a0 a1 v6 hk8,hd7,trivial⟩ ?_
     cases h
     exact Tri.ret rfl ⟨.inl rfl,rfl,rfl⟩
    ·refine Tri.f 1 [.g false] [.keep [4] []] rfl ⟨hd7,trivial⟩ ?_
     cases h
     exact Tri.ret rfl ⟨.inl rfl,rfl,rfl⟩
noncomputable def E418 : Env := ⟨Tryz.prog,tys,(Tryz.f185.body).getD .skip,50,tysOk,mixedOk⟩
abbrev K281 (r : Int × Int × Bool) (σ' : ASt) : Prop := isRes E418.T Tryz.f185 (.tuple [.agg [.i r.1,.i r.2.1],.bool r.2.2]) [] σ'
noncomputable def m_spec_ExcessOf (a0 : Int) (a1 : List Int) (a2 : List Q) (a3 : Int) : Option (Int × Int × Bool) :=
(m_spec_IsValidGame a0 a1).bind fun v1 =>
bif !v1 then
(some (0,0,false))
else
((m_spec_l1In a3 (0 : Int) (IntKind.i64.wrap ((a1.length : Int) - 1))).bind fun v2 =>
bif !v2 then
(some (0,0,false))
else
((m_spec_ShareOf a2 a3).bind fun (v3,v4,v5) =>
grd (0 ≤ a3 ∧ a3 < (a1.length : Int)) <|
(m_spec_l3Int (a1.getD a3.toNat 0)).bind fun (v6,v7) =>
(m_spec_SubRat v6 v7 v3 v4).bind fun (v8,v9,v10) =>
bif !v5 then
(some (0,0,false))
else
(bif !v10 then
(some (0,0,false))
else
(some (v8,v9,true)))))
theorem W139 (a0 : Int) (a1 : List Int) (a2 : List Q) (a3 : Int) (r : Int × Int × Bool) (h : m_spec_ExcessOf a0 a1 a2 a3 = some r) : AM.Spec Tryz.prog 185 [.agg [.i a0,.list (.ints a1)],.list (.rats a2),.i a3] [] (.tuple [.agg [.i r.1,.i r.2.1],.bool r.2.2]) [] := by
 refine spec_of (E := E418) Tryz.func185 rfl rfl rfl rfl ?_
 refine Tri.f 1 [] [.keep [1,2,3,6] [3,6]] rfl trivial ?_
 obtain ⟨v1,hk1,h⟩ := bind_some h
 rcases bif_some h with ⟨hd2,h⟩ | ⟨hd2,h⟩
 ·refine Tri.f 1 [.v (.bool v1),.g true] [.keep [1,2,3,6,23] [3,6]] rfl ⟨hd2,fun _ => W15 a0 a1 v1 hk1,trivial⟩ ?_
  refine Tri.f 2 [.g true] [.keep [6,7] [6]] rfl ⟨rfl,trivial⟩ ?_
  cases h
  exact Tri.ret rfl ⟨.inl rfl,rfl,rfl⟩
 ·obtain ⟨v2,hk3,h⟩ := bind_some h
  refine Tri.f 1 [.v (.bool v1),.g false,.v (.bool v2)] [.keep [1,2,3,6,23] [3,6]] rfl ⟨fun _ => W4 a3 (0 : Int) (IntKind.i64.wrap ((a1.length : Int) - 1)) v2 hk3,hd2,fun _ => W15 a0 a1 v1 hk1,trivial⟩ ?_
  rcases bif_some h with ⟨hd4,h⟩ | ⟨hd4,h⟩
  ·refine Tri.f 2 [.g true] [.keep [6,7] [6]] rfl ⟨hd4,trivial⟩ ?_
   cases h
   exact Tri.ret rfl ⟨.inl rfl,rfl,rfl⟩
  ·obtain ⟨⟨v3,v4,v5⟩,hk5,h⟩ := bind_some h
   refine Tri.f 2 [.g false,.v (.tuple [.agg [.i v3,.i v4],.bool v5])] [.keep [2,3,6,8,9] [3,6,8]] rfl ⟨fun _ => W137 a2 a3 (v3,v4,v5) hk5,hd4,trivial⟩ ?_
   obtain ⟨hg6,h⟩ := grd_some h
   obtain ⟨⟨v6,v7⟩,hk7,h⟩ := bind_some h
   obtain ⟨⟨v8,v9,v10⟩,hk8,h⟩ := bind_some h
   rcases bif_some h with ⟨hd9,h⟩ | ⟨hd9,h⟩
   ·refine Tri.f 2 [.v (.agg [.i v6,.i v7]),.v (.tuple [.agg [.i v8,.i v9],.bool v10]),.g true] [.keep [6,10,47] [6,10]] rfl ⟨hd9,fun _ => W115 v6 v7 v3 v4 (v8,v9,v10) hk8,fun _ => W17 (a1.getD a3.toNat 0) (v6,v7) hk7,hg6,trivial⟩ ?_
    refine Tri.f 2 [.g true] [.keep [6,7] [6]] rfl ⟨rfl,trivial⟩ ?_
    cases h
    exact Tri.ret rfl ⟨.inl rfl,rfl,rfl⟩
   ·refine Tri.f 2 [.v (.agg [.i v6,.i v7]),.v (.tuple [.agg [.i v8,.i v9],.bool v10]),.g false] [.keep [6,10,47] [6,10]] rfl ⟨hd9,fun _ => W115 v6 v7 v3 v4 (v8,v9,v10) hk8,fun _ => W17 (a1.getD a3.toNat 0) (v6,v7) hk7,hg6,trivial⟩ ?_
    rcases bif_some h with ⟨hd10,h⟩ | ⟨hd10,h⟩
    ·refine Tri.f 2 [.g true] [.keep [6,7] [6]] rfl ⟨hd10,trivial⟩ ?_
     cases h
     exact Tri.ret rfl ⟨.inl rfl,rfl,rfl⟩
    ·refine Tri.f 2 [.g false] [.keep [6,7] [6]] rfl ⟨hd10,trivial⟩ ?_
     cases h
     exact Tri.ret rfl ⟨.inl rfl,rfl,rfl⟩
noncomputable def E419 : Env := ⟨Tryz.prog,tys,(Tryz.f131.body).getD .skip,39,tysOk,mixedOk⟩
abbrev K282 (r : Bool × (List Q)) (σ' : ASt) : Prop := isRes E419.T Tryz.f131 (.tuple [.sl 1000 0,.bool r.1]) [(1000,.arr 31 0 0 (.rats r.2))] σ'
noncomputable def l_spec_l11All_0 (a0 : Int) (a1 : List Int) (a2 : List Q) : (Int × (List Q)) → Option ((Int × (List Q)) ⊕ ((List Q) ⊕ ((Bool × (List Q)))))
 | (v2,v3) => (
bif decide (v2 < (IntKind.i64.wrap ((a1.length : Int) - 1))) then
((m_spec_ExcessOf a0 a1 a2 v2).bind fun (v4,v5,v6) =>
bif !v6 then
(some (.inr (.inr (false,[]))))
else
(grd (v3.length + ([⟨v4,v5⟩] : List Q).length ≤ room) <|
some (.inl (IntKind.i64.wrap (v2 + 1),v3 ++ [⟨v4,v5⟩]))))
else
(some (.inr (.inl v3))))
noncomputable def m_spec_l11All (a0 : Int) (a1 : List Int) (a2 : List Q) : Option (Bool × (List Q)) :=
(m_spec_IsPayoff a0 a1 a2).bind fun v1 =>
bif !v1 then
(some (false,[]))
else
((iter (l_spec_l11All_0 a0 a1 a2) ((1 : Int),[])).bind fun
| (.inl v7) => (
some (true,v7))
| (.inr r) => some r)
theorem W140 (a0 : Int) (a1 : List Int) (a2 : List Q) (r : Bool × (List Q)) (h : m_spec_l11All a0 a1 a2 = some r) : AM.Spec Tryz.prog 131 [.agg [.i a0,.list (.ints a1)],.list (.rats a2)] [] (.tuple [.sl 1000 0,.bool r.1]) [(1000,.arr 31 0 0 (.rats r.2))] := by
 refine spec_of (E := E419) Tryz.func131 rfl rfl rfl rfl ?_
 refine Tri.f 2 [] [.keep [1,2,6] [2,10]] rfl trivial ?_
 obtain ⟨v1,hk1,h⟩ := bind_some h
 refine Tri.f 1 [.v (.bool v1)] [.keep [1,2,6,14] [2,10]] rfl ⟨fun _ => W138 a0 a1 a2 v1 hk1,trivial⟩ ?_
 rcases bif_some h with ⟨hd2,h⟩ | ⟨hd2,h⟩
 ·refine Tri.f 2 [.g true] [.swap 10 1000,.keep [4,5] [1000]] rfl ⟨hd2,trivial⟩ ?_
  cases h
  exact Tri.ret rfl ⟨.inl rfl,rfl,rfl⟩
 ·refine Tri.f 2 [.g false] [.keep [1,2,6,7] [2,10]] rfl ⟨hd2,trivial⟩ ?_
  obtain ⟨x1,hk7,h⟩ := bind_some h
  refine Tri.loop (K1 := [.code [(3,0),(1,0),(0,0)] 0]) (K2 := [.blk 0,.code [] 4]) (fun (v2,v3) => ⟨[(1,.list (.rats a2)),(2,.ptr 2 0),(6,.sl 10 0),(7,.i v2)],[(2,.box [.i a0,.list (.ints a1)]),(10,.arr 31 0 0 (.rats v3))]⟩) (fun x e σ' => match x with | (.inl v7) => e = .exit 0 ∧ σ' = ⟨[(6,.sl 10 0)],[(10,.arr 31 0 0 (.rats v7))]⟩ | (.inr r) => e = .ret ∧ K282 r σ') hk7 rfl rfl ?_ ?_
  ·intro s x hs
   clear h
   have h := hs
   clear hs
   obtain ⟨v2,v3⟩ := s
   refine Tri.f 1 [] [.keep [1,2,6,7,21] [2,10]] rfl trivial ?_
   rcases bif_some h with ⟨hd3,h⟩ | ⟨hd3,h⟩
   ·obtain ⟨⟨v4,v5,v6⟩,hk4,h⟩ := bind_some h
    refine Tri.f 3 [.g true,.v (.tuple [.agg [.i v4,.i v5],.bool v6])] [.keep [1,2,6,7,8,32] [2,8,10]] rfl ⟨fun _ => W139 a0 a1 a2 v2 (v4,v5,v6) hk4,hd3,trivial⟩ ?_
    rcases bif_some h with ⟨hd5,h⟩ | ⟨hd5,h⟩
    ·refine Tri.f 2 [.g true] [.swap 33 1000,.keep [4,5] [1000]] rfl ⟨hd5,trivial⟩ ?_
     cases h
     exact Tri.ret rfl ⟨nofun,rfl,rfl,rfl⟩
    ·obtain ⟨hg6,h⟩ := grd_some h
     refine Tri.f 3 [.g false] [.rever 10,.keep [1,2,6,7] [2,10]] rfl ⟨hg6,hd5,trivial⟩ ?_
     cases h
     exact Tri.nil ⟨rfl,rfl⟩
   ·refine Tri.f 1 [.g false] [.keep [6] [10]] rfl ⟨hd3,trivial⟩ ?_
    cases h
    exact Tri.out 0 rfl ⟨nofun,rfl,rfl⟩
  ·intro e σ' hne hq
   rcases x1 with v7 | r
   ·obtain ⟨rfl,rfl⟩ := hq
    refine TriX.exit (K' := [.code [] 4]) rfl ?_
    refine Tri.f 1 [] [.swap 10 1000,.keep [4,5] [1000]] rfl trivial ?_
    cases h
    exact Tri.ret rfl ⟨.inl rfl,rfl,rfl⟩
   ·obtain ⟨rfl,hq⟩ := hq
    cases h
    exact TriX.ret ⟨.inl rfl,hq⟩
noncomputable def E420 : Env := ⟨Tryz.prog,tys,(Tryz.f61.body).getD .skip,27,tysOk,mixedOk⟩
abbrev K283 (r : Bool) (σ' : ASt) : Prop := isRes E420.T Tryz.f61 (.bool r) [] σ'
noncomputable def l_spec_InCore_0 (v2 : List Q) (v3 : Int) : Option (Int ⊕ (Unit ⊕ Bool)) :=
bif decide (v3 < (v2.length : Int)) then
(grd (0 ≤ v3 ∧ v3 < (v2.length : Int)) <|
bif decide (((v2.getD v3.toNat ⟨0,0⟩).num) > 0) then
(some (.inr (.inr false)))
else
(some (.inl (IntKind.i64.wrap (v3 + 1)))))
else
(some (.inr (.inl ())))
noncomputable def m_spec_InCore (a0 : Int) (a1 : List Int) (a2 : List Q) : Option Bool :=
(m_spec_l11All a0 a1 a2).bind fun (v1,v2) =>
(iter (l_spec_InCore_0 v2) (0 : Int)).bind fun
| (.inl _) => (
some v1)
| (.inr r) => some r
theorem W141 (a0 : Int) (a1 : List Int) (a2 : List Q) (r : Bool) (h : m_spec_InCore a0 a1 a2 = some r) : AM.Spec Tryz.prog 61 [.agg [.i a0,.list (.ints a1)],.list (.rats a2)] [] (.bool r) [] := by
 refine spec_of (E := E420) Tryz.func61 rfl rfl rfl rfl ?_
 refine Tri.f 1 [] [.keep [1,2] [2]] rfl trivial ?_
 obtain ⟨⟨v1,v2⟩,hk1,h⟩ := bind_some h
 refine Tri.f 2 [.r ⟨[],.tuple [.sl 1100 0,.bool v1],[(1100,.arr 31 0 0 (.rats v2))]⟩] [.keep [5,6,7] [1100]] rfl ⟨fun _ => (W140 a0 a1 a2 (v1,v2) hk1).swap 1000 1100,trivial⟩ ?_
 obtain ⟨x1,hk5,h⟩ := bind_some h
 refine Tri.loop (K1 := [.code [(2,0),(1,0),(0,0)] 0]) (K2 := [.blk 0,.code [] 3]) (fun v3 => ⟨[(5,.sl 1100 0),(6,.bool v1),(7,.i v3)],[(1100,.arr 31 0 0 (.rats v2))]⟩) (fun x e σ' => match x with | (.inl _) => e = .exit 0 ∧ σ' = ⟨[(6,.bool v1)],[]⟩ | (.inr r) => e = .ret ∧ K283 r σ') hk5 rfl rfl ?_ ?_
 ·intro v3 x hs
  clear h
  have h := hs
  clear hs
  refine Tri.f 1 [] [.keep [5,6,7,17] [1100]] rfl trivial ?_
  rcases bif_some h with ⟨hd2,h⟩ | ⟨hd2,h⟩
  ·obtain ⟨hg3,h⟩ := grd_some h
   refine Tri.f 2 [.g true] [.keep [5,6,7,25] [1100]] rfl ⟨hg3,hd2,trivial⟩ ?_
   rcases bif_some h with ⟨hd4,h⟩ | ⟨hd4,h⟩
   ·refine Tri.f 2 [.g true] [.keep [4] []] rfl ⟨hd4,trivial⟩ ?_
    cases h
    exact Tri.ret rfl ⟨nofun,rfl,rfl,rfl⟩
   ·refine Tri.f 2 [.g false] [.keep [5,6,7] [1100]] rfl ⟨hd4,trivial⟩ ?_
    cases h
    exact Tri.nil ⟨rfl,rfl⟩
  ·refine Tri.f 1 [.g false] [.keep [6] []] rfl ⟨hd2,trivial⟩ ?_
   cases h
   exact Tri.out 0 rfl ⟨nofun,rfl,rfl⟩
 ·intro e σ' hne hq
  rcases x1 with _ | r
  ·obtain ⟨rfl,rfl⟩ := hq
   refine TriX.exit (K' := [.code [] 3]) rfl ?_
   refine Tri.f 1 [] [.keep [4] []] rfl trivial ?_
   cases h
   exact Tri.ret rfl ⟨.inl rfl,rfl,rfl⟩
  ·obtain ⟨rfl,hq⟩ := hq
   cases h
   exact TriX.ret ⟨.inl rfl,hq⟩
noncomputable def E421 : Env := ⟨Tryz.prog,tys,(Tryz.f8.body).getD .skip,35,tysOk,mixedOk⟩
abbrev K284 (r : Bool) (σ' : ASt) : Prop := isRes E421.T Tryz.f8 (.bool r) [] σ'
noncomputable def m_laws_FnCoreMembers (a0 : List UInt8) : Option Bool :=
(m_laws_big a0).bind fun v1 =>
bif v1 then
(some true)
else
((m_spec_DrawInCore a0).bind fun (v2,v3,v4) =>
(m_impl_FindCore v2 v3).bind fun (v5,_,_) =>
(m_spec_FindCore v2 v3).bind fun (v8,_,_) =>
bif v5 != v8 then
(some false)
else
((m_spec_InCore v2 v3 v4).bind fun v11 =>
bif !v11 then
(some true)
else
(bif v5 == 1 then
(some true)
else
(some (v5 == 3)))))
theorem w_laws_FnCoreMembers (a0 : List UInt8) (r : Bool) (h : m_laws_FnCoreMembers a0 = some r) : AM.Spec Tryz.prog 8 [.list (.bytes a0)] [] (.bool r) [] := by
 refine spec_of (E := E421) Tryz.func8 rfl rfl rfl rfl ?_
 refine Tri.f 1 [] [.keep [0] []] rfl trivial ?_
 obtain ⟨v1,hk1,h⟩ := bind_some h
 refine Tri.f 1 [.v (.bool v1)] [.keep [0,7] []] rfl ⟨fun _ => W0 a0 v1 hk1,trivial⟩ ?_
 rcases bif_some h with ⟨hd2,h⟩ | ⟨hd2,h⟩
 ·refine Tri.f 2 [.g true] [.keep [2] []] rfl ⟨hd2,trivial⟩ ?_
  cases h
  exact Tri.ret rfl ⟨.inl rfl,rfl,rfl⟩
 ·obtain ⟨⟨v2,v3,v4⟩,hk3,h⟩ := bind_some h
  refine Tri.f 2 [.g false,.r ⟨[],.tuple [.agg [.i v2,.sl 1100 0],.sl 1101 0],[(1100,.arr 3 0 0 (.ints v3)),(1101,.arr 31 0 0 (.rats v4))]⟩] [.keep [3,4] [3,1100,1101]] rfl ⟨fun _ => ((W26 a0 (v2,v3,v4) hk3).swap 1000 1100).swap 1001 1101,hd2,trivial⟩ ?_
  obtain ⟨⟨v5,v6,v7⟩,hk4,h⟩ := bind_some h
  obtain ⟨⟨v8,v9,v10⟩,hk5,h⟩ := bind_some h
  refine Tri.f 2 [.r ⟨[],.agg [.i v5,.sl 1102 0,.sl 1103 0],[(1102,.arr 31 0 0 (.rats v6)),(1103,.arr 31 0 0 (.rats v7))]⟩,.r ⟨[],.agg [.i v8,.sl 1104 0,.sl 1105 0],[(1104,.arr 31 0 0 (.rats v9)),(1105,.arr 31 0 0 (.rats v10))]⟩] [.keep [3,4,5,20] [3,5,1100,1101,1102,1103]] rfl ⟨fun _ => ((W134 v2 v3 (v8,v9,v10) hk5).swap 1000 1104).swap 1001 1105,fun _ => ((W92 v2 v3 (v5,v6,v7) hk4).swap 1000 1102).swap 1001 1103,trivial⟩ ?_
  rcases bif_some h with ⟨hd6,h⟩ | ⟨hd6,h⟩
  ·refine Tri.f 2 [.g true] [.keep [2] []] rfl ⟨hd6,trivial⟩ ?_
   cases h
   exact Tri.ret rfl ⟨.inl rfl,rfl,rfl⟩
  ·obtain ⟨v11,hk7,h⟩ := bind_some h
   rcases bif_some h with ⟨hd8,h⟩ | ⟨hd8,h⟩
   ·refine Tri.f 2 [.g false,.v (.bool v11),.g true,.g true] [.keep [2] []] rfl ⟨rfl,hd8,fun _ => W141 v2 v3 v4 v11 hk7,hd6,trivial⟩ ?_
    cases h
    exact Tri.ret rfl ⟨.inl rfl,rfl,rfl⟩
   ·rcases bif_some h with ⟨hd9,h⟩ | ⟨hd9,h⟩
    ·refine Tri.f 2 [.g false,.v (.bool v11),.g false,.g true] [.keep [2] []] rfl ⟨hd9,hd8,fun _ => W141 v2 v3 v4 v11 hk7,hd6,trivial⟩ ?_
     cases h
     exact Tri.ret rfl ⟨.inl rfl,rfl,rfl⟩
    ·refine Tri.f 2 [.g false,.v (.bool v11),.g false,.g false] [.keep [2] []] rfl ⟨hd9,hd8,fun _ => W141 v2 v3 v4 v11 hk7,hd6,trivial⟩ ?_
     cases h
     exact Tri.ret rfl ⟨.inl rfl,rfl,rfl⟩
end Go.Proofs.YtjnbmknniadbpaaGreat
