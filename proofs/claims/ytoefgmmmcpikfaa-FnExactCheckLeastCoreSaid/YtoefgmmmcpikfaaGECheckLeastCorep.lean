/- models and walks -/
import Derived.Test.YtoefgmmmcpikfaaGECheckLeastCore
namespace Go.Proofs.Ytoefgmmmcpikfaa
open Go.AM
set_option maxRecDepth 100000
set_option maxHeartbeats 4000000
/-! impl.Rat) -/
noncomputable def E116_slices_ContainsFunc_impl_Rat_impl_Rat : Env := ⟨Try.prog, tys, (Try.f116.body).getD .skip, 9, tysOk, mixedOk⟩
abbrev q_slices_ContainsFunc_impl_Rat_impl_Rat_impl_AllValid_1 (r : Bool) (σ' : ASt) : Prop := resAV E116_slices_ContainsFunc_impl_Rat_impl_Rat.T σ' Try.f116.results.toList = some (.bool r) ∧ keepO σ'.ob (namesO []) = []
noncomputable def m_slices_ContainsFunc_impl_Rat_impl_Rat_impl_AllValid_1 (a0 : List Q) : Option Bool :=
(m_slices_IndexFunc_impl_Rat_impl_Rat_impl_AllValid_1 a0).bind fun v1 =>
some (decide (v1 ≥ (0 : Int)))
theorem w_slices_ContainsFunc_impl_Rat_impl_Rat_impl_AllValid_1 (a0 : List Q) (r : Bool) (h : m_slices_ContainsFunc_impl_Rat_impl_Rat_impl_AllValid_1 a0 = some r) : AM.Spec Try.prog 116 [.list (.rats a0), .func 137 [] []] [] (.bool r) [] := by
  refine spec_of (E := E116_slices_ContainsFunc_impl_Rat_impl_Rat) Try.func116 rfl rfl rfl rfl ?_
  refine Tri.run 1 [] [.keep [0, 1] []] (K' := [.code [(1, 0)] 0, .code [] 2]) (σ' := ⟨[(0, .list (.rats a0)), (1, .func 137 [] [])], []⟩) rfl trivial rfl ?_
  obtain ⟨v1, hk1, h⟩ := bind_some h
  refine Tri.run 1 [.r ⟨[], .int .i64 v1, []⟩] [.keep [4] []] (K' := [.code [] 2]) (σ' := ⟨[(4, .bool (decide (v1 ≥ (0 : Int))))], []⟩) rfl ⟨(w_slices_IndexFunc_impl_Rat_impl_Rat_impl_AllValid_1 a0 v1 hk1), trivial⟩ rfl ?_
  have h := Option.some.inj h
  subst h
  exact Tri.ret rfl ⟨.inl rfl, rfl, rfl⟩
/-! impl.AllValid -/
noncomputable def E79_impl_AllValid : Env := ⟨Try.prog, tys, (Try.f79.body).getD .skip, 6, tysOk, mixedOk⟩
abbrev q_impl_AllValid (r : Bool) (σ' : ASt) : Prop := resAV E79_impl_AllValid.T σ' Try.f79.results.toList = some (.bool r) ∧ keepO σ'.ob (namesO []) = []
noncomputable def m_impl_AllValid (a0 : List Q) : Option Bool :=
(m_slices_ContainsFunc_impl_Rat_impl_Rat_impl_AllValid_1 a0).bind fun v1 =>
some (!v1)
theorem w_impl_AllValid (a0 : List Q) (r : Bool) (h : m_impl_AllValid a0 = some r) : AM.Spec Try.prog 79 [.list (.rats a0)] [] (.bool r) [] := by
  refine spec_of (E := E79_impl_AllValid) Try.func79 rfl rfl rfl rfl ?_
  refine Tri.run 1 [] [.keep [0] []] (K' := [.code [(1, 0)] 0, .code [] 2]) (σ' := ⟨[(0, .list (.rats a0))], []⟩) rfl trivial rfl ?_
  obtain ⟨v1, hk1, h⟩ := bind_some h
  refine Tri.run 1 [.r ⟨[], .bool v1, []⟩] [.keep [2] []] (K' := [.code [] 2]) (σ' := ⟨[(2, .bool (!v1))], []⟩) rfl ⟨(w_slices_ContainsFunc_impl_Rat_impl_Rat_impl_AllValid_1 a0 v1 hk1), trivial⟩ rfl ?_
  have h := Option.some.inj h
  subst h
  exact Tri.ret rfl ⟨.inl rfl, rfl, rfl⟩
/-! impl.MembersOf -/
noncomputable def E86_impl_MembersOf : Env := ⟨Try.prog, tys, (Try.f86.body).getD .skip, 21, tysOk, mixedOk⟩
abbrev q_impl_MembersOf (r : List Int) (σ' : ASt) : Prop := resAV E86_impl_MembersOf.T σ' Try.f86.results.toList = some (.sl 1000 0) ∧ keepO σ'.ob (namesO [(1000, .arr 3 0 0 (.ints r))]) = [(1000, .arr 3 0 0 (.ints r))]
noncomputable def l_impl_MembersOf_0 (a0 : Int) : (Int × (List Int)) → Option ((Int × (List Int)) ⊕ ((List Int)))
  | (v2, v3) => (
bif decide (v2 < (5 : Int)) then
((m_impl_HasPlayer a0 v2).bind fun v4 =>
bif v4 then
(grd (v3.length + ([v2] : List Int).length ≤ room) <|
some (.inl (IntKind.i64.wrap (v2 + (1 : Int)), v3 ++ [v2])))
else
(some (.inl (IntKind.i64.wrap (v2 + (1 : Int)), v3))))
else
(some (.inr v3)))
noncomputable def m_impl_MembersOf (a0 : Int) : Option (List Int) :=
(m_impl_within a0 (0 : Int) (31 : Int)).bind fun v1 =>
bif !v1 then
(some [])
else
((iter (l_impl_MembersOf_0 a0) ((0 : Int), [])).bind fun
| v5 => (
some v5))
theorem w_impl_MembersOf (a0 : Int) (r : List Int) (h : m_impl_MembersOf a0 = some r) : AM.Spec Try.prog 86 [.int .i64 a0] [] (.sl 1000 0) [(1000, .arr 3 0 0 (.ints r))] := by
  refine spec_of (E := E86_impl_MembersOf) Try.func86 rfl rfl rfl rfl ?_
  refine Tri.run 1 [] [.keep [0] []] (K' := [.code [(1, 0), (0, 0)] 0, .code [(1, 0)] 1, .code [] 2]) (σ' := ⟨[(0, .int .i64 a0)], []⟩) rfl trivial rfl ?_
  obtain ⟨v1, hk1, h⟩ := bind_some h
  refine Tri.run 1 [.r ⟨[], .bool v1, []⟩] [.keep [0, 7] []] (K' := [.code [(1, 0)] 1, .code [] 2]) (σ' := ⟨[(0, .int .i64 a0), (7, .bool (!v1))], []⟩) rfl ⟨(w_impl_within a0 (0 : Int) (31 : Int) v1 hk1), trivial⟩ rfl ?_
  rcases bif_some h with ⟨hd2, h⟩ | ⟨hd2, h⟩
  · refine Tri.run 2 [.g true] [.own 2 [] 1100 3, .swap 1100 1000, .keep [2] [1000]] (K' := [.code [(1, 0), (1, 0)] 1, .code [] 2]) (σ' := ⟨[(2, .sl 1000 0)], [(1000, .arr 3 0 0 (.ints []))]⟩) rfl ⟨hd2, trivial⟩ rfl ?_
    have h := Option.some.inj h
    subst h
    exact Tri.ret rfl ⟨.inl rfl, rfl, rfl⟩
  · refine Tri.run 3 [.g false] [.keep [0, 3, 9] [8]] (K' := [.code [(3, 0), (1, 0)] 0, .blk 0, .code [] 4]) (σ' := ⟨[(0, .int .i64 a0), (3, .sl 8 0), (9, .int .i64 (0 : Int))], [(8, .arr 3 0 0 (.ints []))]⟩) rfl ⟨hd2, trivial⟩ rfl ?_
    obtain ⟨v5, hk7, h⟩ := bind_some h
    refine Tri.loop (K1 := [.code [(3, 0), (1, 0), (0, 0)] 0]) (K2 := [.blk 0, .code [] 4]) (fun (v2, v3) => ⟨[(0, .int .i64 a0), (3, .sl 8 0), (9, .int .i64 v2)], [(8, .arr 3 0 0 (.ints v3))]⟩) (fun x e σ' => match x with | v5 => e = .exit 0 ∧ σ' = ⟨[(3, .sl 8 0)], [(8, .arr 3 0 0 (.ints v5))]⟩) hk7 rfl rfl ?_ ?_
    · intro s x hs
      clear h
      have h := hs
      clear hs
      obtain ⟨v2, v3⟩ := s
      refine Tri.run 1 [] [.keep [0, 3, 9, 10] [8]] (K' := [.code [(3, 0), (1, 0), (0, 0), (1, 0)] 0, .code [(3, 0), (1, 0), (0, 0)] 2]) (σ' := ⟨[(0, .int .i64 a0), (3, .sl 8 0), (9, .int .i64 v2), (10, .bool (decide (v2 < (5 : Int))))], [(8, .arr 3 0 0 (.ints v3))]⟩) rfl trivial rfl ?_
      rcases bif_some h with ⟨hd3, h⟩ | ⟨hd3, h⟩
      · refine Tri.run 2 [.g true] [.keep [0, 3, 4, 9] [8]] (K' := [.code [(3, 0), (1, 0), (0, 0), (2, 0), (0, 0), (1, 0)] 0, .code [(3, 0), (1, 0), (0, 0), (2, 0), (0, 0)] 2, .blk 1, .code [(3, 0), (1, 0), (0, 0)] 3]) (σ' := ⟨[(0, .int .i64 a0), (3, .sl 8 0), (4, .int .i64 v2), (9, .int .i64 v2)], [(8, .arr 3 0 0 (.ints v3))]⟩) rfl ⟨hd3, trivial⟩ rfl ?_
        obtain ⟨v4, hk4, h⟩ := bind_some h
        refine Tri.run 1 [.r ⟨[], .bool v4, []⟩] [.keep [0, 3, 4, 9, 14] [8]] (K' := [.code [(3, 0), (1, 0), (0, 0), (2, 0), (0, 0)] 2, .blk 1, .code [(3, 0), (1, 0), (0, 0)] 3]) (σ' := ⟨[(0, .int .i64 a0), (3, .sl 8 0), (4, .int .i64 v2), (9, .int .i64 v2), (14, .bool v4)], [(8, .arr 3 0 0 (.ints v3))]⟩) rfl ⟨(w_impl_HasPlayer a0 v2 v4 hk4), trivial⟩ rfl ?_
        rcases bif_some h with ⟨hd5, h⟩ | ⟨hd5, h⟩
        · obtain ⟨hg6, h⟩ := grd_some h
          refine Tri.run 3 [.g true] [.rever 8, .keep [0, 3, 9] [8]] (K' := []) (σ' := ⟨[(0, .int .i64 a0), (3, .sl 8 0), (9, .int .i64 (IntKind.i64.wrap (v2 + (1 : Int))))], [(8, .arr 3 0 0 (.ints (v3 ++ [v2])))]⟩) rfl ⟨hg6, hd5, trivial⟩ rfl ?_
          have h := Option.some.inj h
          subst h
          exact Tri.nil ⟨rfl, rfl⟩
        · refine Tri.run 2 [.g false] [.keep [0, 3, 9] [8]] (K' := []) (σ' := ⟨[(0, .int .i64 a0), (3, .sl 8 0), (9, .int .i64 (IntKind.i64.wrap (v2 + (1 : Int))))], [(8, .arr 3 0 0 (.ints v3))]⟩) rfl ⟨hd5, trivial⟩ rfl ?_
          have h := Option.some.inj h
          subst h
          exact Tri.nil ⟨rfl, rfl⟩
      · refine Tri.run 1 [.g false] [.keep [3] [8]] (K' := [.code [(3, 0), (1, 0), (0, 0), (1, 0), (0, 1)] 0, .code [(3, 0), (1, 0), (0, 0)] 2]) (σ' := ⟨[(3, .sl 8 0)], [(8, .arr 3 0 0 (.ints v3))]⟩) rfl ⟨hd3, trivial⟩ rfl ?_
        have h := Option.some.inj h
        subst h
        exact Tri.out 0 rfl ⟨nofun, rfl, rfl⟩
    · intro e σ' hne hq
      obtain ⟨rfl, rfl⟩ := hq
      refine TriX.exit (K' := [.code [] 4]) rfl ?_
      refine Tri.run 1 [] [.swap 8 1000, .keep [2] [1000]] (K' := [.code [] 5]) (σ' := ⟨[(2, .sl 1000 0)], [(1000, .arr 3 0 0 (.ints v5))]⟩) rfl trivial rfl ?_
      have h := Option.some.inj h
      subst h
      exact Tri.ret rfl ⟨.inl rfl, rfl, rfl⟩
/-! impl.RatOf -/
noncomputable def E136_impl_RatOf : Env := ⟨Try.prog, tys, (Try.f136.body).getD .skip, 40, tysOk, mixedOk⟩
abbrev q_impl_RatOf (r : Int × Int × Bool) (σ' : ASt) : Prop := resAV E136_impl_RatOf.T σ' Try.f136.results.toList = some (.tuple [.agg [.int .i64 r.1, .int .i64 r.2.1], .bool r.2.2]) ∧ keepO σ'.ob (namesO []) = []
noncomputable def m_impl_RatOf (a0 : Int) (a1 : Int) : Option (Int × Int × Bool) :=
bif a1 == (0 : Int) then
(some (0, 0, false))
else
((m_impl_within a0 (-1000000000000000000 : Int) (1000000000000000000 : Int)).bind fun v1 =>
bif !v1 then
(some (0, 0, false))
else
((m_impl_within a1 (-1000000000000000000 : Int) (1000000000000000000 : Int)).bind fun v2 =>
bif !v2 then
(some (0, 0, false))
else
((m_impl_common a0 a1).bind fun v3 =>
bif decide (a1 < (0 : Int)) then
(grd ((IntKind.i64.wrap (0 - v3)) ≠ 0) <|
grd ((IntKind.i64.wrap (0 - v3)) ≠ 0) <|
(m_impl_IsValidRat (IntKind.i64.wrap (a0.tdiv (IntKind.i64.wrap (0 - v3)))) (IntKind.i64.wrap (a1.tdiv (IntKind.i64.wrap (0 - v3))))).bind fun v4 =>
bif !v4 then
(some (0, 0, false))
else
(some (IntKind.i64.wrap (a0.tdiv (IntKind.i64.wrap (0 - v3))), IntKind.i64.wrap (a1.tdiv (IntKind.i64.wrap (0 - v3))), true)))
else
(grd (v3 ≠ 0) <|
grd (v3 ≠ 0) <|
(m_impl_IsValidRat (IntKind.i64.wrap (a0.tdiv v3)) (IntKind.i64.wrap (a1.tdiv v3))).bind fun v5 =>
bif !v5 then
(some (0, 0, false))
else
(some (IntKind.i64.wrap (a0.tdiv v3), IntKind.i64.wrap (a1.tdiv v3), true))))))
theorem w_impl_RatOf (a0 : Int) (a1 : Int) (r : Int × Int × Bool) (h : m_impl_RatOf a0 a1 = some r) : AM.Spec Try.prog 136 [.int .i64 a0, .int .i64 a1] [] (.tuple [.agg [.int .i64 r.1, .int .i64 r.2.1], .bool r.2.2]) [] := by
  refine spec_of (E := E136_impl_RatOf) Try.func136 rfl rfl rfl rfl ?_
  refine Tri.run 1 [] [.keep [0, 1, 4] [4]] (K' := [.code [(1, 0), (0, 0)] 0, .code [(1, 0)] 1, .code [] 2]) (σ' := ⟨[(0, .int .i64 a0), (1, .int .i64 a1), (4, .ptr 4 0)], [(4, .box [.int .i64 0, .int .i64 0])]⟩) rfl trivial rfl ?_
  rcases bif_some h with ⟨hd1, h⟩ | ⟨hd1, h⟩
  · refine Tri.run 1 [.g true, .g true] [.keep [0, 1, 4, 19] [4]] (K' := [.code [(1, 0)] 1, .code [] 2]) (σ' := ⟨[(0, .int .i64 a0), (1, .int .i64 a1), (4, .ptr 4 0), (19, .bool true)], [(4, .box [.int .i64 0, .int .i64 0])]⟩) rfl ⟨rfl, hd1, trivial⟩ rfl ?_
    refine Tri.run 2 [.g true] [.keep [4, 5] [4]] (K' := [.code [(1, 0), (1, 0)] 1, .code [] 2]) (σ' := ⟨[(4, .ptr 4 0), (5, .bool false)], [(4, .box [.int .i64 0, .int .i64 0])]⟩) rfl ⟨rfl, trivial⟩ rfl ?_
    have h := Option.some.inj h
    subst h
    exact Tri.ret rfl ⟨.inl rfl, rfl, rfl⟩
  · obtain ⟨v1, hk2, h⟩ := bind_some h
    rcases bif_some h with ⟨hd3, h⟩ | ⟨hd3, h⟩
    · refine Tri.run 1 [.g false, .r ⟨[], .bool v1, []⟩, .g true] [.keep [0, 1, 4, 19] [4]] (K' := [.code [(1, 0)] 1, .code [] 2]) (σ' := ⟨[(0, .int .i64 a0), (1, .int .i64 a1), (4, .ptr 4 0), (19, .bool true)], [(4, .box [.int .i64 0, .int .i64 0])]⟩) rfl ⟨hd3, (w_impl_within a0 (-1000000000000000000 : Int) (1000000000000000000 : Int) v1 hk2), hd1, trivial⟩ rfl ?_
      refine Tri.run 2 [.g true] [.keep [4, 5] [4]] (K' := [.code [(1, 0), (1, 0)] 1, .code [] 2]) (σ' := ⟨[(4, .ptr 4 0), (5, .bool false)], [(4, .box [.int .i64 0, .int .i64 0])]⟩) rfl ⟨rfl, trivial⟩ rfl ?_
      have h := Option.some.inj h
      subst h
      exact Tri.ret rfl ⟨.inl rfl, rfl, rfl⟩
    · obtain ⟨v2, hk4, h⟩ := bind_some h
      refine Tri.run 1 [.g false, .r ⟨[], .bool v1, []⟩, .g false, .r ⟨[], .bool v2, []⟩] [.keep [0, 1, 4, 19] [4]] (K' := [.code [(1, 0)] 1, .code [] 2]) (σ' := ⟨[(0, .int .i64 a0), (1, .int .i64 a1), (4, .ptr 4 0), (19, .bool (!v2))], [(4, .box [.int .i64 0, .int .i64 0])]⟩) rfl ⟨(w_impl_within a1 (-1000000000000000000 : Int) (1000000000000000000 : Int) v2 hk4), hd3, (w_impl_within a0 (-1000000000000000000 : Int) (1000000000000000000 : Int) v1 hk2), hd1, trivial⟩ rfl ?_
      rcases bif_some h with ⟨hd5, h⟩ | ⟨hd5, h⟩
      · refine Tri.run 2 [.g true] [.keep [4, 5] [4]] (K' := [.code [(1, 0), (1, 0)] 1, .code [] 2]) (σ' := ⟨[(4, .ptr 4 0), (5, .bool false)], [(4, .box [.int .i64 0, .int .i64 0])]⟩) rfl ⟨hd5, trivial⟩ rfl ?_
        have h := Option.some.inj h
        subst h
        exact Tri.ret rfl ⟨.inl rfl, rfl, rfl⟩
      · obtain ⟨v3, hk6, h⟩ := bind_some h
        refine Tri.run 3 [.g false, .r ⟨[], .int .i64 v3, []⟩] [.keep [0, 1, 4, 6, 25] [4]] (K' := [.code [(3, 0)] 1, .code [] 4]) (σ' := ⟨[(0, .int .i64 a0), (1, .int .i64 a1), (4, .ptr 4 0), (6, .int .i64 v3), (25, .bool (decide (a1 < (0 : Int))))], [(4, .box [.int .i64 0, .int .i64 0])]⟩) rfl ⟨(w_impl_common a0 a1 v3 hk6), hd5, trivial⟩ rfl ?_
        rcases bif_some h with ⟨hd7, h⟩ | ⟨hd7, h⟩
        · obtain ⟨hg8, h⟩ := grd_some h
          obtain ⟨hg9, h⟩ := grd_some h
          refine Tri.run 3 [.g true] [.keep [4, 7] [4, 7]] (K' := [.code [(5, 0), (0, 0)] 0, .code [(5, 0)] 1, .code [] 6]) (σ' := ⟨[(4, .ptr 4 0), (7, .ptr 7 0)], [(4, .box [.int .i64 0, .int .i64 0]), (7, .box [.int .i64 (IntKind.i64.wrap (a0.tdiv (IntKind.i64.wrap (0 - v3)))), .int .i64 (IntKind.i64.wrap (a1.tdiv (IntKind.i64.wrap (0 - v3))))])]⟩) rfl ⟨hg9, hg8, hd7, trivial⟩ rfl ?_
          obtain ⟨v4, hk10, h⟩ := bind_some h
          refine Tri.run 1 [.r ⟨[], .bool v4, []⟩] [.keep [4, 7, 37] [4, 7]] (K' := [.code [(5, 0)] 1, .code [] 6]) (σ' := ⟨[(4, .ptr 4 0), (7, .ptr 7 0), (37, .bool (!v4))], [(4, .box [.int .i64 0, .int .i64 0]), (7, .box [.int .i64 (IntKind.i64.wrap (a0.tdiv (IntKind.i64.wrap (0 - v3)))), .int .i64 (IntKind.i64.wrap (a1.tdiv (IntKind.i64.wrap (0 - v3))))])]⟩) rfl ⟨(w_impl_IsValidRat (IntKind.i64.wrap (a0.tdiv (IntKind.i64.wrap (0 - v3)))) (IntKind.i64.wrap (a1.tdiv (IntKind.i64.wrap (0 - v3)))) v4 hk10), trivial⟩ rfl ?_
          rcases bif_some h with ⟨hd11, h⟩ | ⟨hd11, h⟩
          · refine Tri.run 2 [.g true] [.keep [4, 5] [4]] (K' := [.code [(5, 0), (1, 0)] 1, .code [] 6]) (σ' := ⟨[(4, .ptr 4 0), (5, .bool false)], [(4, .box [.int .i64 0, .int .i64 0])]⟩) rfl ⟨hd11, trivial⟩ rfl ?_
            have h := Option.some.inj h
            subst h
            exact Tri.ret rfl ⟨.inl rfl, rfl, rfl⟩
          · refine Tri.run 2 [.g false] [.keep [4, 5] [4]] (K' := [.code [] 7]) (σ' := ⟨[(4, .ptr 4 0), (5, .bool true)], [(4, .box [.int .i64 (IntKind.i64.wrap (a0.tdiv (IntKind.i64.wrap (0 - v3)))), .int .i64 (IntKind.i64.wrap (a1.tdiv (IntKind.i64.wrap (0 - v3))))])]⟩) rfl ⟨hd11, trivial⟩ rfl ?_
            have h := Option.some.inj h
            subst h
            exact Tri.ret rfl ⟨.inl rfl, rfl, rfl⟩
        · obtain ⟨hg12, h⟩ := grd_some h
          obtain ⟨hg13, h⟩ := grd_some h
          refine Tri.run 2 [.g false] [.keep [4, 7] [4, 7]] (K' := [.code [(5, 0), (0, 0)] 0, .code [(5, 0)] 1, .code [] 6]) (σ' := ⟨[(4, .ptr 4 0), (7, .ptr 7 0)], [(4, .box [.int .i64 0, .int .i64 0]), (7, .box [.int .i64 (IntKind.i64.wrap (a0.tdiv v3)), .int .i64 (IntKind.i64.wrap (a1.tdiv v3))])]⟩) rfl ⟨hg13, hg12, hd7, trivial⟩ rfl ?_
          obtain ⟨v5, hk14, h⟩ := bind_some h
          refine Tri.run 1 [.r ⟨[], .bool v5, []⟩] [.keep [4, 7, 37] [4, 7]] (K' := [.code [(5, 0)] 1, .code [] 6]) (σ' := ⟨[(4, .ptr 4 0), (7, .ptr 7 0), (37, .bool (!v5))], [(4, .box [.int .i64 0, .int .i64 0]), (7, .box [.int .i64 (IntKind.i64.wrap (a0.tdiv v3)), .int .i64 (IntKind.i64.wrap (a1.tdiv v3))])]⟩) rfl ⟨(w_impl_IsValidRat (IntKind.i64.wrap (a0.tdiv v3)) (IntKind.i64.wrap (a1.tdiv v3)) v5 hk14), trivial⟩ rfl ?_
          rcases bif_some h with ⟨hd15, h⟩ | ⟨hd15, h⟩
          · refine Tri.run 2 [.g true] [.keep [4, 5] [4]] (K' := [.code [(5, 0), (1, 0)] 1, .code [] 6]) (σ' := ⟨[(4, .ptr 4 0), (5, .bool false)], [(4, .box [.int .i64 0, .int .i64 0])]⟩) rfl ⟨hd15, trivial⟩ rfl ?_
            have h := Option.some.inj h
            subst h
            exact Tri.ret rfl ⟨.inl rfl, rfl, rfl⟩
          · refine Tri.run 2 [.g false] [.keep [4, 5] [4]] (K' := [.code [] 7]) (σ' := ⟨[(4, .ptr 4 0), (5, .bool true)], [(4, .box [.int .i64 (IntKind.i64.wrap (a0.tdiv v3)), .int .i64 (IntKind.i64.wrap (a1.tdiv v3))])]⟩) rfl ⟨hd15, trivial⟩ rfl ?_
            have h := Option.some.inj h
            subst h
            exact Tri.ret rfl ⟨.inl rfl, rfl, rfl⟩
/-! impl.AddRat -/
noncomputable def E87_impl_AddRat : Env := ⟨Try.prog, tys, (Try.f87.body).getD .skip, 34, tysOk, mixedOk⟩
abbrev q_impl_AddRat (r : Int × Int × Bool) (σ' : ASt) : Prop := resAV E87_impl_AddRat.T σ' Try.f87.results.toList = some (.tuple [.agg [.int .i64 r.1, .int .i64 r.2.1], .bool r.2.2]) ∧ keepO σ'.ob (namesO []) = []
noncomputable def m_impl_AddRat (a0 : Int) (a1 : Int) (a2 : Int) (a3 : Int) : Option (Int × Int × Bool) :=
(m_impl_IsValidRat a0 a1).bind fun v1 =>
bif !v1 then
(some (0, 0, false))
else
((m_impl_IsValidRat a2 a3).bind fun v2 =>
bif !v2 then
(some (0, 0, false))
else
((m_impl_RatOf (IntKind.i64.wrap ((IntKind.i64.wrap (a0 * a3)) + (IntKind.i64.wrap (a2 * a1)))) (IntKind.i64.wrap (a1 * a3))).bind fun (v3, v4, v5) =>
some (v3, v4, v5)))
theorem w_impl_AddRat (a0 : Int) (a1 : Int) (a2 : Int) (a3 : Int) (r : Int × Int × Bool) (h : m_impl_AddRat a0 a1 a2 a3 = some r) : AM.Spec Try.prog 87 [.agg [.int .i64 a0, .int .i64 a1], .agg [.int .i64 a2, .int .i64 a3]] [] (.tuple [.agg [.int .i64 r.1, .int .i64 r.2.1], .bool r.2.2]) [] := by
  refine spec_of (E := E87_impl_AddRat) Try.func87 rfl rfl rfl rfl ?_
  refine Tri.run 1 [] [.keep [2, 3, 4] [2, 3, 4]] (K' := [.code [(1, 0), (0, 0)] 0, .code [(1, 0)] 1, .code [] 2]) (σ' := ⟨[(2, .ptr 2 0), (3, .ptr 3 0), (4, .ptr 4 0)], [(2, .box [.int .i64 a0, .int .i64 a1]), (3, .box [.int .i64 a2, .int .i64 a3]), (4, .box [.int .i64 0, .int .i64 0])]⟩) rfl trivial rfl ?_
  obtain ⟨v1, hk1, h⟩ := bind_some h
  rcases bif_some h with ⟨hd2, h⟩ | ⟨hd2, h⟩
  · refine Tri.run 1 [.r ⟨[], .bool v1, []⟩, .g true] [.keep [2, 3, 4, 13] [2, 3, 4]] (K' := [.code [(1, 0)] 1, .code [] 2]) (σ' := ⟨[(2, .ptr 2 0), (3, .ptr 3 0), (4, .ptr 4 0), (13, .bool true)], [(2, .box [.int .i64 a0, .int .i64 a1]), (3, .box [.int .i64 a2, .int .i64 a3]), (4, .box [.int .i64 0, .int .i64 0])]⟩) rfl ⟨hd2, (w_impl_IsValidRat a0 a1 v1 hk1), trivial⟩ rfl ?_
    refine Tri.run 2 [.g true] [.keep [4, 5] [4]] (K' := [.code [(1, 0), (1, 0)] 1, .code [] 2]) (σ' := ⟨[(4, .ptr 4 0), (5, .bool false)], [(4, .box [.int .i64 0, .int .i64 0])]⟩) rfl ⟨rfl, trivial⟩ rfl ?_
    have h := Option.some.inj h
    subst h
    exact Tri.ret rfl ⟨.inl rfl, rfl, rfl⟩
  · obtain ⟨v2, hk3, h⟩ := bind_some h
    refine Tri.run 1 [.r ⟨[], .bool v1, []⟩, .g false, .r ⟨[], .bool v2, []⟩] [.keep [2, 3, 4, 13] [2, 3, 4]] (K' := [.code [(1, 0)] 1, .code [] 2]) (σ' := ⟨[(2, .ptr 2 0), (3, .ptr 3 0), (4, .ptr 4 0), (13, .bool (!v2))], [(2, .box [.int .i64 a0, .int .i64 a1]), (3, .box [.int .i64 a2, .int .i64 a3]), (4, .box [.int .i64 0, .int .i64 0])]⟩) rfl ⟨(w_impl_IsValidRat a2 a3 v2 hk3), hd2, (w_impl_IsValidRat a0 a1 v1 hk1), trivial⟩ rfl ?_
    rcases bif_some h with ⟨hd4, h⟩ | ⟨hd4, h⟩
    · refine Tri.run 2 [.g true] [.keep [4, 5] [4]] (K' := [.code [(1, 0), (1, 0)] 1, .code [] 2]) (σ' := ⟨[(4, .ptr 4 0), (5, .bool false)], [(4, .box [.int .i64 0, .int .i64 0])]⟩) rfl ⟨hd4, trivial⟩ rfl ?_
      have h := Option.some.inj h
      subst h
      exact Tri.ret rfl ⟨.inl rfl, rfl, rfl⟩
    · obtain ⟨⟨v3, v4, v5⟩, hk5, h⟩ := bind_some h
      refine Tri.run 2 [.g false, .r ⟨[], .tuple [.agg [.int .i64 v3, .int .i64 v4], .bool v5], []⟩] [.keep [4, 5] [4]] (K' := [.code [] 3]) (σ' := ⟨[(4, .ptr 4 0), (5, .bool v5)], [(4, .box [.int .i64 v3, .int .i64 v4])]⟩) rfl ⟨(w_impl_RatOf (IntKind.i64.wrap ((IntKind.i64.wrap (a0 * a3)) + (IntKind.i64.wrap (a2 * a1)))) (IntKind.i64.wrap (a1 * a3)) (v3, v4, v5) hk5), hd4, trivial⟩ rfl ?_
      have h := Option.some.inj h
      subst h
      exact Tri.ret rfl ⟨.inl rfl, rfl, rfl⟩
/-! impl.ShareOf -/
noncomputable def E74_impl_ShareOf : Env := ⟨Try.prog, tys, (Try.f74.body).getD .skip, 43, tysOk, mixedOk⟩
abbrev q_impl_ShareOf (r : Int × Int × Bool) (σ' : ASt) : Prop := resAV E74_impl_ShareOf.T σ' Try.f74.results.toList = some (.tuple [.agg [.int .i64 r.1, .int .i64 r.2.1], .bool r.2.2]) ∧ keepO σ'.ob (namesO []) = []
noncomputable def l_impl_ShareOf_0 (a0 : List Q) (v4 : List Int) : (Int × Int × Int) → Option ((Int × Int × Int) ⊕ ((Int × Int) ⊕ ((Int × Int × Bool))))
  | (v5, v6, v7) => (
bif decide (v5 < (v4.length : Int)) then
(grd ((0 : Int) ≤ v5 ∧ v5 < (v4.length : Int)) <|
bif decide ((v4.getD v5.toNat 0) ≥ (a0.length : Int)) then
(some (.inr (.inr (0, 0, false))))
else
(grd ((0 : Int) ≤ v4.getD v5.toNat 0 ∧ v4.getD v5.toNat 0 < (a0.length : Int)) <|
(m_impl_AddRat v6 v7 ((a0.getD ((v4.getD v5.toNat 0).toNat) ⟨0, 0⟩).num) ((a0.getD ((v4.getD v5.toNat 0).toNat) ⟨0, 0⟩).den)).bind fun (v8, v9, v10) =>
bif !v10 then
(some (.inr (.inr (0, 0, false))))
else
(some (.inl (IntKind.i64.wrap (v5 + (1 : Int)), v8, v9)))))
else
(some (.inr (.inl (v6, v7)))))
noncomputable def m_impl_ShareOf (a0 : List Q) (a1 : Int) : Option (Int × Int × Bool) :=
(m_impl_within a1 (0 : Int) (31 : Int)).bind fun v1 =>
bif !v1 then
(some (0, 0, false))
else
((m_impl_whole (0 : Int)).bind fun (v2, v3) =>
(m_impl_MembersOf a1).bind fun v4 =>
(iter (l_impl_ShareOf_0 a0 v4) ((0 : Int), v2, v3)).bind fun
| (.inl (v11, v12)) => (
some (v11, v12, true))
| (.inr r) => some r)
theorem w_impl_ShareOf (a0 : List Q) (a1 : Int) (r : Int × Int × Bool) (h : m_impl_ShareOf a0 a1 = some r) : AM.Spec Try.prog 74 [.list (.rats a0), .int .i64 a1] [] (.tuple [.agg [.int .i64 r.1, .int .i64 r.2.1], .bool r.2.2]) [] := by
  refine spec_of (E := E74_impl_ShareOf) Try.func74 rfl rfl rfl rfl ?_
  refine Tri.run 1 [] [.keep [0, 1, 4] [4]] (K' := [.code [(1, 0), (0, 0)] 0, .code [(1, 0)] 1, .code [] 2]) (σ' := ⟨[(0, .list (.rats a0)), (1, .int .i64 a1), (4, .ptr 4 0)], [(4, .box [.int .i64 0, .int .i64 0])]⟩) rfl trivial rfl ?_
  obtain ⟨v1, hk1, h⟩ := bind_some h
  refine Tri.run 1 [.r ⟨[], .bool v1, []⟩] [.keep [0, 1, 4, 13] [4]] (K' := [.code [(1, 0)] 1, .code [] 2]) (σ' := ⟨[(0, .list (.rats a0)), (1, .int .i64 a1), (4, .ptr 4 0), (13, .bool (!v1))], [(4, .box [.int .i64 0, .int .i64 0])]⟩) rfl ⟨(w_impl_within a1 (0 : Int) (31 : Int) v1 hk1), trivial⟩ rfl ?_
  rcases bif_some h with ⟨hd2, h⟩ | ⟨hd2, h⟩
  · refine Tri.run 2 [.g true] [.keep [4, 5] [4]] (K' := [.code [(1, 0), (1, 0)] 1, .code [] 2]) (σ' := ⟨[(4, .ptr 4 0), (5, .bool false)], [(4, .box [.int .i64 0, .int .i64 0])]⟩) rfl ⟨hd2, trivial⟩ rfl ?_
    have h := Option.some.inj h
    subst h
    exact Tri.ret rfl ⟨.inl rfl, rfl, rfl⟩
  · obtain ⟨⟨v2, v3⟩, hk3, h⟩ := bind_some h
    refine Tri.run 2 [.g false, .r ⟨[], .agg [.int .i64 v2, .int .i64 v3], []⟩] [.keep [0, 1, 4, 6] [4, 6]] (K' := [.code [(3, 0), (0, 0)] 0, .code [(3, 0)] 1, .code [] 4]) (σ' := ⟨[(0, .list (.rats a0)), (1, .int .i64 a1), (4, .ptr 4 0), (6, .ptr 6 0)], [(4, .box [.int .i64 0, .int .i64 0]), (6, .box [.int .i64 v2, .int .i64 v3])]⟩) rfl ⟨(w_impl_whole (0 : Int) (v2, v3) hk3), hd2, trivial⟩ rfl ?_
    obtain ⟨v4, hk4, h⟩ := bind_some h
    refine Tri.run 1 [.r ⟨[], .sl 1100 0, [(1100, .arr 3 0 0 (.ints v4))]⟩] [.keep [0, 4, 6, 17, 18, 19] [4, 6, 1100]] (K' := [.code [(3, 0), (1, 0)] 0, .blk 0, .code [] 4]) (σ' := ⟨[(0, .list (.rats a0)), (4, .ptr 4 0), (6, .ptr 6 0), (17, .sl 1100 0), (18, .int .i64 (v4.length : Int)), (19, .int .i64 (0 : Int))], [(4, .box [.int .i64 0, .int .i64 0]), (6, .box [.int .i64 v2, .int .i64 v3]), (1100, .arr 3 0 0 (.ints v4))]⟩) rfl ⟨((w_impl_MembersOf a1 v4 hk4).swap 1000 1100), trivial⟩ rfl ?_
    obtain ⟨x1, hk11, h⟩ := bind_some h
    refine Tri.loop (K1 := [.code [(3, 0), (1, 0), (0, 0)] 0]) (K2 := [.blk 0, .code [] 4]) (fun (v5, v6, v7) => ⟨[(0, .list (.rats a0)), (4, .ptr 4 0), (6, .ptr 6 0), (17, .sl 1100 0), (18, .int .i64 (v4.length : Int)), (19, .int .i64 v5)], [(4, .box [.int .i64 0, .int .i64 0]), (6, .box [.int .i64 v6, .int .i64 v7]), (1100, .arr 3 0 0 (.ints v4))]⟩) (fun x e σ' => match x with | (.inl (v11, v12)) => e = .exit 0 ∧ σ' = ⟨[(4, .ptr 4 0), (6, .ptr 6 0)], [(4, .box [.int .i64 0, .int .i64 0]), (6, .box [.int .i64 v11, .int .i64 v12])]⟩ | (.inr r) => e = .ret ∧ q_impl_ShareOf r σ') hk11 rfl rfl ?_ ?_
    · intro s x hs
      clear h
      have h := hs
      clear hs
      obtain ⟨v5, v6, v7⟩ := s
      refine Tri.run 1 [] [.keep [0, 4, 6, 17, 18, 19, 20] [4, 6, 1100]] (K' := [.code [(3, 0), (1, 0), (0, 0), (1, 0)] 0, .code [(3, 0), (1, 0), (0, 0)] 2]) (σ' := ⟨[(0, .list (.rats a0)), (4, .ptr 4 0), (6, .ptr 6 0), (17, .sl 1100 0), (18, .int .i64 (v4.length : Int)), (19, .int .i64 v5), (20, .bool (decide (v5 < (v4.length : Int))))], [(4, .box [.int .i64 0, .int .i64 0]), (6, .box [.int .i64 v6, .int .i64 v7]), (1100, .arr 3 0 0 (.ints v4))]⟩) rfl trivial rfl ?_
      rcases bif_some h with ⟨hd5, h⟩ | ⟨hd5, h⟩
      · obtain ⟨hg6, h⟩ := grd_some h
        refine Tri.run 3 [.g true] [.keep [0, 4, 6, 8, 17, 18, 19, 26] [4, 6, 1100]] (K' := [.code [(3, 0), (1, 0), (0, 0), (2, 0), (0, 0), (1, 0)] 1, .code [(3, 0), (1, 0), (0, 0), (2, 0), (0, 0)] 2, .blk 1, .code [(3, 0), (1, 0), (0, 0)] 3]) (σ' := ⟨[(0, .list (.rats a0)), (4, .ptr 4 0), (6, .ptr 6 0), (8, .int .i64 (v4.getD v5.toNat 0)), (17, .sl 1100 0), (18, .int .i64 (v4.length : Int)), (19, .int .i64 v5), (26, .bool (decide ((v4.getD v5.toNat 0) ≥ (a0.length : Int))))], [(4, .box [.int .i64 0, .int .i64 0]), (6, .box [.int .i64 v6, .int .i64 v7]), (1100, .arr 3 0 0 (.ints v4))]⟩) rfl ⟨hg6, hd5, trivial⟩ rfl ?_
        rcases bif_some h with ⟨hd7, h⟩ | ⟨hd7, h⟩
        · refine Tri.run 2 [.g true] [.keep [4, 5] [4]] (K' := [.code [(3, 0), (1, 0), (0, 0), (2, 0), (0, 0), (1, 0), (1, 0)] 1, .code [(3, 0), (1, 0), (0, 0), (2, 0), (0, 0)] 2, .blk 1, .code [(3, 0), (1, 0), (0, 0)] 3]) (σ' := ⟨[(4, .ptr 4 0), (5, .bool false)], [(4, .box [.int .i64 0, .int .i64 0])]⟩) rfl ⟨hd7, trivial⟩ rfl ?_
          have h := Option.some.inj h
          subst h
          exact Tri.ret rfl ⟨nofun, rfl, rfl, rfl⟩
        · obtain ⟨hg8, h⟩ := grd_some h
          obtain ⟨⟨v8, v9, v10⟩, hk9, h⟩ := bind_some h
          refine Tri.run 3 [.g false, .r ⟨[], .tuple [.agg [.int .i64 v8, .int .i64 v9], .bool v10], []⟩] [.keep [0, 4, 6, 9, 17, 18, 19, 38] [4, 6, 9, 1100]] (K' := [.code [(3, 0), (1, 0), (0, 0), (2, 0), (0, 0), (3, 0)] 1, .code [(3, 0), (1, 0), (0, 0), (2, 0), (0, 0)] 4, .blk 1, .code [(3, 0), (1, 0), (0, 0)] 3]) (σ' := ⟨[(0, .list (.rats a0)), (4, .ptr 4 0), (6, .ptr 6 0), (9, .ptr 9 0), (17, .sl 1100 0), (18, .int .i64 (v4.length : Int)), (19, .int .i64 v5), (38, .bool (!v10))], [(4, .box [.int .i64 0, .int .i64 0]), (6, .box [.int .i64 v6, .int .i64 v7]), (9, .box [.int .i64 v8, .int .i64 v9]), (1100, .arr 3 0 0 (.ints v4))]⟩) rfl ⟨(w_impl_AddRat v6 v7 ((a0.getD ((v4.getD v5.toNat 0).toNat) ⟨0, 0⟩).num) ((a0.getD ((v4.getD v5.toNat 0).toNat) ⟨0, 0⟩).den) (v8, v9, v10) hk9), hg8, hd7, trivial⟩ rfl ?_
          rcases bif_some h with ⟨hd10, h⟩ | ⟨hd10, h⟩
          · refine Tri.run 2 [.g true] [.keep [4, 5] [4]] (K' := [.code [(3, 0), (1, 0), (0, 0), (2, 0), (0, 0), (3, 0), (1, 0)] 1, .code [(3, 0), (1, 0), (0, 0), (2, 0), (0, 0)] 4, .blk 1, .code [(3, 0), (1, 0), (0, 0)] 3]) (σ' := ⟨[(4, .ptr 4 0), (5, .bool false)], [(4, .box [.int .i64 0, .int .i64 0])]⟩) rfl ⟨hd10, trivial⟩ rfl ?_
            have h := Option.some.inj h
            subst h
            exact Tri.ret rfl ⟨nofun, rfl, rfl, rfl⟩
          · refine Tri.run 3 [.g false] [.keep [0, 4, 6, 17, 18, 19] [4, 6, 1100]] (K' := []) (σ' := ⟨[(0, .list (.rats a0)), (4, .ptr 4 0), (6, .ptr 6 0), (17, .sl 1100 0), (18, .int .i64 (v4.length : Int)), (19, .int .i64 (IntKind.i64.wrap (v5 + (1 : Int))))], [(4, .box [.int .i64 0, .int .i64 0]), (6, .box [.int .i64 v8, .int .i64 v9]), (1100, .arr 3 0 0 (.ints v4))]⟩) rfl ⟨hd10, trivial⟩ rfl ?_
            have h := Option.some.inj h
            subst h
            exact Tri.nil ⟨rfl, rfl⟩
      · refine Tri.run 1 [.g false] [.keep [4, 6] [4, 6]] (K' := [.code [(3, 0), (1, 0), (0, 0), (1, 0), (0, 1)] 0, .code [(3, 0), (1, 0), (0, 0)] 2]) (σ' := ⟨[(4, .ptr 4 0), (6, .ptr 6 0)], [(4, .box [.int .i64 0, .int .i64 0]), (6, .box [.int .i64 v6, .int .i64 v7])]⟩) rfl ⟨hd5, trivial⟩ rfl ?_
        have h := Option.some.inj h
        subst h
        exact Tri.out 0 rfl ⟨nofun, rfl, rfl⟩
    · intro e σ' hne hq
      rcases x1 with ⟨v11, v12⟩ | r
      · obtain ⟨rfl, rfl⟩ := hq
        refine TriX.exit (K' := [.code [] 4]) rfl ?_
        refine Tri.run 1 [] [.keep [4, 5] [4]] (K' := [.code [] 5]) (σ' := ⟨[(4, .ptr 4 0), (5, .bool true)], [(4, .box [.int .i64 v11, .int .i64 v12])]⟩) rfl trivial rfl ?_
        have h := Option.some.inj h
        subst h
        exact Tri.ret rfl ⟨.inl rfl, rfl, rfl⟩
      · obtain ⟨rfl, hq⟩ := hq
        have h := Option.some.inj h
        subst h
        exact TriX.ret ⟨.inl rfl, hq⟩
/-! impl.IsPayoff -/
noncomputable def E25_impl_IsPayoff : Env := ⟨Try.prog, tys, (Try.f25.body).getD .skip, 39, tysOk, mixedOk⟩
abbrev q_impl_IsPayoff (r : Bool) (σ' : ASt) : Prop := resAV E25_impl_IsPayoff.T σ' Try.f25.results.toList = some (.bool r) ∧ keepO σ'.ob (namesO []) = []
noncomputable def m_impl_IsPayoff (a0 : Int) (a1 : List Int) (a2 : List Q) : Option Bool :=
(m_impl_IsValidGame a0 a1).bind fun v1 =>
bif !v1 then
(some false)
else
(bif (a2.length : Int) != a0 then
(some false)
else
((m_impl_AllValid a2).bind fun v2 =>
bif !v2 then
(some false)
else
((m_impl_ShareOf a2 (IntKind.i64.wrap ((a1.length : Int) - (1 : Int)))).bind fun (v3, v4, v5) =>
bif v5 then
((m_impl_GrandValue a0 a1).bind fun v6 =>
(m_impl_whole v6).bind fun (v7, v8) =>
some (v3 == v7 && v4 == v8))
else
(some false))))
theorem w_impl_IsPayoff (a0 : Int) (a1 : List Int) (a2 : List Q) (r : Bool) (h : m_impl_IsPayoff a0 a1 a2 = some r) : AM.Spec Try.prog 25 [.agg [.int .i64 a0, .list (.ints a1)], .list (.rats a2)] [] (.bool r) [] := by
  refine spec_of (E := E25_impl_IsPayoff) Try.func25 rfl rfl rfl rfl ?_
  refine Tri.run 1 [] [.keep [1, 2] [2]] (K' := [.code [(1, 0), (0, 0)] 0, .code [(1, 0)] 1, .code [] 2]) (σ' := ⟨[(1, .list (.rats a2)), (2, .ptr 2 0)], [(2, .box [.int .i64 a0, .list (.ints a1)])]⟩) rfl trivial rfl ?_
  obtain ⟨v1, hk1, h⟩ := bind_some h
  rcases bif_some h with ⟨hd2, h⟩ | ⟨hd2, h⟩
  · refine Tri.run 1 [.r ⟨[], .bool v1, []⟩, .g true, .g true] [.keep [1, 2, 21] [2]] (K' := [.code [(1, 0)] 1, .code [] 2]) (σ' := ⟨[(1, .list (.rats a2)), (2, .ptr 2 0), (21, .bool true)], [(2, .box [.int .i64 a0, .list (.ints a1)])]⟩) rfl ⟨rfl, hd2, (w_impl_IsValidGame a0 a1 v1 hk1), trivial⟩ rfl ?_
    refine Tri.run 2 [.g true] [.keep [4] []] (K' := [.code [(1, 0), (1, 0)] 1, .code [] 2]) (σ' := ⟨[(4, .bool false)], []⟩) rfl ⟨rfl, trivial⟩ rfl ?_
    have h := Option.some.inj h
    subst h
    exact Tri.ret rfl ⟨.inl rfl, rfl, rfl⟩
  · rcases bif_some h with ⟨hd3, h⟩ | ⟨hd3, h⟩
    · refine Tri.run 1 [.r ⟨[], .bool v1, []⟩, .g false, .g true] [.keep [1, 2, 21] [2]] (K' := [.code [(1, 0)] 1, .code [] 2]) (σ' := ⟨[(1, .list (.rats a2)), (2, .ptr 2 0), (21, .bool true)], [(2, .box [.int .i64 a0, .list (.ints a1)])]⟩) rfl ⟨hd3, hd2, (w_impl_IsValidGame a0 a1 v1 hk1), trivial⟩ rfl ?_
      refine Tri.run 2 [.g true] [.keep [4] []] (K' := [.code [(1, 0), (1, 0)] 1, .code [] 2]) (σ' := ⟨[(4, .bool false)], []⟩) rfl ⟨rfl, trivial⟩ rfl ?_
      have h := Option.some.inj h
      subst h
      exact Tri.ret rfl ⟨.inl rfl, rfl, rfl⟩
    · obtain ⟨v2, hk4, h⟩ := bind_some h
      refine Tri.run 1 [.r ⟨[], .bool v1, []⟩, .g false, .g false, .r ⟨[], .bool v2, []⟩] [.keep [1, 2, 21] [2]] (K' := [.code [(1, 0)] 1, .code [] 2]) (σ' := ⟨[(1, .list (.rats a2)), (2, .ptr 2 0), (21, .bool (!v2))], [(2, .box [.int .i64 a0, .list (.ints a1)])]⟩) rfl ⟨(w_impl_AllValid a2 v2 hk4), hd3, hd2, (w_impl_IsValidGame a0 a1 v1 hk1), trivial⟩ rfl ?_
      rcases bif_some h with ⟨hd5, h⟩ | ⟨hd5, h⟩
      · refine Tri.run 2 [.g true] [.keep [4] []] (K' := [.code [(1, 0), (1, 0)] 1, .code [] 2]) (σ' := ⟨[(4, .bool false)], []⟩) rfl ⟨hd5, trivial⟩ rfl ?_
        have h := Option.some.inj h
        subst h
        exact Tri.ret rfl ⟨.inl rfl, rfl, rfl⟩
      · obtain ⟨⟨v3, v4, v5⟩, hk6, h⟩ := bind_some h
        refine Tri.run 2 [.g false, .r ⟨[], .tuple [.agg [.int .i64 v3, .int .i64 v4], .bool v5], []⟩] [.keep [2, 5, 6] [2, 5]] (K' := [.code [(3, 0)] 0, .code [] 4]) (σ' := ⟨[(2, .ptr 2 0), (5, .ptr 5 0), (6, .bool v5)], [(2, .box [.int .i64 a0, .list (.ints a1)]), (5, .box [.int .i64 v3, .int .i64 v4])]⟩) rfl ⟨(w_impl_ShareOf a2 (IntKind.i64.wrap ((a1.length : Int) - (1 : Int))) (v3, v4, v5) hk6), hd5, trivial⟩ rfl ?_
        rcases bif_some h with ⟨hd7, h⟩ | ⟨hd7, h⟩
        · obtain ⟨v6, hk8, h⟩ := bind_some h
          obtain ⟨⟨v7, v8⟩, hk9, h⟩ := bind_some h
          refine Tri.run 1 [.g true, .r ⟨[], .int .i64 v6, []⟩, .r ⟨[], .agg [.int .i64 v7, .int .i64 v8], []⟩] [.keep [4] []] (K' := [.code [] 4]) (σ' := ⟨[(4, .bool (v3 == v7 && v4 == v8))], []⟩) rfl ⟨(w_impl_whole v6 (v7, v8) hk9), (w_impl_GrandValue a0 a1 v6 hk8), hd7, trivial⟩ rfl ?_
          have h := Option.some.inj h
          subst h
          exact Tri.ret rfl ⟨.inl rfl, rfl, rfl⟩
        · refine Tri.run 1 [.g false] [.keep [4] []] (K' := [.code [] 4]) (σ' := ⟨[(4, .bool false)], []⟩) rfl ⟨hd7, trivial⟩ rfl ?_
          have h := Option.some.inj h
          subst h
          exact Tri.ret rfl ⟨.inl rfl, rfl, rfl⟩
/-! impl.SubRat -/
noncomputable def E75_impl_SubRat : Env := ⟨Try.prog, tys, (Try.f75.body).getD .skip, 34, tysOk, mixedOk⟩
abbrev q_impl_SubRat (r : Int × Int × Bool) (σ' : ASt) : Prop := resAV E75_impl_SubRat.T σ' Try.f75.results.toList = some (.tuple [.agg [.int .i64 r.1, .int .i64 r.2.1], .bool r.2.2]) ∧ keepO σ'.ob (namesO []) = []
noncomputable def m_impl_SubRat (a0 : Int) (a1 : Int) (a2 : Int) (a3 : Int) : Option (Int × Int × Bool) :=
(m_impl_IsValidRat a0 a1).bind fun v1 =>
bif !v1 then
(some (0, 0, false))
else
((m_impl_IsValidRat a2 a3).bind fun v2 =>
bif !v2 then
(some (0, 0, false))
else
((m_impl_RatOf (IntKind.i64.wrap ((IntKind.i64.wrap (a0 * a3)) - (IntKind.i64.wrap (a2 * a1)))) (IntKind.i64.wrap (a1 * a3))).bind fun (v3, v4, v5) =>
some (v3, v4, v5)))
theorem w_impl_SubRat (a0 : Int) (a1 : Int) (a2 : Int) (a3 : Int) (r : Int × Int × Bool) (h : m_impl_SubRat a0 a1 a2 a3 = some r) : AM.Spec Try.prog 75 [.agg [.int .i64 a0, .int .i64 a1], .agg [.int .i64 a2, .int .i64 a3]] [] (.tuple [.agg [.int .i64 r.1, .int .i64 r.2.1], .bool r.2.2]) [] := by
  refine spec_of (E := E75_impl_SubRat) Try.func75 rfl rfl rfl rfl ?_
  refine Tri.run 1 [] [.keep [2, 3, 4] [2, 3, 4]] (K' := [.code [(1, 0), (0, 0)] 0, .code [(1, 0)] 1, .code [] 2]) (σ' := ⟨[(2, .ptr 2 0), (3, .ptr 3 0), (4, .ptr 4 0)], [(2, .box [.int .i64 a0, .int .i64 a1]), (3, .box [.int .i64 a2, .int .i64 a3]), (4, .box [.int .i64 0, .int .i64 0])]⟩) rfl trivial rfl ?_
  obtain ⟨v1, hk1, h⟩ := bind_some h
  rcases bif_some h with ⟨hd2, h⟩ | ⟨hd2, h⟩
  · refine Tri.run 1 [.r ⟨[], .bool v1, []⟩, .g true] [.keep [2, 3, 4, 13] [2, 3, 4]] (K' := [.code [(1, 0)] 1, .code [] 2]) (σ' := ⟨[(2, .ptr 2 0), (3, .ptr 3 0), (4, .ptr 4 0), (13, .bool true)], [(2, .box [.int .i64 a0, .int .i64 a1]), (3, .box [.int .i64 a2, .int .i64 a3]), (4, .box [.int .i64 0, .int .i64 0])]⟩) rfl ⟨hd2, (w_impl_IsValidRat a0 a1 v1 hk1), trivial⟩ rfl ?_
    refine Tri.run 2 [.g true] [.keep [4, 5] [4]] (K' := [.code [(1, 0), (1, 0)] 1, .code [] 2]) (σ' := ⟨[(4, .ptr 4 0), (5, .bool false)], [(4, .box [.int .i64 0, .int .i64 0])]⟩) rfl ⟨rfl, trivial⟩ rfl ?_
    have h := Option.some.inj h
    subst h
    exact Tri.ret rfl ⟨.inl rfl, rfl, rfl⟩
  · obtain ⟨v2, hk3, h⟩ := bind_some h
    refine Tri.run 1 [.r ⟨[], .bool v1, []⟩, .g false, .r ⟨[], .bool v2, []⟩] [.keep [2, 3, 4, 13] [2, 3, 4]] (K' := [.code [(1, 0)] 1, .code [] 2]) (σ' := ⟨[(2, .ptr 2 0), (3, .ptr 3 0), (4, .ptr 4 0), (13, .bool (!v2))], [(2, .box [.int .i64 a0, .int .i64 a1]), (3, .box [.int .i64 a2, .int .i64 a3]), (4, .box [.int .i64 0, .int .i64 0])]⟩) rfl ⟨(w_impl_IsValidRat a2 a3 v2 hk3), hd2, (w_impl_IsValidRat a0 a1 v1 hk1), trivial⟩ rfl ?_
    rcases bif_some h with ⟨hd4, h⟩ | ⟨hd4, h⟩
    · refine Tri.run 2 [.g true] [.keep [4, 5] [4]] (K' := [.code [(1, 0), (1, 0)] 1, .code [] 2]) (σ' := ⟨[(4, .ptr 4 0), (5, .bool false)], [(4, .box [.int .i64 0, .int .i64 0])]⟩) rfl ⟨hd4, trivial⟩ rfl ?_
      have h := Option.some.inj h
      subst h
      exact Tri.ret rfl ⟨.inl rfl, rfl, rfl⟩
    · obtain ⟨⟨v3, v4, v5⟩, hk5, h⟩ := bind_some h
      refine Tri.run 2 [.g false, .r ⟨[], .tuple [.agg [.int .i64 v3, .int .i64 v4], .bool v5], []⟩] [.keep [4, 5] [4]] (K' := [.code [] 3]) (σ' := ⟨[(4, .ptr 4 0), (5, .bool v5)], [(4, .box [.int .i64 v3, .int .i64 v4])]⟩) rfl ⟨(w_impl_RatOf (IntKind.i64.wrap ((IntKind.i64.wrap (a0 * a3)) - (IntKind.i64.wrap (a2 * a1)))) (IntKind.i64.wrap (a1 * a3)) (v3, v4, v5) hk5), hd4, trivial⟩ rfl ?_
      have h := Option.some.inj h
      subst h
      exact Tri.ret rfl ⟨.inl rfl, rfl, rfl⟩
/-! impl.ExcessOf -/
noncomputable def E20_impl_ExcessOf : Env := ⟨Try.prog, tys, (Try.f20.body).getD .skip, 42, tysOk, mixedOk⟩
abbrev q_impl_ExcessOf (r : Int × Int × Bool) (σ' : ASt) : Prop := resAV E20_impl_ExcessOf.T σ' Try.f20.results.toList = some (.tuple [.agg [.int .i64 r.1, .int .i64 r.2.1], .bool r.2.2]) ∧ keepO σ'.ob (namesO []) = []
noncomputable def m_impl_ExcessOf (a0 : Int) (a1 : List Int) (a2 : List Q) (a3 : Int) : Option (Int × Int × Bool) :=
(m_impl_IsValidGame a0 a1).bind fun v1 =>
bif !v1 then
(some (0, 0, false))
else
((m_impl_within a3 (0 : Int) (IntKind.i64.wrap ((a1.length : Int) - (1 : Int)))).bind fun v2 =>
bif !v2 then
(some (0, 0, false))
else
((m_impl_ShareOf a2 a3).bind fun (v3, v4, v5) =>
bif !v5 then
(some (0, 0, false))
else
(grd ((0 : Int) ≤ a3 ∧ a3 < (a1.length : Int)) <|
(m_impl_whole (a1.getD a3.toNat 0)).bind fun (v6, v7) =>
(m_impl_SubRat v6 v7 v3 v4).bind fun (v8, v9, v10) =>
some (v8, v9, v10))))
theorem w_impl_ExcessOf (a0 : Int) (a1 : List Int) (a2 : List Q) (a3 : Int) (r : Int × Int × Bool) (h : m_impl_ExcessOf a0 a1 a2 a3 = some r) : AM.Spec Try.prog 20 [.agg [.int .i64 a0, .list (.ints a1)], .list (.rats a2), .int .i64 a3] [] (.tuple [.agg [.int .i64 r.1, .int .i64 r.2.1], .bool r.2.2]) [] := by
  refine spec_of (E := E20_impl_ExcessOf) Try.func20 rfl rfl rfl rfl ?_
  refine Tri.run 1 [] [.keep [1, 2, 3, 6] [3, 6]] (K' := [.code [(1, 0), (0, 0)] 0, .code [(1, 0)] 1, .code [] 2]) (σ' := ⟨[(1, .list (.rats a2)), (2, .int .i64 a3), (3, .ptr 3 0), (6, .ptr 6 0)], [(3, .box [.int .i64 a0, .list (.ints a1)]), (6, .box [.int .i64 0, .int .i64 0])]⟩) rfl trivial rfl ?_
  obtain ⟨v1, hk1, h⟩ := bind_some h
  rcases bif_some h with ⟨hd2, h⟩ | ⟨hd2, h⟩
  · refine Tri.run 1 [.r ⟨[], .bool v1, []⟩, .g true] [.keep [1, 2, 3, 6, 21] [3, 6]] (K' := [.code [(1, 0)] 1, .code [] 2]) (σ' := ⟨[(1, .list (.rats a2)), (2, .int .i64 a3), (3, .ptr 3 0), (6, .ptr 6 0), (21, .bool true)], [(3, .box [.int .i64 a0, .list (.ints a1)]), (6, .box [.int .i64 0, .int .i64 0])]⟩) rfl ⟨hd2, (w_impl_IsValidGame a0 a1 v1 hk1), trivial⟩ rfl ?_
    refine Tri.run 2 [.g true] [.keep [6, 7] [6]] (K' := [.code [(1, 0), (1, 0)] 1, .code [] 2]) (σ' := ⟨[(6, .ptr 6 0), (7, .bool false)], [(6, .box [.int .i64 0, .int .i64 0])]⟩) rfl ⟨rfl, trivial⟩ rfl ?_
    have h := Option.some.inj h
    subst h
    exact Tri.ret rfl ⟨.inl rfl, rfl, rfl⟩
  · obtain ⟨v2, hk3, h⟩ := bind_some h
    refine Tri.run 1 [.r ⟨[], .bool v1, []⟩, .g false, .r ⟨[], .bool v2, []⟩] [.keep [1, 2, 3, 6, 21] [3, 6]] (K' := [.code [(1, 0)] 1, .code [] 2]) (σ' := ⟨[(1, .list (.rats a2)), (2, .int .i64 a3), (3, .ptr 3 0), (6, .ptr 6 0), (21, .bool (!v2))], [(3, .box [.int .i64 a0, .list (.ints a1)]), (6, .box [.int .i64 0, .int .i64 0])]⟩) rfl ⟨(w_impl_within a3 (0 : Int) (IntKind.i64.wrap ((a1.length : Int) - (1 : Int))) v2 hk3), hd2, (w_impl_IsValidGame a0 a1 v1 hk1), trivial⟩ rfl ?_
    rcases bif_some h with ⟨hd4, h⟩ | ⟨hd4, h⟩
    · refine Tri.run 2 [.g true] [.keep [6, 7] [6]] (K' := [.code [(1, 0), (1, 0)] 1, .code [] 2]) (σ' := ⟨[(6, .ptr 6 0), (7, .bool false)], [(6, .box [.int .i64 0, .int .i64 0])]⟩) rfl ⟨hd4, trivial⟩ rfl ?_
      have h := Option.some.inj h
      subst h
      exact Tri.ret rfl ⟨.inl rfl, rfl, rfl⟩
    · obtain ⟨⟨v3, v4, v5⟩, hk5, h⟩ := bind_some h
      refine Tri.run 3 [.g false, .r ⟨[], .tuple [.agg [.int .i64 v3, .int .i64 v4], .bool v5], []⟩] [.keep [2, 3, 6, 8, 30] [3, 6, 8]] (K' := [.code [(3, 0)] 1, .code [] 4]) (σ' := ⟨[(2, .int .i64 a3), (3, .ptr 3 0), (6, .ptr 6 0), (8, .ptr 8 0), (30, .bool (!v5))], [(3, .box [.int .i64 a0, .list (.ints a1)]), (6, .box [.int .i64 0, .int .i64 0]), (8, .box [.int .i64 v3, .int .i64 v4])]⟩) rfl ⟨(w_impl_ShareOf a2 a3 (v3, v4, v5) hk5), hd4, trivial⟩ rfl ?_
      rcases bif_some h with ⟨hd6, h⟩ | ⟨hd6, h⟩
      · refine Tri.run 2 [.g true] [.keep [6, 7] [6]] (K' := [.code [(3, 0), (1, 0)] 1, .code [] 4]) (σ' := ⟨[(6, .ptr 6 0), (7, .bool false)], [(6, .box [.int .i64 0, .int .i64 0])]⟩) rfl ⟨hd6, trivial⟩ rfl ?_
        have h := Option.some.inj h
        subst h
        exact Tri.ret rfl ⟨.inl rfl, rfl, rfl⟩
      · obtain ⟨hg7, h⟩ := grd_some h
        obtain ⟨⟨v6, v7⟩, hk8, h⟩ := bind_some h
        obtain ⟨⟨v8, v9, v10⟩, hk9, h⟩ := bind_some h
        refine Tri.run 2 [.g false, .r ⟨[], .agg [.int .i64 v6, .int .i64 v7], []⟩, .r ⟨[], .tuple [.agg [.int .i64 v8, .int .i64 v9], .bool v10], []⟩] [.keep [6, 7] [6]] (K' := [.code [] 5]) (σ' := ⟨[(6, .ptr 6 0), (7, .bool v10)], [(6, .box [.int .i64 v8, .int .i64 v9])]⟩) rfl ⟨(w_impl_SubRat v6 v7 v3 v4 (v8, v9, v10) hk9), (w_impl_whole (a1.getD a3.toNat 0) (v6, v7) hk8), hg7, hd6, trivial⟩ rfl ?_
        have h := Option.some.inj h
        subst h
        exact Tri.ret rfl ⟨.inl rfl, rfl, rfl⟩
/-! impl.excesses -/
noncomputable def E115_impl_excesses : Env := ⟨Try.prog, tys, (Try.f115.body).getD .skip, 39, tysOk, mixedOk⟩
abbrev q_impl_excesses (r : Bool × (List Q)) (σ' : ASt) : Prop := resAV E115_impl_excesses.T σ' Try.f115.results.toList = some (.tuple [.sl 1000 0, .bool r.1]) ∧ keepO σ'.ob (namesO [(1000, .arr 29 0 0 (.rats r.2))]) = [(1000, .arr 29 0 0 (.rats r.2))]
noncomputable def l_impl_excesses_0 (a0 : Int) (a1 : List Int) (a2 : List Q) (a4 : Int) : (Int × (List Q)) → Option ((Int × (List Q)) ⊕ ((List Q) ⊕ ((Bool × (List Q)))))
  | (v2, v3) => (
bif decide (v2 ≤ a4) then
((m_impl_ExcessOf a0 a1 a2 v2).bind fun (v4, v5, v6) =>
bif !v6 then
(some (.inr (.inr (false, []))))
else
(grd (v3.length + ([⟨v4, v5⟩] : List Q).length ≤ room) <|
some (.inl (IntKind.i64.wrap (v2 + (1 : Int)), v3 ++ [⟨v4, v5⟩]))))
else
(some (.inr (.inl v3))))
noncomputable def m_impl_excesses (a0 : Int) (a1 : List Int) (a2 : List Q) (a3 : Int) (a4 : Int) : Option (Bool × (List Q)) :=
(m_impl_IsPayoff a0 a1 a2).bind fun v1 =>
bif !v1 then
(some (false, []))
else
((iter (l_impl_excesses_0 a0 a1 a2 a4) (a3, [])).bind fun
| (.inl v7) => (
some (true, v7))
| (.inr r) => some r)
theorem w_impl_excesses (a0 : Int) (a1 : List Int) (a2 : List Q) (a3 : Int) (a4 : Int) (r : Bool × (List Q)) (h : m_impl_excesses a0 a1 a2 a3 a4 = some r) : AM.Spec Try.prog 115 [.agg [.int .i64 a0, .list (.ints a1)], .list (.rats a2), .int .i64 a3, .int .i64 a4] [] (.tuple [.sl 1000 0, .bool r.1]) [(1000, .arr 29 0 0 (.rats r.2))] := by
  refine spec_of (E := E115_impl_excesses) Try.func115 rfl rfl rfl rfl ?_
  refine Tri.run 1 [] [.keep [1, 2, 3, 4] [4]] (K' := [.code [(1, 0), (0, 0)] 0, .code [(1, 0)] 1, .code [] 2]) (σ' := ⟨[(1, .list (.rats a2)), (2, .int .i64 a3), (3, .int .i64 a4), (4, .ptr 4 0)], [(4, .box [.int .i64 a0, .list (.ints a1)])]⟩) rfl trivial rfl ?_
  obtain ⟨v1, hk1, h⟩ := bind_some h
  refine Tri.run 1 [.r ⟨[], .bool v1, []⟩] [.keep [1, 2, 3, 4, 17] [4]] (K' := [.code [(1, 0)] 1, .code [] 2]) (σ' := ⟨[(1, .list (.rats a2)), (2, .int .i64 a3), (3, .int .i64 a4), (4, .ptr 4 0), (17, .bool (!v1))], [(4, .box [.int .i64 a0, .list (.ints a1)])]⟩) rfl ⟨(w_impl_IsPayoff a0 a1 a2 v1 hk1), trivial⟩ rfl ?_
  rcases bif_some h with ⟨hd2, h⟩ | ⟨hd2, h⟩
  · refine Tri.run 2 [.g true] [.own 8 [] 1100 29, .swap 1100 1000, .keep [8, 9] [1000]] (K' := [.code [(1, 0), (1, 0)] 1, .code [] 2]) (σ' := ⟨[(8, .sl 1000 0), (9, .bool false)], [(1000, .arr 29 0 0 (.rats []))]⟩) rfl ⟨hd2, trivial⟩ rfl ?_
    have h := Option.some.inj h
    subst h
    exact Tri.ret rfl ⟨.inl rfl, rfl, rfl⟩
  · refine Tri.run 3 [.g false] [.keep [1, 3, 4, 10, 11] [4, 18]] (K' := [.code [(3, 0), (1, 0)] 0, .blk 0, .code [] 4]) (σ' := ⟨[(1, .list (.rats a2)), (3, .int .i64 a4), (4, .ptr 4 0), (10, .sl 18 0), (11, .int .i64 a3)], [(4, .box [.int .i64 a0, .list (.ints a1)]), (18, .arr 29 0 0 (.rats []))]⟩) rfl ⟨hd2, trivial⟩ rfl ?_
    obtain ⟨x1, hk7, h⟩ := bind_some h
    refine Tri.loop (K1 := [.code [(3, 0), (1, 0), (0, 0)] 0]) (K2 := [.blk 0, .code [] 4]) (fun (v2, v3) => ⟨[(1, .list (.rats a2)), (3, .int .i64 a4), (4, .ptr 4 0), (10, .sl 18 0), (11, .int .i64 v2)], [(4, .box [.int .i64 a0, .list (.ints a1)]), (18, .arr 29 0 0 (.rats v3))]⟩) (fun x e σ' => match x with | (.inl v7) => e = .exit 0 ∧ σ' = ⟨[(10, .sl 18 0)], [(18, .arr 29 0 0 (.rats v7))]⟩ | (.inr r) => e = .ret ∧ q_impl_excesses r σ') hk7 rfl rfl ?_ ?_
    · intro s x hs
      clear h
      have h := hs
      clear hs
      obtain ⟨v2, v3⟩ := s
      refine Tri.run 1 [] [.keep [1, 3, 4, 10, 11, 22] [4, 18]] (K' := [.code [(3, 0), (1, 0), (0, 0), (0, 0)] 1, .code [(3, 0), (1, 0), (0, 0)] 1]) (σ' := ⟨[(1, .list (.rats a2)), (3, .int .i64 a4), (4, .ptr 4 0), (10, .sl 18 0), (11, .int .i64 v2), (22, .bool (decide (v2 ≤ a4)))], [(4, .box [.int .i64 a0, .list (.ints a1)]), (18, .arr 29 0 0 (.rats v3))]⟩) rfl trivial rfl ?_
      rcases bif_some h with ⟨hd3, h⟩ | ⟨hd3, h⟩
      · obtain ⟨⟨v4, v5, v6⟩, hk4, h⟩ := bind_some h
        refine Tri.run 3 [.g true, .r ⟨[], .tuple [.agg [.int .i64 v4, .int .i64 v5], .bool v6], []⟩] [.keep [1, 3, 4, 10, 11, 12, 33] [4, 12, 18]] (K' := [.code [(3, 0), (1, 0), (0, 0), (1, 0), (0, 0), (1, 0)] 1, .code [(3, 0), (1, 0), (0, 0), (1, 0), (0, 0)] 2, .blk 1, .code [(3, 0), (1, 0), (0, 0)] 2]) (σ' := ⟨[(1, .list (.rats a2)), (3, .int .i64 a4), (4, .ptr 4 0), (10, .sl 18 0), (11, .int .i64 v2), (12, .ptr 12 0), (33, .bool (!v6))], [(4, .box [.int .i64 a0, .list (.ints a1)]), (12, .box [.int .i64 v4, .int .i64 v5]), (18, .arr 29 0 0 (.rats v3))]⟩) rfl ⟨(w_impl_ExcessOf a0 a1 a2 v2 (v4, v5, v6) hk4), hd3, trivial⟩ rfl ?_
        rcases bif_some h with ⟨hd5, h⟩ | ⟨hd5, h⟩
        · refine Tri.run 2 [.g true] [.own 8 [] 1101 29, .swap 1101 1000, .keep [8, 9] [1000]] (K' := [.code [(3, 0), (1, 0), (0, 0), (1, 0), (0, 0), (1, 0), (1, 0)] 1, .code [(3, 0), (1, 0), (0, 0), (1, 0), (0, 0)] 2, .blk 1, .code [(3, 0), (1, 0), (0, 0)] 2]) (σ' := ⟨[(8, .sl 1000 0), (9, .bool false)], [(1000, .arr 29 0 0 (.rats []))]⟩) rfl ⟨hd5, trivial⟩ rfl ?_
          have h := Option.some.inj h
          subst h
          exact Tri.ret rfl ⟨nofun, rfl, rfl, rfl⟩
        · obtain ⟨hg6, h⟩ := grd_some h
          refine Tri.run 3 [.g false] [.rever 18, .keep [1, 3, 4, 10, 11] [4, 18]] (K' := []) (σ' := ⟨[(1, .list (.rats a2)), (3, .int .i64 a4), (4, .ptr 4 0), (10, .sl 18 0), (11, .int .i64 (IntKind.i64.wrap (v2 + (1 : Int))))], [(4, .box [.int .i64 a0, .list (.ints a1)]), (18, .arr 29 0 0 (.rats (v3 ++ [⟨v4, v5⟩])))]⟩) rfl ⟨hg6, hd5, trivial⟩ rfl ?_
          have h := Option.some.inj h
          subst h
          exact Tri.nil ⟨rfl, rfl⟩
      · refine Tri.run 1 [.g false] [.keep [10] [18]] (K' := [.code [(3, 0), (1, 0), (0, 0), (0, 0), (1, 1)] 0, .code [(3, 0), (1, 0), (0, 0)] 1]) (σ' := ⟨[(10, .sl 18 0)], [(18, .arr 29 0 0 (.rats v3))]⟩) rfl ⟨hd3, trivial⟩ rfl ?_
        have h := Option.some.inj h
        subst h
        exact Tri.out 0 rfl ⟨nofun, rfl, rfl⟩
    · intro e σ' hne hq
      rcases x1 with v7 | r
      · obtain ⟨rfl, rfl⟩ := hq
        refine TriX.exit (K' := [.code [] 4]) rfl ?_
        refine Tri.run 1 [] [.swap 18 1000, .keep [8, 9] [1000]] (K' := [.code [] 5]) (σ' := ⟨[(8, .sl 1000 0), (9, .bool true)], [(1000, .arr 29 0 0 (.rats v7))]⟩) rfl trivial rfl ?_
        have h := Option.some.inj h
        subst h
        exact Tri.ret rfl ⟨.inl rfl, rfl, rfl⟩
      · obtain ⟨rfl, hq⟩ := hq
        have h := Option.some.inj h
        subst h
        exact TriX.ret ⟨.inl rfl, hq⟩
/-! impl.CompareRat -/
noncomputable def E103_impl_CompareRat : Env := ⟨Try.prog, tys, (Try.f103.body).getD .skip, 33, tysOk, mixedOk⟩
abbrev q_impl_CompareRat (r : Int) (σ' : ASt) : Prop := resAV E103_impl_CompareRat.T σ' Try.f103.results.toList = some (.int .i64 r) ∧ keepO σ'.ob (namesO []) = []
noncomputable def m_impl_CompareRat (a0 : Int) (a1 : Int) (a2 : Int) (a3 : Int) : Option Int :=
(m_impl_IsValidRat a0 a1).bind fun v1 =>
bif !v1 then
(some (0 : Int))
else
((m_impl_IsValidRat a2 a3).bind fun v2 =>
bif !v2 then
(some (0 : Int))
else
(bif decide ((IntKind.i64.wrap (a0 * a3)) < (IntKind.i64.wrap (a2 * a1))) then
(some (-1 : Int))
else
(bif decide ((IntKind.i64.wrap (a0 * a3)) > (IntKind.i64.wrap (a2 * a1))) then
(some (1 : Int))
else
(some (0 : Int)))))
theorem w_impl_CompareRat (a0 : Int) (a1 : Int) (a2 : Int) (a3 : Int) (r : Int) (h : m_impl_CompareRat a0 a1 a2 a3 = some r) : AM.Spec Try.prog 103 [.agg [.int .i64 a0, .int .i64 a1], .agg [.int .i64 a2, .int .i64 a3]] [] (.int .i64 r) [] := by
  refine spec_of (E := E103_impl_CompareRat) Try.func103 rfl rfl rfl rfl ?_
  refine Tri.run 1 [] [.keep [2, 3] [2, 3]] (K' := [.code [(1, 0), (0, 0)] 0, .code [(1, 0)] 1, .code [] 2]) (σ' := ⟨[(2, .ptr 2 0), (3, .ptr 3 0)], [(2, .box [.int .i64 a0, .int .i64 a1]), (3, .box [.int .i64 a2, .int .i64 a3])]⟩) rfl trivial rfl ?_
  obtain ⟨v1, hk1, h⟩ := bind_some h
  rcases bif_some h with ⟨hd2, h⟩ | ⟨hd2, h⟩
  · refine Tri.run 1 [.r ⟨[], .bool v1, []⟩, .g true] [.keep [2, 3, 14] [2, 3]] (K' := [.code [(1, 0)] 1, .code [] 2]) (σ' := ⟨[(2, .ptr 2 0), (3, .ptr 3 0), (14, .bool true)], [(2, .box [.int .i64 a0, .int .i64 a1]), (3, .box [.int .i64 a2, .int .i64 a3])]⟩) rfl ⟨hd2, (w_impl_IsValidRat a0 a1 v1 hk1), trivial⟩ rfl ?_
    refine Tri.run 2 [.g true] [.keep [4] []] (K' := [.code [(1, 0), (1, 0)] 1, .code [] 2]) (σ' := ⟨[(4, .int .i64 (0 : Int))], []⟩) rfl ⟨rfl, trivial⟩ rfl ?_
    have h := Option.some.inj h
    subst h
    exact Tri.ret rfl ⟨.inl rfl, rfl, rfl⟩
  · obtain ⟨v2, hk3, h⟩ := bind_some h
    refine Tri.run 1 [.r ⟨[], .bool v1, []⟩, .g false, .r ⟨[], .bool v2, []⟩] [.keep [2, 3, 14] [2, 3]] (K' := [.code [(1, 0)] 1, .code [] 2]) (σ' := ⟨[(2, .ptr 2 0), (3, .ptr 3 0), (14, .bool (!v2))], [(2, .box [.int .i64 a0, .int .i64 a1]), (3, .box [.int .i64 a2, .int .i64 a3])]⟩) rfl ⟨(w_impl_IsValidRat a2 a3 v2 hk3), hd2, (w_impl_IsValidRat a0 a1 v1 hk1), trivial⟩ rfl ?_
    rcases bif_some h with ⟨hd4, h⟩ | ⟨hd4, h⟩
    · refine Tri.run 2 [.g true] [.keep [4] []] (K' := [.code [(1, 0), (1, 0)] 1, .code [] 2]) (σ' := ⟨[(4, .int .i64 (0 : Int))], []⟩) rfl ⟨hd4, trivial⟩ rfl ?_
      have h := Option.some.inj h
      subst h
      exact Tri.ret rfl ⟨.inl rfl, rfl, rfl⟩
    · refine Tri.run 3 [.g false] [.keep [5, 6, 25] []] (K' := [.code [(3, 0), (0, 0)] 1, .blk 0, .code [] 4]) (σ' := ⟨[(5, .int .i64 (IntKind.i64.wrap (a0 * a3))), (6, .int .i64 (IntKind.i64.wrap (a2 * a1))), (25, .bool (decide ((IntKind.i64.wrap (a0 * a3)) < (IntKind.i64.wrap (a2 * a1)))))], []⟩) rfl ⟨hd4, trivial⟩ rfl ?_
      rcases bif_some h with ⟨hd5, h⟩ | ⟨hd5, h⟩
      · refine Tri.run 2 [.g true] [.keep [4] []] (K' := [.code [(3, 0), (0, 0), (1, 0)] 1, .blk 0, .code [] 4]) (σ' := ⟨[(4, .int .i64 (-1 : Int))], []⟩) rfl ⟨hd5, trivial⟩ rfl ?_
        have h := Option.some.inj h
        subst h
        exact Tri.ret rfl ⟨.inl rfl, rfl, rfl⟩
      · refine Tri.run 2 [.g false] [.keep [29] []] (K' := [.code [(3, 0), (0, 0), (1, 1)] 1, .blk 0, .code [] 4]) (σ' := ⟨[(29, .bool (decide ((IntKind.i64.wrap (a0 * a3)) > (IntKind.i64.wrap (a2 * a1)))))], []⟩) rfl ⟨hd5, trivial⟩ rfl ?_
        rcases bif_some h with ⟨hd6, h⟩ | ⟨hd6, h⟩
        · refine Tri.run 2 [.g true] [.keep [4] []] (K' := [.code [(3, 0), (0, 0), (1, 1), (1, 0)] 1, .blk 0, .code [] 4]) (σ' := ⟨[(4, .int .i64 (1 : Int))], []⟩) rfl ⟨hd6, trivial⟩ rfl ?_
          have h := Option.some.inj h
          subst h
          exact Tri.ret rfl ⟨.inl rfl, rfl, rfl⟩
        · refine Tri.run 2 [.g false] [.keep [4] []] (K' := [.code [] 5]) (σ' := ⟨[(4, .int .i64 (0 : Int))], []⟩) rfl ⟨hd6, trivial⟩ rfl ?_
          have h := Option.some.inj h
          subst h
          exact Tri.ret rfl ⟨.inl rfl, rfl, rfl⟩
/-! impl.Rat) -/
noncomputable def E118_slices_MaxFunc_impl_Rat_impl_Rat : Env := ⟨Try.prog, tys, (Try.f118.body).getD .skip, 33, tysOk, mixedOk⟩
abbrev q_slices_MaxFunc_impl_Rat_impl_Rat_impl_CompareRat (r : Int × Int) (σ' : ASt) : Prop := resAV E118_slices_MaxFunc_impl_Rat_impl_Rat.T σ' Try.f118.results.toList = some (.agg [.int .i64 r.1, .int .i64 r.2]) ∧ keepO σ'.ob (namesO []) = []
noncomputable def l_slices_MaxFunc_impl_Rat_impl_Rat_impl_CompareRat_0 (a0 : List Q) : (Int × Int × Int) → Option ((Int × Int × Int) ⊕ ((Int × Int)))
  | (v1, v2, v3) => (
bif decide (v1 < (a0.length : Int)) then
(grd ((0 : Int) ≤ v1 ∧ v1 < (a0.length : Int)) <|
(m_impl_CompareRat ((a0.getD v1.toNat ⟨0, 0⟩).num) ((a0.getD v1.toNat ⟨0, 0⟩).den) v2 v3).bind fun v4 =>
bif decide (v4 > (0 : Int)) then
(grd ((0 : Int) ≤ v1 ∧ v1 < (a0.length : Int)) <|
some (.inl (IntKind.i64.wrap (v1 + (1 : Int)), (a0.getD v1.toNat ⟨0, 0⟩).num, (a0.getD v1.toNat ⟨0, 0⟩).den)))
else
(some (.inl (IntKind.i64.wrap (v1 + (1 : Int)), v2, v3))))
else
(some (.inr (v2, v3))))
noncomputable def m_slices_MaxFunc_impl_Rat_impl_Rat_impl_CompareRat (a0 : List Q) : Option (Int × Int) :=
bif decide ((a0.length : Int) < (1 : Int)) then
(none)
else
(grd ((0 : Int) ≤ (0 : Int) ∧ (0 : Int) < (a0.length : Int)) <|
(iter (l_slices_MaxFunc_impl_Rat_impl_Rat_impl_CompareRat_0 a0) ((1 : Int), (a0.getD ((0 : Int).toNat) ⟨0, 0⟩).num, (a0.getD ((0 : Int).toNat) ⟨0, 0⟩).den)).bind fun
| (v5, v6) => (
some (v5, v6)))
theorem w_slices_MaxFunc_impl_Rat_impl_Rat_impl_CompareRat (a0 : List Q) (r : Int × Int) (h : m_slices_MaxFunc_impl_Rat_impl_Rat_impl_CompareRat a0 = some r) : AM.Spec Try.prog 118 [.list (.rats a0), .func 103 [] []] [] (.agg [.int .i64 r.1, .int .i64 r.2]) [] := by
  refine spec_of (E := E118_slices_MaxFunc_impl_Rat_impl_Rat) Try.func118 rfl rfl rfl rfl ?_
  refine Tri.run 2 [] [.keep [0, 1, 4, 9] [4]] (K' := [.code [(1, 0)] 1, .code [] 2]) (σ' := ⟨[(0, .list (.rats a0)), (1, .func 103 [] []), (4, .ptr 4 0), (9, .bool (decide ((a0.length : Int) < (1 : Int))))], [(4, .box [.int .i64 0, .int .i64 0])]⟩) rfl trivial rfl ?_
  rcases bif_some h with ⟨hd1, h⟩ | ⟨hd1, h⟩
  · cases h
  · obtain ⟨hg2, h⟩ := grd_some h
    refine Tri.run 3 [.g false] [.keep [0, 1, 4, 5, 6] [4, 5]] (K' := [.code [(3, 0), (1, 0)] 0, .blk 0, .code [] 4]) (σ' := ⟨[(0, .list (.rats a0)), (1, .func 103 [] []), (4, .ptr 4 0), (5, .ptr 5 0), (6, .int .i64 (1 : Int))], [(4, .box [.int .i64 0, .int .i64 0]), (5, .box [.int .i64 ((a0.getD ((0 : Int).toNat) ⟨0, 0⟩).num), .int .i64 ((a0.getD ((0 : Int).toNat) ⟨0, 0⟩).den)])]⟩) rfl ⟨hg2, hd1, trivial⟩ rfl ?_
    obtain ⟨x1, hk8, h⟩ := bind_some h
    refine Tri.loop (K1 := [.code [(3, 0), (1, 0), (0, 0)] 0]) (K2 := [.blk 0, .code [] 4]) (fun (v1, v2, v3) => ⟨[(0, .list (.rats a0)), (1, .func 103 [] []), (4, .ptr 4 0), (5, .ptr 5 0), (6, .int .i64 v1)], [(4, .box [.int .i64 0, .int .i64 0]), (5, .box [.int .i64 v2, .int .i64 v3])]⟩) (fun x e σ' => match x with | (v5, v6) => e = .exit 0 ∧ σ' = ⟨[(4, .ptr 4 0), (5, .ptr 5 0)], [(4, .box [.int .i64 0, .int .i64 0]), (5, .box [.int .i64 v5, .int .i64 v6])]⟩) hk8 rfl rfl ?_ ?_
    · intro s x hs
      clear h
      have h := hs
      clear hs
      obtain ⟨v1, v2, v3⟩ := s
      refine Tri.run 1 [] [.keep [0, 1, 4, 5, 6, 17] [4, 5]] (K' := [.code [(3, 0), (1, 0), (0, 0), (0, 0)] 1, .code [(3, 0), (1, 0), (0, 0)] 1]) (σ' := ⟨[(0, .list (.rats a0)), (1, .func 103 [] []), (4, .ptr 4 0), (5, .ptr 5 0), (6, .int .i64 v1), (17, .bool (decide (v1 < (a0.length : Int))))], [(4, .box [.int .i64 0, .int .i64 0]), (5, .box [.int .i64 v2, .int .i64 v3])]⟩) rfl trivial rfl ?_
      rcases bif_some h with ⟨hd3, h⟩ | ⟨hd3, h⟩
      · obtain ⟨hg4, h⟩ := grd_some h
        obtain ⟨v4, hk5, h⟩ := bind_some h
        refine Tri.run 2 [.g true, .r ⟨[], .int .i64 v4, []⟩] [.keep [0, 1, 4, 5, 6, 27] [4, 5]] (K' := [.code [(3, 0), (1, 0), (0, 0), (1, 0), (0, 0)] 1, .blk 1, .code [(3, 0), (1, 0), (0, 0)] 2]) (σ' := ⟨[(0, .list (.rats a0)), (1, .func 103 [] []), (4, .ptr 4 0), (5, .ptr 5 0), (6, .int .i64 v1), (27, .bool (decide (v4 > (0 : Int))))], [(4, .box [.int .i64 0, .int .i64 0]), (5, .box [.int .i64 v2, .int .i64 v3])]⟩) rfl ⟨(w_impl_CompareRat ((a0.getD v1.toNat ⟨0, 0⟩).num) ((a0.getD v1.toNat ⟨0, 0⟩).den) v2 v3 v4 hk5), hg4, hd3, trivial⟩ rfl ?_
        rcases bif_some h with ⟨hd6, h⟩ | ⟨hd6, h⟩
        · obtain ⟨hg7, h⟩ := grd_some h
          refine Tri.run 3 [.g true] [.keep [0, 1, 4, 5, 6] [4, 5]] (K' := []) (σ' := ⟨[(0, .list (.rats a0)), (1, .func 103 [] []), (4, .ptr 4 0), (5, .ptr 5 0), (6, .int .i64 (IntKind.i64.wrap (v1 + (1 : Int))))], [(4, .box [.int .i64 0, .int .i64 0]), (5, .box [.int .i64 ((a0.getD v1.toNat ⟨0, 0⟩).num), .int .i64 ((a0.getD v1.toNat ⟨0, 0⟩).den)])]⟩) rfl ⟨hg7, hd6, trivial⟩ rfl ?_
          have h := Option.some.inj h
          subst h
          exact Tri.nil ⟨rfl, rfl⟩
        · refine Tri.run 2 [.g false] [.keep [0, 1, 4, 5, 6] [4, 5]] (K' := []) (σ' := ⟨[(0, .list (.rats a0)), (1, .func 103 [] []), (4, .ptr 4 0), (5, .ptr 5 0), (6, .int .i64 (IntKind.i64.wrap (v1 + (1 : Int))))], [(4, .box [.int .i64 0, .int .i64 0]), (5, .box [.int .i64 v2, .int .i64 v3])]⟩) rfl ⟨hd6, trivial⟩ rfl ?_
          have h := Option.some.inj h
          subst h
          exact Tri.nil ⟨rfl, rfl⟩
      · refine Tri.run 1 [.g false] [.keep [4, 5] [4, 5]] (K' := [.code [(3, 0), (1, 0), (0, 0), (0, 0), (1, 1)] 0, .code [(3, 0), (1, 0), (0, 0)] 1]) (σ' := ⟨[(4, .ptr 4 0), (5, .ptr 5 0)], [(4, .box [.int .i64 0, .int .i64 0]), (5, .box [.int .i64 v2, .int .i64 v3])]⟩) rfl ⟨hd3, trivial⟩ rfl ?_
        have h := Option.some.inj h
        subst h
        exact Tri.out 0 rfl ⟨nofun, rfl, rfl⟩
    · intro e σ' hne hq
      obtain ⟨v5, v6⟩ := x1
      obtain ⟨rfl, rfl⟩ := hq
      refine TriX.exit (K' := [.code [] 4]) rfl ?_
      refine Tri.run 1 [] [.keep [4] [4]] (K' := [.code [] 5]) (σ' := ⟨[(4, .ptr 4 0)], [(4, .box [.int .i64 v5, .int .i64 v6])]⟩) rfl trivial rfl ?_
      have h := Option.some.inj h
      subst h
      exact Tri.ret rfl ⟨.inl rfl, rfl, rfl⟩
/-! impl.WorstExcess -/
noncomputable def E48_impl_WorstExcess : Env := ⟨Try.prog, tys, (Try.f48.body).getD .skip, 52, tysOk, mixedOk⟩
abbrev q_impl_WorstExcess (r : Int × Int × Bool × (List Int)) (σ' : ASt) : Prop := resAV E48_impl_WorstExcess.T σ' Try.f48.results.toList = some (.tuple [.agg [.int .i64 r.1, .int .i64 r.2.1], .sl 1000 0, .bool r.2.2.1]) ∧ keepO σ'.ob (namesO [(1000, .arr 3 0 0 (.ints r.2.2.2))]) = [(1000, .arr 3 0 0 (.ints r.2.2.2))]
noncomputable def l_impl_WorstExcess_0 (v2 : List Q) (v3 : Int) (v4 : Int) : (Int × (List Int)) → Option ((Int × (List Int)) ⊕ ((List Int)))
  | (v5, v6) => (
bif decide (v5 < (v2.length : Int)) then
(grd ((0 : Int) ≤ v5 ∧ v5 < (v2.length : Int)) <|
bif ((v2.getD v5.toNat ⟨0, 0⟩).num) == v3 && ((v2.getD v5.toNat ⟨0, 0⟩).den) == v4 then
(grd (v6.length + ([IntKind.i64.wrap (v5 + (1 : Int))] : List Int).length ≤ room) <|
some (.inl (IntKind.i64.wrap (v5 + (1 : Int)), v6 ++ [IntKind.i64.wrap (v5 + (1 : Int))])))
else
(some (.inl (IntKind.i64.wrap (v5 + (1 : Int)), v6))))
else
(some (.inr v6)))
noncomputable def m_impl_WorstExcess (a0 : Int) (a1 : List Int) (a2 : List Q) : Option (Int × Int × Bool × (List Int)) :=
(m_impl_excesses a0 a1 a2 (1 : Int) (IntKind.i64.wrap ((a1.length : Int) - (2 : Int)))).bind fun (v1, v2) =>
bif !v1 then
(some (0, 0, false, []))
else
(bif (v2.length : Int) == (0 : Int) then
(some (0, 0, false, []))
else
((m_slices_MaxFunc_impl_Rat_impl_Rat_impl_CompareRat v2).bind fun (v3, v4) =>
(iter (l_impl_WorstExcess_0 v2 v3 v4) ((0 : Int), [])).bind fun
| v7 => (
some (v3, v4, true, v7))))
theorem w_impl_WorstExcess (a0 : Int) (a1 : List Int) (a2 : List Q) (r : Int × Int × Bool × (List Int)) (h : m_impl_WorstExcess a0 a1 a2 = some r) : AM.Spec Try.prog 48 [.agg [.int .i64 a0, .list (.ints a1)], .list (.rats a2)] [] (.tuple [.agg [.int .i64 r.1, .int .i64 r.2.1], .sl 1000 0, .bool r.2.2.1]) [(1000, .arr 3 0 0 (.ints r.2.2.2))] := by
  refine spec_of (E := E48_impl_WorstExcess) Try.func48 rfl rfl rfl rfl ?_
  refine Tri.run 1 [] [.keep [1, 2, 4] [2, 4]] (K' := [.code [(1, 0)] 0, .code [] 2]) (σ' := ⟨[(1, .list (.rats a2)), (2, .ptr 2 0), (4, .ptr 4 0)], [(2, .box [.int .i64 a0, .list (.ints a1)]), (4, .box [.int .i64 0, .int .i64 0])]⟩) rfl trivial rfl ?_
  obtain ⟨⟨v1, v2⟩, hk1, h⟩ := bind_some h
  rcases bif_some h with ⟨hd2, h⟩ | ⟨hd2, h⟩
  · refine Tri.run 2 [.r ⟨[], .tuple [.sl 1100 0, .bool v1], [(1100, .arr 29 0 0 (.rats v2))]⟩, .g true] [.keep [4, 7, 29] [4, 1100]] (K' := [.code [(2, 0)] 1, .code [] 3]) (σ' := ⟨[(4, .ptr 4 0), (7, .sl 1100 0), (29, .bool true)], [(4, .box [.int .i64 0, .int .i64 0]), (1100, .arr 29 0 0 (.rats v2))]⟩) rfl ⟨hd2, ((w_impl_excesses a0 a1 a2 (1 : Int) (IntKind.i64.wrap ((a1.length : Int) - (2 : Int))) (v1, v2) hk1).swap 1000 1100), trivial⟩ rfl ?_
    refine Tri.run 2 [.g true] [.own 5 [] 1101 3, .swap 1101 1000, .keep [4, 5, 6] [4, 1000]] (K' := [.code [(2, 0), (1, 0)] 1, .code [] 3]) (σ' := ⟨[(4, .ptr 4 0), (5, .sl 1000 0), (6, .bool false)], [(4, .box [.int .i64 0, .int .i64 0]), (1000, .arr 3 0 0 (.ints []))]⟩) rfl ⟨rfl, trivial⟩ rfl ?_
    have h := Option.some.inj h
    subst h
    exact Tri.ret rfl ⟨.inl rfl, rfl, rfl⟩
  · refine Tri.run 2 [.r ⟨[], .tuple [.sl 1100 0, .bool v1], [(1100, .arr 29 0 0 (.rats v2))]⟩, .g false] [.keep [4, 7, 29] [4, 1100]] (K' := [.code [(2, 0)] 1, .code [] 3]) (σ' := ⟨[(4, .ptr 4 0), (7, .sl 1100 0), (29, .bool ((v2.length : Int) == (0 : Int)))], [(4, .box [.int .i64 0, .int .i64 0]), (1100, .arr 29 0 0 (.rats v2))]⟩) rfl ⟨hd2, ((w_impl_excesses a0 a1 a2 (1 : Int) (IntKind.i64.wrap ((a1.length : Int) - (2 : Int))) (v1, v2) hk1).swap 1000 1100), trivial⟩ rfl ?_
    rcases bif_some h with ⟨hd3, h⟩ | ⟨hd3, h⟩
    · refine Tri.run 2 [.g true] [.own 5 [] 1102 3, .swap 1102 1000, .keep [4, 5, 6] [4, 1000]] (K' := [.code [(2, 0), (1, 0)] 1, .code [] 3]) (σ' := ⟨[(4, .ptr 4 0), (5, .sl 1000 0), (6, .bool false)], [(4, .box [.int .i64 0, .int .i64 0]), (1000, .arr 3 0 0 (.ints []))]⟩) rfl ⟨hd3, trivial⟩ rfl ?_
      have h := Option.some.inj h
      subst h
      exact Tri.ret rfl ⟨.inl rfl, rfl, rfl⟩
    · obtain ⟨⟨v3, v4⟩, hk4, h⟩ := bind_some h
      refine Tri.run 3 [.g false, .r ⟨[], .agg [.int .i64 v3, .int .i64 v4], []⟩] [.keep [4, 7, 9, 10] [4, 9, 33, 1100]] (K' := [.code [(5, 0), (0, 0)] 0, .code [(5, 0)] 1, .code [] 6]) (σ' := ⟨[(4, .ptr 4 0), (7, .sl 1100 0), (9, .ptr 9 0), (10, .sl 33 0)], [(4, .box [.int .i64 0, .int .i64 0]), (9, .box [.int .i64 v3, .int .i64 v4]), (33, .arr 3 0 0 (.ints [])), (1100, .arr 29 0 0 (.rats v2))]⟩) rfl ⟨(w_slices_MaxFunc_impl_Rat_impl_Rat_impl_CompareRat v2 (v3, v4) hk4), hd3, trivial⟩ rfl ?_
      refine Tri.run 1 [] [.keep [4, 9, 10, 34, 35, 36] [4, 9, 33, 1100]] (K' := [.code [(5, 0), (1, 0)] 0, .blk 0, .code [] 6]) (σ' := ⟨[(4, .ptr 4 0), (9, .ptr 9 0), (10, .sl 33 0), (34, .sl 1100 0), (35, .int .i64 (v2.length : Int)), (36, .int .i64 (0 : Int))], [(4, .box [.int .i64 0, .int .i64 0]), (9, .box [.int .i64 v3, .int .i64 v4]), (33, .arr 3 0 0 (.ints [])), (1100, .arr 29 0 0 (.rats v2))]⟩) rfl trivial rfl ?_
      obtain ⟨v7, hk9, h⟩ := bind_some h
      refine Tri.loop (K1 := [.code [(5, 0), (1, 0), (0, 0)] 0]) (K2 := [.blk 0, .code [] 6]) (fun (v5, v6) => ⟨[(4, .ptr 4 0), (9, .ptr 9 0), (10, .sl 33 0), (34, .sl 1100 0), (35, .int .i64 (v2.length : Int)), (36, .int .i64 v5)], [(4, .box [.int .i64 0, .int .i64 0]), (9, .box [.int .i64 v3, .int .i64 v4]), (33, .arr 3 0 0 (.ints v6)), (1100, .arr 29 0 0 (.rats v2))]⟩) (fun x e σ' => match x with | v7 => e = .exit 0 ∧ σ' = ⟨[(4, .ptr 4 0), (9, .ptr 9 0), (10, .sl 33 0)], [(4, .box [.int .i64 0, .int .i64 0]), (9, .box [.int .i64 v3, .int .i64 v4]), (33, .arr 3 0 0 (.ints v7))]⟩) hk9 rfl rfl ?_ ?_
      · intro s x hs
        clear h
        have h := hs
        clear hs
        obtain ⟨v5, v6⟩ := s
        refine Tri.run 1 [] [.keep [4, 9, 10, 34, 35, 36, 37] [4, 9, 33, 1100]] (K' := [.code [(5, 0), (1, 0), (0, 0), (1, 0)] 0, .code [(5, 0), (1, 0), (0, 0)] 2]) (σ' := ⟨[(4, .ptr 4 0), (9, .ptr 9 0), (10, .sl 33 0), (34, .sl 1100 0), (35, .int .i64 (v2.length : Int)), (36, .int .i64 v5), (37, .bool (decide (v5 < (v2.length : Int))))], [(4, .box [.int .i64 0, .int .i64 0]), (9, .box [.int .i64 v3, .int .i64 v4]), (33, .arr 3 0 0 (.ints v6)), (1100, .arr 29 0 0 (.rats v2))]⟩) rfl trivial rfl ?_
        rcases bif_some h with ⟨hd5, h⟩ | ⟨hd5, h⟩
        · obtain ⟨hg6, h⟩ := grd_some h
          refine Tri.run 3 [.g true] [.keep [4, 9, 10, 11, 34, 35, 36, 43] [4, 9, 33, 1100]] (K' := [.code [(5, 0), (1, 0), (0, 0), (2, 0), (0, 0)] 2, .blk 1, .code [(5, 0), (1, 0), (0, 0)] 3]) (σ' := ⟨[(4, .ptr 4 0), (9, .ptr 9 0), (10, .sl 33 0), (11, .int .i64 v5), (34, .sl 1100 0), (35, .int .i64 (v2.length : Int)), (36, .int .i64 v5), (43, .bool (((v2.getD v5.toNat ⟨0, 0⟩).num) == v3 && ((v2.getD v5.toNat ⟨0, 0⟩).den) == v4))], [(4, .box [.int .i64 0, .int .i64 0]), (9, .box [.int .i64 v3, .int .i64 v4]), (33, .arr 3 0 0 (.ints v6)), (1100, .arr 29 0 0 (.rats v2))]⟩) rfl ⟨hg6, hd5, trivial⟩ rfl ?_
          rcases bif_some h with ⟨hd7, h⟩ | ⟨hd7, h⟩
          · obtain ⟨hg8, h⟩ := grd_some h
            refine Tri.run 3 [.g true] [.rever 33, .keep [4, 9, 10, 34, 35, 36] [4, 9, 33, 1100]] (K' := []) (σ' := ⟨[(4, .ptr 4 0), (9, .ptr 9 0), (10, .sl 33 0), (34, .sl 1100 0), (35, .int .i64 (v2.length : Int)), (36, .int .i64 (IntKind.i64.wrap (v5 + (1 : Int))))], [(4, .box [.int .i64 0, .int .i64 0]), (9, .box [.int .i64 v3, .int .i64 v4]), (33, .arr 3 0 0 (.ints (v6 ++ [IntKind.i64.wrap (v5 + (1 : Int))]))), (1100, .arr 29 0 0 (.rats v2))]⟩) rfl ⟨hg8, hd7, trivial⟩ rfl ?_
            have h := Option.some.inj h
            subst h
            exact Tri.nil ⟨rfl, rfl⟩
          · refine Tri.run 2 [.g false] [.keep [4, 9, 10, 34, 35, 36] [4, 9, 33, 1100]] (K' := []) (σ' := ⟨[(4, .ptr 4 0), (9, .ptr 9 0), (10, .sl 33 0), (34, .sl 1100 0), (35, .int .i64 (v2.length : Int)), (36, .int .i64 (IntKind.i64.wrap (v5 + (1 : Int))))], [(4, .box [.int .i64 0, .int .i64 0]), (9, .box [.int .i64 v3, .int .i64 v4]), (33, .arr 3 0 0 (.ints v6)), (1100, .arr 29 0 0 (.rats v2))]⟩) rfl ⟨hd7, trivial⟩ rfl ?_
            have h := Option.some.inj h
            subst h
            exact Tri.nil ⟨rfl, rfl⟩
        · refine Tri.run 1 [.g false] [.keep [4, 9, 10] [4, 9, 33]] (K' := [.code [(5, 0), (1, 0), (0, 0), (1, 0), (0, 1)] 0, .code [(5, 0), (1, 0), (0, 0)] 2]) (σ' := ⟨[(4, .ptr 4 0), (9, .ptr 9 0), (10, .sl 33 0)], [(4, .box [.int .i64 0, .int .i64 0]), (9, .box [.int .i64 v3, .int .i64 v4]), (33, .arr 3 0 0 (.ints v6))]⟩) rfl ⟨hd5, trivial⟩ rfl ?_
          have h := Option.some.inj h
          subst h
          exact Tri.out 0 rfl ⟨nofun, rfl, rfl⟩
      · intro e σ' hne hq
        obtain ⟨rfl, rfl⟩ := hq
        refine TriX.exit (K' := [.code [] 6]) rfl ?_
        refine Tri.run 1 [] [.swap 33 1000, .keep [4, 5, 6] [4, 1000]] (K' := [.code [] 7]) (σ' := ⟨[(4, .ptr 4 0), (5, .sl 1000 0), (6, .bool true)], [(4, .box [.int .i64 v3, .int .i64 v4]), (1000, .arr 3 0 0 (.ints v7))]⟩) rfl trivial rfl ?_
        have h := Option.some.inj h
        subst h
        exact Tri.ret rfl ⟨.inl rfl, rfl, rfl⟩
/-! impl.IsValidLP$1 -/
noncomputable def E166_impl_IsValidLP_1 : Env := ⟨Try.prog, tys, (Try.f166.body).getD .skip, 6, tysOk, mixedOk⟩
abbrev q_impl_IsValidLP_1 (r : Bool) (σ' : ASt) : Prop := resAV E166_impl_IsValidLP_1.T σ' Try.f166.results.toList = some (.bool r) ∧ keepO σ'.ob (namesO []) = []
noncomputable def m_impl_IsValidLP_1 (a0 : Int) : Option Bool :=
(m_impl_within a0 (-5000 : Int) (5000 : Int)).bind fun v1 =>
some (!v1)
theorem w_impl_IsValidLP_1 (a0 : Int) (r : Bool) (h : m_impl_IsValidLP_1 a0 = some r) : AM.Spec Try.prog 166 [.int .i64 a0] [] (.bool r) [] := by
  refine spec_of (E := E166_impl_IsValidLP_1) Try.func166 rfl rfl rfl rfl ?_
  refine Tri.run 1 [] [.keep [0] []] (K' := [.code [(1, 0)] 0, .code [] 2]) (σ' := ⟨[(0, .int .i64 a0)], []⟩) rfl trivial rfl ?_
  obtain ⟨v1, hk1, h⟩ := bind_some h
  refine Tri.run 1 [.r ⟨[], .bool v1, []⟩] [.keep [2] []] (K' := [.code [] 2]) (σ' := ⟨[(2, .bool (!v1))], []⟩) rfl ⟨(w_impl_within a0 (-5000 : Int) (5000 : Int) v1 hk1), trivial⟩ rfl ?_
  have h := Option.some.inj h
  subst h
  exact Tri.ret rfl ⟨.inl rfl, rfl, rfl⟩
/-! slices.IndexFunc(()int,int) -/
abbrev q_slices_IndexFunc_int_int_impl_IsValidLP_1 (r : Int) (σ' : ASt) : Prop := resAV E159_slices_IndexFunc_int_int.T σ' Try.f159.results.toList = some (.int .i64 r) ∧ keepO σ'.ob (namesO []) = []
noncomputable def l_slices_IndexFunc_int_int_impl_IsValidLP_1_0 (a0 : List Int) (v1 : Int) : Option (Int ⊕ (Unit ⊕ Int)) :=
bif decide (v1 < (a0.length : Int)) then
(grd ((0 : Int) ≤ v1 ∧ v1 < (a0.length : Int)) <|
(m_impl_IsValidLP_1 (a0.getD v1.toNat 0)).bind fun v2 =>
bif v2 then
(some (.inr (.inr v1)))
else
(some (.inl (IntKind.i64.wrap (v1 + (1 : Int))))))
else
(some (.inr (.inl ())))
noncomputable def m_slices_IndexFunc_int_int_impl_IsValidLP_1 (a0 : List Int) : Option Int :=
(iter (l_slices_IndexFunc_int_int_impl_IsValidLP_1_0 a0) (0 : Int)).bind fun
| (.inl _) => (
some (-1 : Int))
| (.inr r) => some r
theorem w_slices_IndexFunc_int_int_impl_IsValidLP_1 (a0 : List Int) (r : Int) (h : m_slices_IndexFunc_int_int_impl_IsValidLP_1 a0 = some r) : AM.Spec Try.prog 159 [.list (.ints a0), .func 166 [] []] [] (.int .i64 r) [] := by
  refine spec_of (E := E159_slices_IndexFunc_int_int) Try.func159 rfl rfl rfl rfl ?_
  refine Tri.run 2 [] [.keep [0, 1, 7, 8] []] (K' := [.code [(1, 0), (1, 0)] 0, .blk 0, .code [] 2]) (σ' := ⟨[(0, .list (.ints a0)), (1, .func 166 [] []), (7, .int .i64 (a0.length : Int)), (8, .int .i64 (0 : Int))], []⟩) rfl trivial rfl ?_
  obtain ⟨x1, hk5, h⟩ := bind_some h
  refine Tri.loop (K1 := [.code [(1, 0), (1, 0), (0, 0)] 0]) (K2 := [.blk 0, .code [] 2]) (fun v1 => ⟨[(0, .list (.ints a0)), (1, .func 166 [] []), (7, .int .i64 (a0.length : Int)), (8, .int .i64 v1)], []⟩) (fun x e σ' => match x with | (.inl _) => e = .exit 0 ∧ σ' = ⟨[], []⟩ | (.inr r) => e = .ret ∧ q_slices_IndexFunc_int_int_impl_IsValidLP_1 r σ') hk5 rfl rfl ?_ ?_
  · intro v1 x hs
    clear h
    have h := hs
    clear hs
    refine Tri.run 1 [] [.keep [0, 1, 7, 8, 9] []] (K' := [.code [(1, 0), (1, 0), (0, 0), (1, 0)] 0, .code [(1, 0), (1, 0), (0, 0)] 2]) (σ' := ⟨[(0, .list (.ints a0)), (1, .func 166 [] []), (7, .int .i64 (a0.length : Int)), (8, .int .i64 v1), (9, .bool (decide (v1 < (a0.length : Int))))], []⟩) rfl trivial rfl ?_
    rcases bif_some h with ⟨hd1, h⟩ | ⟨hd1, h⟩
    · refine Tri.run 2 [.g true] [.keep [0, 1, 5, 7, 8] []] (K' := [.code [(1, 0), (1, 0), (0, 0), (2, 0), (0, 0), (1, 0)] 0, .code [(1, 0), (1, 0), (0, 0), (2, 0), (0, 0)] 2, .blk 1, .code [(1, 0), (1, 0), (0, 0)] 3]) (σ' := ⟨[(0, .list (.ints a0)), (1, .func 166 [] []), (5, .int .i64 v1), (7, .int .i64 (a0.length : Int)), (8, .int .i64 v1)], []⟩) rfl ⟨hd1, trivial⟩ rfl ?_
      obtain ⟨hg2, h⟩ := grd_some h
      obtain ⟨v2, hk3, h⟩ := bind_some h
      refine Tri.run 1 [.r ⟨[], .bool v2, []⟩] [.keep [0, 1, 5, 7, 8, 16] []] (K' := [.code [(1, 0), (1, 0), (0, 0), (2, 0), (0, 0)] 2, .blk 1, .code [(1, 0), (1, 0), (0, 0)] 3]) (σ' := ⟨[(0, .list (.ints a0)), (1, .func 166 [] []), (5, .int .i64 v1), (7, .int .i64 (a0.length : Int)), (8, .int .i64 v1), (16, .bool v2)], []⟩) rfl ⟨(w_impl_IsValidLP_1 (a0.getD v1.toNat 0) v2 hk3), hg2, trivial⟩ rfl ?_
      rcases bif_some h with ⟨hd4, h⟩ | ⟨hd4, h⟩
      · refine Tri.run 2 [.g true] [.keep [4] []] (K' := [.code [(1, 0), (1, 0), (0, 0), (2, 0), (0, 0), (2, 0)] 1, .blk 1, .code [(1, 0), (1, 0), (0, 0)] 3]) (σ' := ⟨[(4, .int .i64 v1)], []⟩) rfl ⟨hd4, trivial⟩ rfl ?_
        have h := Option.some.inj h
        subst h
        exact Tri.ret rfl ⟨nofun, rfl, rfl, rfl⟩
      · refine Tri.run 2 [.g false] [.keep [0, 1, 7, 8] []] (K' := []) (σ' := ⟨[(0, .list (.ints a0)), (1, .func 166 [] []), (7, .int .i64 (a0.length : Int)), (8, .int .i64 (IntKind.i64.wrap (v1 + (1 : Int))))], []⟩) rfl ⟨hd4, trivial⟩ rfl ?_
        have h := Option.some.inj h
        subst h
        exact Tri.nil ⟨rfl, rfl⟩
    · refine Tri.run 1 [.g false] [.keep [] []] (K' := [.code [(1, 0), (1, 0), (0, 0), (1, 0), (0, 1)] 0, .code [(1, 0), (1, 0), (0, 0)] 2]) (σ' := ⟨[], []⟩) rfl ⟨hd1, trivial⟩ rfl ?_
      have h := Option.some.inj h
      subst h
      exact Tri.out 0 rfl ⟨nofun, rfl, rfl⟩
  · intro e σ' hne hq
    rcases x1 with _ | r
    · obtain ⟨rfl, rfl⟩ := hq
      refine TriX.exit (K' := [.code [] 2]) rfl ?_
      refine Tri.run 1 [] [.keep [4] []] (K' := [.code [] 3]) (σ' := ⟨[(4, .int .i64 (-1 : Int))], []⟩) rfl trivial rfl ?_
      have h := Option.some.inj h
      subst h
      exact Tri.ret rfl ⟨.inl rfl, rfl, rfl⟩
    · obtain ⟨rfl, hq⟩ := hq
      have h := Option.some.inj h
      subst h
      exact TriX.ret ⟨.inl rfl, hq⟩
/-! slices.ContainsFunc(()int,int) -/
abbrev q_slices_ContainsFunc_int_int_impl_IsValidLP_1 (r : Bool) (σ' : ASt) : Prop := resAV E133_slices_ContainsFunc_int_int.T σ' Try.f133.results.toList = some (.bool r) ∧ keepO σ'.ob (namesO []) = []
noncomputable def m_slices_ContainsFunc_int_int_impl_IsValidLP_1 (a0 : List Int) : Option Bool :=
(m_slices_IndexFunc_int_int_impl_IsValidLP_1 a0).bind fun v1 =>
some (decide (v1 ≥ (0 : Int)))
theorem w_slices_ContainsFunc_int_int_impl_IsValidLP_1 (a0 : List Int) (r : Bool) (h : m_slices_ContainsFunc_int_int_impl_IsValidLP_1 a0 = some r) : AM.Spec Try.prog 133 [.list (.ints a0), .func 166 [] []] [] (.bool r) [] := by
  refine spec_of (E := E133_slices_ContainsFunc_int_int) Try.func133 rfl rfl rfl rfl ?_
  refine Tri.run 1 [] [.keep [0, 1] []] (K' := [.code [(1, 0)] 0, .code [] 2]) (σ' := ⟨[(0, .list (.ints a0)), (1, .func 166 [] [])], []⟩) rfl trivial rfl ?_
  obtain ⟨v1, hk1, h⟩ := bind_some h
  refine Tri.run 1 [.r ⟨[], .int .i64 v1, []⟩] [.keep [4] []] (K' := [.code [] 2]) (σ' := ⟨[(4, .bool (decide (v1 ≥ (0 : Int))))], []⟩) rfl ⟨(w_slices_IndexFunc_int_int_impl_IsValidLP_1 a0 v1 hk1), trivial⟩ rfl ?_
  have h := Option.some.inj h
  subst h
  exact Tri.ret rfl ⟨.inl rfl, rfl, rfl⟩
/-! impl.IsValidLP -/
noncomputable def E155_impl_IsValidLP : Env := ⟨Try.prog, tys, (Try.f155.body).getD .skip, 55, tysOk, mixedOk⟩
abbrev q_impl_IsValidLP (r : Bool) (σ' : ASt) : Prop := resAV E155_impl_IsValidLP.T σ' Try.f155.results.toList = some (.bool r) ∧ keepO σ'.ob (namesO []) = []
noncomputable def l_impl_IsValidLP_0 (a0 : List (List Int)) (a2 : List Q) (v2 : Int) : Option (Int ⊕ (Unit ⊕ Bool)) :=
bif decide (v2 < (a0.length : Int)) then
(grd ((0 : Int) ≤ v2 ∧ v2 < (a0.length : Int)) <|
bif ((a0.getD v2.toNat []).length : Int) != (a2.length : Int) then
(some (.inr (.inr false)))
else
((m_slices_ContainsFunc_int_int_impl_IsValidLP_1 (a0.getD v2.toNat [])).bind fun v3 =>
bif v3 then
(some (.inr (.inr false)))
else
(some (.inl (IntKind.i64.wrap (v2 + (1 : Int)))))))
else
(some (.inr (.inl ())))
noncomputable def m_impl_IsValidLP (a0 : List (List Int)) (a1 : List Int) (a2 : List Q) : Option Bool :=
bif decide ((a2.length : Int) > (70 : Int)) then
(some false)
else
(bif decide ((a0.length : Int) > (8 : Int)) then
(some false)
else
(bif (a1.length : Int) != (a0.length : Int) then
(some false)
else
((m_impl_AllValid a2).bind fun v1 =>
bif !v1 then
(some false)
else
((iter (l_impl_IsValidLP_0 a0 a2) (0 : Int)).bind fun
| (.inl _) => (
(m_slices_ContainsFunc_int_int_impl_IsValidLP_1 a1).bind fun v4 =>
some (!v4))
| (.inr r) => some r))))
theorem w_impl_IsValidLP (a0 : List (List Int)) (a1 : List Int) (a2 : List Q) (r : Bool) (h : m_impl_IsValidLP a0 a1 a2 = some r) : AM.Spec Try.prog 155 [.agg [.list (.intss a0), .list (.ints a1), .list (.rats a2)]] [] (.bool r) [] := by
  refine spec_of (E := E155_impl_IsValidLP) Try.func155 rfl rfl rfl rfl ?_
  refine Tri.run 1 [] [.keep [1] [1]] (K' := [.code [(1, 0), (0, 0)] 0, .code [(1, 0)] 1, .code [] 2]) (σ' := ⟨[(1, .ptr 1 0)], [(1, .box [.list (.intss a0), .list (.ints a1), .list (.rats a2)])]⟩) rfl trivial rfl ?_
  rcases bif_some h with ⟨hd1, h⟩ | ⟨hd1, h⟩
  · refine Tri.run 1 [.g true, .g true, .g true] [.keep [1, 30] [1]] (K' := [.code [(1, 0)] 1, .code [] 2]) (σ' := ⟨[(1, .ptr 1 0), (30, .bool true)], [(1, .box [.list (.intss a0), .list (.ints a1), .list (.rats a2)])]⟩) rfl ⟨rfl, rfl, hd1, trivial⟩ rfl ?_
    refine Tri.run 2 [.g true] [.keep [2] []] (K' := [.code [(1, 0), (1, 0)] 1, .code [] 2]) (σ' := ⟨[(2, .bool false)], []⟩) rfl ⟨rfl, trivial⟩ rfl ?_
    have h := Option.some.inj h
    subst h
    exact Tri.ret rfl ⟨.inl rfl, rfl, rfl⟩
  · rcases bif_some h with ⟨hd2, h⟩ | ⟨hd2, h⟩
    · refine Tri.run 1 [.g false, .g true, .g true] [.keep [1, 30] [1]] (K' := [.code [(1, 0)] 1, .code [] 2]) (σ' := ⟨[(1, .ptr 1 0), (30, .bool true)], [(1, .box [.list (.intss a0), .list (.ints a1), .list (.rats a2)])]⟩) rfl ⟨rfl, hd2, hd1, trivial⟩ rfl ?_
      refine Tri.run 2 [.g true] [.keep [2] []] (K' := [.code [(1, 0), (1, 0)] 1, .code [] 2]) (σ' := ⟨[(2, .bool false)], []⟩) rfl ⟨rfl, trivial⟩ rfl ?_
      have h := Option.some.inj h
      subst h
      exact Tri.ret rfl ⟨.inl rfl, rfl, rfl⟩
    · rcases bif_some h with ⟨hd3, h⟩ | ⟨hd3, h⟩
      · refine Tri.run 1 [.g false, .g false, .g true] [.keep [1, 30] [1]] (K' := [.code [(1, 0)] 1, .code [] 2]) (σ' := ⟨[(1, .ptr 1 0), (30, .bool true)], [(1, .box [.list (.intss a0), .list (.ints a1), .list (.rats a2)])]⟩) rfl ⟨hd3, hd2, hd1, trivial⟩ rfl ?_
        refine Tri.run 2 [.g true] [.keep [2] []] (K' := [.code [(1, 0), (1, 0)] 1, .code [] 2]) (σ' := ⟨[(2, .bool false)], []⟩) rfl ⟨rfl, trivial⟩ rfl ?_
        have h := Option.some.inj h
        subst h
        exact Tri.ret rfl ⟨.inl rfl, rfl, rfl⟩
      · obtain ⟨v1, hk4, h⟩ := bind_some h
        refine Tri.run 1 [.g false, .g false, .g false, .r ⟨[], .bool v1, []⟩] [.keep [1, 30] [1]] (K' := [.code [(1, 0)] 1, .code [] 2]) (σ' := ⟨[(1, .ptr 1 0), (30, .bool (!v1))], [(1, .box [.list (.intss a0), .list (.ints a1), .list (.rats a2)])]⟩) rfl ⟨(w_impl_AllValid a2 v1 hk4), hd3, hd2, hd1, trivial⟩ rfl ?_
        rcases bif_some h with ⟨hd5, h⟩ | ⟨hd5, h⟩
        · refine Tri.run 2 [.g true] [.keep [2] []] (K' := [.code [(1, 0), (1, 0)] 1, .code [] 2]) (σ' := ⟨[(2, .bool false)], []⟩) rfl ⟨hd5, trivial⟩ rfl ?_
          have h := Option.some.inj h
          subst h
          exact Tri.ret rfl ⟨.inl rfl, rfl, rfl⟩
        · refine Tri.run 3 [.g false] [.keep [1, 3, 32, 33, 34] [1]] (K' := [.code [(3, 0), (1, 0)] 0, .blk 0, .code [] 4]) (σ' := ⟨[(1, .ptr 1 0), (3, .func 166 [] []), (32, .list (.intss a0)), (33, .int .i64 (a0.length : Int)), (34, .int .i64 (0 : Int))], [(1, .box [.list (.intss a0), .list (.ints a1), .list (.rats a2)])]⟩) rfl ⟨hd5, trivial⟩ rfl ?_
          obtain ⟨x1, hk11, h⟩ := bind_some h
          refine Tri.loop (K1 := [.code [(3, 0), (1, 0), (0, 0)] 0]) (K2 := [.blk 0, .code [] 4]) (fun v2 => ⟨[(1, .ptr 1 0), (3, .func 166 [] []), (32, .list (.intss a0)), (33, .int .i64 (a0.length : Int)), (34, .int .i64 v2)], [(1, .box [.list (.intss a0), .list (.ints a1), .list (.rats a2)])]⟩) (fun x e σ' => match x with | (.inl _) => e = .exit 0 ∧ σ' = ⟨[(1, .ptr 1 0), (3, .func 166 [] [])], [(1, .box [.list (.intss a0), .list (.ints a1), .list (.rats a2)])]⟩ | (.inr r) => e = .ret ∧ q_impl_IsValidLP r σ') hk11 rfl rfl ?_ ?_
          · intro v2 x hs
            clear h
            have h := hs
            clear hs
            refine Tri.run 1 [] [.keep [1, 3, 32, 33, 34, 35] [1]] (K' := [.code [(3, 0), (1, 0), (0, 0), (1, 0)] 0, .code [(3, 0), (1, 0), (0, 0)] 2]) (σ' := ⟨[(1, .ptr 1 0), (3, .func 166 [] []), (32, .list (.intss a0)), (33, .int .i64 (a0.length : Int)), (34, .int .i64 v2), (35, .bool (decide (v2 < (a0.length : Int))))], [(1, .box [.list (.intss a0), .list (.ints a1), .list (.rats a2)])]⟩) rfl trivial rfl ?_
            rcases bif_some h with ⟨hd6, h⟩ | ⟨hd6, h⟩
            · obtain ⟨hg7, h⟩ := grd_some h
              refine Tri.run 2 [.g true] [.keep [1, 3, 5, 32, 33, 34] [1]] (K' := [.code [(3, 0), (1, 0), (0, 0), (2, 0), (0, 0), (1, 0)] 0, .code [(3, 0), (1, 0), (0, 0), (2, 0), (0, 0)] 2, .blk 1, .code [(3, 0), (1, 0), (0, 0)] 3]) (σ' := ⟨[(1, .ptr 1 0), (3, .func 166 [] []), (5, .list (.ints (a0.getD v2.toNat []))), (32, .list (.intss a0)), (33, .int .i64 (a0.length : Int)), (34, .int .i64 v2)], [(1, .box [.list (.intss a0), .list (.ints a1), .list (.rats a2)])]⟩) rfl ⟨hg7, hd6, trivial⟩ rfl ?_
              rcases bif_some h with ⟨hd8, h⟩ | ⟨hd8, h⟩
              · refine Tri.run 1 [.g true] [.keep [1, 3, 32, 33, 34, 48] [1]] (K' := [.code [(3, 0), (1, 0), (0, 0), (2, 0), (0, 0)] 2, .blk 1, .code [(3, 0), (1, 0), (0, 0)] 3]) (σ' := ⟨[(1, .ptr 1 0), (3, .func 166 [] []), (32, .list (.intss a0)), (33, .int .i64 (a0.length : Int)), (34, .int .i64 v2), (48, .bool true)], [(1, .box [.list (.intss a0), .list (.ints a1), .list (.rats a2)])]⟩) rfl ⟨hd8, trivial⟩ rfl ?_
                refine Tri.run 2 [.g true] [.keep [2] []] (K' := [.code [(3, 0), (1, 0), (0, 0), (2, 0), (0, 0), (2, 0)] 1, .blk 1, .code [(3, 0), (1, 0), (0, 0)] 3]) (σ' := ⟨[(2, .bool false)], []⟩) rfl ⟨rfl, trivial⟩ rfl ?_
                have h := Option.some.inj h
                subst h
                exact Tri.ret rfl ⟨nofun, rfl, rfl, rfl⟩
              · obtain ⟨v3, hk9, h⟩ := bind_some h
                refine Tri.run 1 [.g false, .r ⟨[], .bool v3, []⟩] [.keep [1, 3, 32, 33, 34, 48] [1]] (K' := [.code [(3, 0), (1, 0), (0, 0), (2, 0), (0, 0)] 2, .blk 1, .code [(3, 0), (1, 0), (0, 0)] 3]) (σ' := ⟨[(1, .ptr 1 0), (3, .func 166 [] []), (32, .list (.intss a0)), (33, .int .i64 (a0.length : Int)), (34, .int .i64 v2), (48, .bool v3)], [(1, .box [.list (.intss a0), .list (.ints a1), .list (.rats a2)])]⟩) rfl ⟨(w_slices_ContainsFunc_int_int_impl_IsValidLP_1 (a0.getD v2.toNat []) v3 hk9), hd8, trivial⟩ rfl ?_
                rcases bif_some h with ⟨hd10, h⟩ | ⟨hd10, h⟩
                · refine Tri.run 2 [.g true] [.keep [2] []] (K' := [.code [(3, 0), (1, 0), (0, 0), (2, 0), (0, 0), (2, 0)] 1, .blk 1, .code [(3, 0), (1, 0), (0, 0)] 3]) (σ' := ⟨[(2, .bool false)], []⟩) rfl ⟨hd10, trivial⟩ rfl ?_
                  have h := Option.some.inj h
                  subst h
                  exact Tri.ret rfl ⟨nofun, rfl, rfl, rfl⟩
                · refine Tri.run 2 [.g false] [.keep [1, 3, 32, 33, 34] [1]] (K' := []) (σ' := ⟨[(1, .ptr 1 0), (3, .func 166 [] []), (32, .list (.intss a0)), (33, .int .i64 (a0.length : Int)), (34, .int .i64 (IntKind.i64.wrap (v2 + (1 : Int))))], [(1, .box [.list (.intss a0), .list (.ints a1), .list (.rats a2)])]⟩) rfl ⟨hd10, trivial⟩ rfl ?_
                  have h := Option.some.inj h
                  subst h
                  exact Tri.nil ⟨rfl, rfl⟩
            · refine Tri.run 1 [.g false] [.keep [1, 3] [1]] (K' := [.code [(3, 0), (1, 0), (0, 0), (1, 0), (0, 1)] 0, .code [(3, 0), (1, 0), (0, 0)] 2]) (σ' := ⟨[(1, .ptr 1 0), (3, .func 166 [] [])], [(1, .box [.list (.intss a0), .list (.ints a1), .list (.rats a2)])]⟩) rfl ⟨hd6, trivial⟩ rfl ?_
              have h := Option.some.inj h
              subst h
              exact Tri.out 0 rfl ⟨nofun, rfl, rfl⟩
          · intro e σ' hne hq
            rcases x1 with _ | r
            · obtain ⟨rfl, rfl⟩ := hq
              refine TriX.exit (K' := [.code [] 4]) rfl ?_
              obtain ⟨v4, hk12, h⟩ := bind_some h
              refine Tri.run 1 [.r ⟨[], .bool v4, []⟩] [.keep [2] []] (K' := [.code [] 5]) (σ' := ⟨[(2, .bool (!v4))], []⟩) rfl ⟨(w_slices_ContainsFunc_int_int_impl_IsValidLP_1 a1 v4 hk12), trivial⟩ rfl ?_
              have h := Option.some.inj h
              subst h
              exact Tri.ret rfl ⟨.inl rfl, rfl, rfl⟩
            · obtain ⟨rfl, hq⟩ := hq
              have h := Option.some.inj h
              subst h
              exact TriX.ret ⟨.inl rfl, hq⟩
/-! impl.notNegative$1 -/
noncomputable def E164_impl_notNegative_1 : Env := ⟨Try.prog, tys, (Try.f164.body).getD .skip, 11, tysOk, mixedOk⟩
abbrev q_impl_notNegative_1 (r : Bool) (σ' : ASt) : Prop := resAV E164_impl_notNegative_1.T σ' Try.f164.results.toList = some (.bool r) ∧ keepO σ'.ob (namesO []) = []
noncomputable def m_impl_notNegative_1 (a0 : Int) (a1 : Int) : Option Bool :=
(m_impl_IsValidRat a0 a1).bind fun v1 =>
bif !v1 then
(some true)
else
(some (decide (a0 < (0 : Int))))
theorem w_impl_notNegative_1 (a0 : Int) (a1 : Int) (r : Bool) (h : m_impl_notNegative_1 a0 a1 = some r) : AM.Spec Try.prog 164 [.agg [.int .i64 a0, .int .i64 a1]] [] (.bool r) [] := by
  refine spec_of (E := E164_impl_notNegative_1) Try.func164 rfl rfl rfl rfl ?_
  refine Tri.run 1 [] [.keep [1] [1]] (K' := [.code [(1, 0)] 0, .code [] 2]) (σ' := ⟨[(1, .ptr 1 0)], [(1, .box [.int .i64 a0, .int .i64 a1])]⟩) rfl trivial rfl ?_
  obtain ⟨v1, hk1, h⟩ := bind_some h
  rcases bif_some h with ⟨hd2, h⟩ | ⟨hd2, h⟩
  · refine Tri.run 1 [.r ⟨[], .bool v1, []⟩, .g true] [.keep [2] []] (K' := [.code [] 2]) (σ' := ⟨[(2, .bool true)], []⟩) rfl ⟨hd2, (w_impl_IsValidRat a0 a1 v1 hk1), trivial⟩ rfl ?_
    have h := Option.some.inj h
    subst h
    exact Tri.ret rfl ⟨.inl rfl, rfl, rfl⟩
  · refine Tri.run 1 [.r ⟨[], .bool v1, []⟩, .g false] [.keep [2] []] (K' := [.code [] 2]) (σ' := ⟨[(2, .bool (decide (a0 < (0 : Int))))], []⟩) rfl ⟨hd2, (w_impl_IsValidRat a0 a1 v1 hk1), trivial⟩ rfl ?_
    have h := Option.some.inj h
    subst h
    exact Tri.ret rfl ⟨.inl rfl, rfl, rfl⟩
/-! impl.Rat) -/
abbrev q_slices_IndexFunc_impl_Rat_impl_Rat_impl_notNegative_1 (r : Int) (σ' : ASt) : Prop := resAV E145_slices_IndexFunc_impl_Rat_impl_Rat.T σ' Try.f145.results.toList = some (.int .i64 r) ∧ keepO σ'.ob (namesO []) = []
noncomputable def l_slices_IndexFunc_impl_Rat_impl_Rat_impl_notNegative_1_0 (a0 : List Q) (v1 : Int) : Option (Int ⊕ (Unit ⊕ Int)) :=
bif decide (v1 < (a0.length : Int)) then
(grd ((0 : Int) ≤ v1 ∧ v1 < (a0.length : Int)) <|
(m_impl_notNegative_1 ((a0.getD v1.toNat ⟨0, 0⟩).num) ((a0.getD v1.toNat ⟨0, 0⟩).den)).bind fun v2 =>
bif v2 then
(some (.inr (.inr v1)))
else
(some (.inl (IntKind.i64.wrap (v1 + (1 : Int))))))
else
(some (.inr (.inl ())))
noncomputable def m_slices_IndexFunc_impl_Rat_impl_Rat_impl_notNegative_1 (a0 : List Q) : Option Int :=
(iter (l_slices_IndexFunc_impl_Rat_impl_Rat_impl_notNegative_1_0 a0) (0 : Int)).bind fun
| (.inl _) => (
some (-1 : Int))
| (.inr r) => some r
theorem w_slices_IndexFunc_impl_Rat_impl_Rat_impl_notNegative_1 (a0 : List Q) (r : Int) (h : m_slices_IndexFunc_impl_Rat_impl_Rat_impl_notNegative_1 a0 = some r) : AM.Spec Try.prog 145 [.list (.rats a0), .func 164 [] []] [] (.int .i64 r) [] := by
  refine spec_of (E := E145_slices_IndexFunc_impl_Rat_impl_Rat) Try.func145 rfl rfl rfl rfl ?_
  refine Tri.run 2 [] [.keep [0, 1, 7, 8] []] (K' := [.code [(1, 0), (1, 0)] 0, .blk 0, .code [] 2]) (σ' := ⟨[(0, .list (.rats a0)), (1, .func 164 [] []), (7, .int .i64 (a0.length : Int)), (8, .int .i64 (0 : Int))], []⟩) rfl trivial rfl ?_
  obtain ⟨x1, hk5, h⟩ := bind_some h
  refine Tri.loop (K1 := [.code [(1, 0), (1, 0), (0, 0)] 0]) (K2 := [.blk 0, .code [] 2]) (fun v1 => ⟨[(0, .list (.rats a0)), (1, .func 164 [] []), (7, .int .i64 (a0.length : Int)), (8, .int .i64 v1)], []⟩) (fun x e σ' => match x with | (.inl _) => e = .exit 0 ∧ σ' = ⟨[], []⟩ | (.inr r) => e = .ret ∧ q_slices_IndexFunc_impl_Rat_impl_Rat_impl_notNegative_1 r σ') hk5 rfl rfl ?_ ?_
  · intro v1 x hs
    clear h
    have h := hs
    clear hs
    refine Tri.run 1 [] [.keep [0, 1, 7, 8, 9] []] (K' := [.code [(1, 0), (1, 0), (0, 0), (1, 0)] 0, .code [(1, 0), (1, 0), (0, 0)] 2]) (σ' := ⟨[(0, .list (.rats a0)), (1, .func 164 [] []), (7, .int .i64 (a0.length : Int)), (8, .int .i64 v1), (9, .bool (decide (v1 < (a0.length : Int))))], []⟩) rfl trivial rfl ?_
    rcases bif_some h with ⟨hd1, h⟩ | ⟨hd1, h⟩
    · refine Tri.run 2 [.g true] [.keep [0, 1, 5, 7, 8] []] (K' := [.code [(1, 0), (1, 0), (0, 0), (2, 0), (0, 0), (1, 0)] 0, .code [(1, 0), (1, 0), (0, 0), (2, 0), (0, 0)] 2, .blk 1, .code [(1, 0), (1, 0), (0, 0)] 3]) (σ' := ⟨[(0, .list (.rats a0)), (1, .func 164 [] []), (5, .int .i64 v1), (7, .int .i64 (a0.length : Int)), (8, .int .i64 v1)], []⟩) rfl ⟨hd1, trivial⟩ rfl ?_
      obtain ⟨hg2, h⟩ := grd_some h
      obtain ⟨v2, hk3, h⟩ := bind_some h
      refine Tri.run 1 [.r ⟨[], .bool v2, []⟩] [.keep [0, 1, 5, 7, 8, 16] []] (K' := [.code [(1, 0), (1, 0), (0, 0), (2, 0), (0, 0)] 2, .blk 1, .code [(1, 0), (1, 0), (0, 0)] 3]) (σ' := ⟨[(0, .list (.rats a0)), (1, .func 164 [] []), (5, .int .i64 v1), (7, .int .i64 (a0.length : Int)), (8, .int .i64 v1), (16, .bool v2)], []⟩) rfl ⟨(w_impl_notNegative_1 ((a0.getD v1.toNat ⟨0, 0⟩).num) ((a0.getD v1.toNat ⟨0, 0⟩).den) v2 hk3), hg2, trivial⟩ rfl ?_
      rcases bif_some h with ⟨hd4, h⟩ | ⟨hd4, h⟩
      · refine Tri.run 2 [.g true] [.keep [4] []] (K' := [.code [(1, 0), (1, 0), (0, 0), (2, 0), (0, 0), (2, 0)] 1, .blk 1, .code [(1, 0), (1, 0), (0, 0)] 3]) (σ' := ⟨[(4, .int .i64 v1)], []⟩) rfl ⟨hd4, trivial⟩ rfl ?_
        have h := Option.some.inj h
        subst h
        exact Tri.ret rfl ⟨nofun, rfl, rfl, rfl⟩
      · refine Tri.run 2 [.g false] [.keep [0, 1, 7, 8] []] (K' := []) (σ' := ⟨[(0, .list (.rats a0)), (1, .func 164 [] []), (7, .int .i64 (a0.length : Int)), (8, .int .i64 (IntKind.i64.wrap (v1 + (1 : Int))))], []⟩) rfl ⟨hd4, trivial⟩ rfl ?_
        have h := Option.some.inj h
        subst h
        exact Tri.nil ⟨rfl, rfl⟩
    · refine Tri.run 1 [.g false] [.keep [] []] (K' := [.code [(1, 0), (1, 0), (0, 0), (1, 0), (0, 1)] 0, .code [(1, 0), (1, 0), (0, 0)] 2]) (σ' := ⟨[], []⟩) rfl ⟨hd1, trivial⟩ rfl ?_
      have h := Option.some.inj h
      subst h
      exact Tri.out 0 rfl ⟨nofun, rfl, rfl⟩
  · intro e σ' hne hq
    rcases x1 with _ | r
    · obtain ⟨rfl, rfl⟩ := hq
      refine TriX.exit (K' := [.code [] 2]) rfl ?_
      refine Tri.run 1 [] [.keep [4] []] (K' := [.code [] 3]) (σ' := ⟨[(4, .int .i64 (-1 : Int))], []⟩) rfl trivial rfl ?_
      have h := Option.some.inj h
      subst h
      exact Tri.ret rfl ⟨.inl rfl, rfl, rfl⟩
    · obtain ⟨rfl, hq⟩ := hq
      have h := Option.some.inj h
      subst h
      exact TriX.ret ⟨.inl rfl, hq⟩
/-! impl.Rat) -/
abbrev q_slices_ContainsFunc_impl_Rat_impl_Rat_impl_notNegative_1 (r : Bool) (σ' : ASt) : Prop := resAV E116_slices_ContainsFunc_impl_Rat_impl_Rat.T σ' Try.f116.results.toList = some (.bool r) ∧ keepO σ'.ob (namesO []) = []
noncomputable def m_slices_ContainsFunc_impl_Rat_impl_Rat_impl_notNegative_1 (a0 : List Q) : Option Bool :=
(m_slices_IndexFunc_impl_Rat_impl_Rat_impl_notNegative_1 a0).bind fun v1 =>
some (decide (v1 ≥ (0 : Int)))
theorem w_slices_ContainsFunc_impl_Rat_impl_Rat_impl_notNegative_1 (a0 : List Q) (r : Bool) (h : m_slices_ContainsFunc_impl_Rat_impl_Rat_impl_notNegative_1 a0 = some r) : AM.Spec Try.prog 116 [.list (.rats a0), .func 164 [] []] [] (.bool r) [] := by
  refine spec_of (E := E116_slices_ContainsFunc_impl_Rat_impl_Rat) Try.func116 rfl rfl rfl rfl ?_
  refine Tri.run 1 [] [.keep [0, 1] []] (K' := [.code [(1, 0)] 0, .code [] 2]) (σ' := ⟨[(0, .list (.rats a0)), (1, .func 164 [] [])], []⟩) rfl trivial rfl ?_
  obtain ⟨v1, hk1, h⟩ := bind_some h
  refine Tri.run 1 [.r ⟨[], .int .i64 v1, []⟩] [.keep [4] []] (K' := [.code [] 2]) (σ' := ⟨[(4, .bool (decide (v1 ≥ (0 : Int))))], []⟩) rfl ⟨(w_slices_IndexFunc_impl_Rat_impl_Rat_impl_notNegative_1 a0 v1 hk1), trivial⟩ rfl ?_
  have h := Option.some.inj h
  subst h
  exact Tri.ret rfl ⟨.inl rfl, rfl, rfl⟩
/-! impl.notNegative -/
noncomputable def E148_impl_notNegative : Env := ⟨Try.prog, tys, (Try.f148.body).getD .skip, 14, tysOk, mixedOk⟩
abbrev q_impl_notNegative (r : Bool) (σ' : ASt) : Prop := resAV E148_impl_notNegative.T σ' Try.f148.results.toList = some (.bool r) ∧ keepO σ'.ob (namesO []) = []
noncomputable def m_impl_notNegative (a0 : List Q) (a1 : Int) : Option Bool :=
bif (a0.length : Int) == a1 then
((m_slices_ContainsFunc_impl_Rat_impl_Rat_impl_notNegative_1 a0).bind fun v1 =>
some (!v1))
else
(some false)
theorem w_impl_notNegative (a0 : List Q) (a1 : Int) (r : Bool) (h : m_impl_notNegative a0 a1 = some r) : AM.Spec Try.prog 148 [.list (.rats a0), .int .i64 a1] [] (.bool r) [] := by
  refine spec_of (E := E148_impl_notNegative) Try.func148 rfl rfl rfl rfl ?_
  refine Tri.run 1 [] [.keep [0, 1] []] (K' := [.code [(1, 0)] 0, .code [] 2]) (σ' := ⟨[(0, .list (.rats a0)), (1, .int .i64 a1)], []⟩) rfl trivial rfl ?_
  rcases bif_some h with ⟨hd1, h⟩ | ⟨hd1, h⟩
  · obtain ⟨v1, hk2, h⟩ := bind_some h
    refine Tri.run 1 [.g true, .r ⟨[], .bool v1, []⟩] [.keep [4] []] (K' := [.code [] 2]) (σ' := ⟨[(4, .bool (!v1))], []⟩) rfl ⟨(w_slices_ContainsFunc_impl_Rat_impl_Rat_impl_notNegative_1 a0 v1 hk2), hd1, trivial⟩ rfl ?_
    have h := Option.some.inj h
    subst h
    exact Tri.ret rfl ⟨.inl rfl, rfl, rfl⟩
  · refine Tri.run 1 [.g false] [.keep [4] []] (K' := [.code [] 2]) (σ' := ⟨[(4, .bool false)], []⟩) rfl ⟨hd1, trivial⟩ rfl ?_
    have h := Option.some.inj h
    subst h
    exact Tri.ret rfl ⟨.inl rfl, rfl, rfl⟩
/-! impl.IntsToRats -/
noncomputable def E151_impl_IntsToRats : Env := ⟨Try.prog, tys, (Try.f151.body).getD .skip, 24, tysOk, mixedOk⟩
abbrev q_impl_IntsToRats (r : Bool × (List Q)) (σ' : ASt) : Prop := resAV E151_impl_IntsToRats.T σ' Try.f151.results.toList = some (.tuple [.sl 1000 0, .bool r.1]) ∧ keepO σ'.ob (namesO [(1000, .arr 29 0 0 (.rats r.2))]) = [(1000, .arr 29 0 0 (.rats r.2))]
noncomputable def l_impl_IntsToRats_0 (a0 : List Int) : (Int × (List Q)) → Option ((Int × (List Q)) ⊕ ((List Q) ⊕ ((Bool × (List Q)))))
  | (v1, v2) => (
bif decide (v1 < (a0.length : Int)) then
(grd ((0 : Int) ≤ v1 ∧ v1 < (a0.length : Int)) <|
(m_impl_within (a0.getD v1.toNat 0) (-1000000000 : Int) (1000000000 : Int)).bind fun v3 =>
bif !v3 then
(some (.inr (.inr (false, []))))
else
((m_impl_whole (a0.getD v1.toNat 0)).bind fun (v4, v5) =>
grd (v2.length + ([⟨v4, v5⟩] : List Q).length ≤ room) <|
some (.inl (IntKind.i64.wrap (v1 + (1 : Int)), v2 ++ [⟨v4, v5⟩]))))
else
(some (.inr (.inl v2))))
noncomputable def m_impl_IntsToRats (a0 : List Int) : Option (Bool × (List Q)) :=
(iter (l_impl_IntsToRats_0 a0) ((0 : Int), [])).bind fun
| (.inl v6) => (
some (true, v6))
| (.inr r) => some r
theorem w_impl_IntsToRats (a0 : List Int) (r : Bool × (List Q)) (h : m_impl_IntsToRats a0 = some r) : AM.Spec Try.prog 151 [.list (.ints a0)] [] (.tuple [.sl 1000 0, .bool r.1]) [(1000, .arr 29 0 0 (.rats r.2))] := by
  refine spec_of (E := E151_impl_IntsToRats) Try.func151 rfl rfl rfl rfl ?_
  refine Tri.run 3 [] [.keep [4, 8, 9, 10] [7]] (K' := [.code [(2, 0), (1, 0)] 0, .blk 0, .code [] 3]) (σ' := ⟨[(4, .sl 7 0), (8, .list (.ints a0)), (9, .int .i64 (a0.length : Int)), (10, .int .i64 (0 : Int))], [(7, .arr 29 0 0 (.rats []))]⟩) rfl trivial rfl ?_
  obtain ⟨x1, hk7, h⟩ := bind_some h
  refine Tri.loop (K1 := [.code [(2, 0), (1, 0), (0, 0)] 0]) (K2 := [.blk 0, .code [] 3]) (fun (v1, v2) => ⟨[(4, .sl 7 0), (8, .list (.ints a0)), (9, .int .i64 (a0.length : Int)), (10, .int .i64 v1)], [(7, .arr 29 0 0 (.rats v2))]⟩) (fun x e σ' => match x with | (.inl v6) => e = .exit 0 ∧ σ' = ⟨[(4, .sl 7 0)], [(7, .arr 29 0 0 (.rats v6))]⟩ | (.inr r) => e = .ret ∧ q_impl_IntsToRats r σ') hk7 rfl rfl ?_ ?_
  · intro s x hs
    clear h
    have h := hs
    clear hs
    obtain ⟨v1, v2⟩ := s
    refine Tri.run 1 [] [.keep [4, 8, 9, 10, 11] [7]] (K' := [.code [(2, 0), (1, 0), (0, 0), (1, 0)] 0, .code [(2, 0), (1, 0), (0, 0)] 2]) (σ' := ⟨[(4, .sl 7 0), (8, .list (.ints a0)), (9, .int .i64 (a0.length : Int)), (10, .int .i64 v1), (11, .bool (decide (v1 < (a0.length : Int))))], [(7, .arr 29 0 0 (.rats v2))]⟩) rfl trivial rfl ?_
    rcases bif_some h with ⟨hd1, h⟩ | ⟨hd1, h⟩
    · obtain ⟨hg2, h⟩ := grd_some h
      refine Tri.run 2 [.g true] [.keep [4, 6, 8, 9, 10] [7]] (K' := [.code [(2, 0), (1, 0), (0, 0), (2, 0), (0, 0), (1, 0), (0, 0)] 0, .code [(2, 0), (1, 0), (0, 0), (2, 0), (0, 0), (1, 0)] 1, .code [(2, 0), (1, 0), (0, 0), (2, 0), (0, 0)] 2, .blk 1, .code [(2, 0), (1, 0), (0, 0)] 3]) (σ' := ⟨[(4, .sl 7 0), (6, .int .i64 (a0.getD v1.toNat 0)), (8, .list (.ints a0)), (9, .int .i64 (a0.length : Int)), (10, .int .i64 v1)], [(7, .arr 29 0 0 (.rats v2))]⟩) rfl ⟨hg2, hd1, trivial⟩ rfl ?_
      obtain ⟨v3, hk3, h⟩ := bind_some h
      refine Tri.run 1 [.r ⟨[], .bool v3, []⟩] [.keep [4, 6, 8, 9, 10, 16] [7]] (K' := [.code [(2, 0), (1, 0), (0, 0), (2, 0), (0, 0), (1, 0)] 1, .code [(2, 0), (1, 0), (0, 0), (2, 0), (0, 0)] 2, .blk 1, .code [(2, 0), (1, 0), (0, 0)] 3]) (σ' := ⟨[(4, .sl 7 0), (6, .int .i64 (a0.getD v1.toNat 0)), (8, .list (.ints a0)), (9, .int .i64 (a0.length : Int)), (10, .int .i64 v1), (16, .bool (!v3))], [(7, .arr 29 0 0 (.rats v2))]⟩) rfl ⟨(w_impl_within (a0.getD v1.toNat 0) (-1000000000 : Int) (1000000000 : Int) v3 hk3), trivial⟩ rfl ?_
      rcases bif_some h with ⟨hd4, h⟩ | ⟨hd4, h⟩
      · refine Tri.run 2 [.g true] [.own 2 [] 1100 29, .swap 1100 1000, .keep [2, 3] [1000]] (K' := [.code [(2, 0), (1, 0), (0, 0), (2, 0), (0, 0), (1, 0), (1, 0)] 1, .code [(2, 0), (1, 0), (0, 0), (2, 0), (0, 0)] 2, .blk 1, .code [(2, 0), (1, 0), (0, 0)] 3]) (σ' := ⟨[(2, .sl 1000 0), (3, .bool false)], [(1000, .arr 29 0 0 (.rats []))]⟩) rfl ⟨hd4, trivial⟩ rfl ?_
        have h := Option.some.inj h
        subst h
        exact Tri.ret rfl ⟨nofun, rfl, rfl, rfl⟩
      · obtain ⟨⟨v4, v5⟩, hk5, h⟩ := bind_some h
        obtain ⟨hg6, h⟩ := grd_some h
        refine Tri.run 3 [.g false, .r ⟨[], .agg [.int .i64 v4, .int .i64 v5], []⟩] [.rever 7, .keep [4, 8, 9, 10] [7]] (K' := []) (σ' := ⟨[(4, .sl 7 0), (8, .list (.ints a0)), (9, .int .i64 (a0.length : Int)), (10, .int .i64 (IntKind.i64.wrap (v1 + (1 : Int))))], [(7, .arr 29 0 0 (.rats (v2 ++ [⟨v4, v5⟩])))]⟩) rfl ⟨hg6, (w_impl_whole (a0.getD v1.toNat 0) (v4, v5) hk5), hd4, trivial⟩ rfl ?_
        have h := Option.some.inj h
        subst h
        exact Tri.nil ⟨rfl, rfl⟩
    · refine Tri.run 1 [.g false] [.keep [4] [7]] (K' := [.code [(2, 0), (1, 0), (0, 0), (1, 0), (0, 1)] 0, .code [(2, 0), (1, 0), (0, 0)] 2]) (σ' := ⟨[(4, .sl 7 0)], [(7, .arr 29 0 0 (.rats v2))]⟩) rfl ⟨hd1, trivial⟩ rfl ?_
      have h := Option.some.inj h
      subst h
      exact Tri.out 0 rfl ⟨nofun, rfl, rfl⟩
  · intro e σ' hne hq
    rcases x1 with v6 | r
    · obtain ⟨rfl, rfl⟩ := hq
      refine TriX.exit (K' := [.code [] 3]) rfl ?_
      refine Tri.run 1 [] [.swap 7 1000, .keep [2, 3] [1000]] (K' := [.code [] 4]) (σ' := ⟨[(2, .sl 1000 0), (3, .bool true)], [(1000, .arr 29 0 0 (.rats v6))]⟩) rfl trivial rfl ?_
      have h := Option.some.inj h
      subst h
      exact Tri.ret rfl ⟨.inl rfl, rfl, rfl⟩
    · obtain ⟨rfl, hq⟩ := hq
      have h := Option.some.inj h
      subst h
      exact TriX.ret ⟨.inl rfl, hq⟩
/-! impl.rats -/
noncomputable def E123_impl_rats : Env := ⟨Try.prog, tys, (Try.f123.body).getD .skip, 11, tysOk, mixedOk⟩
abbrev q_impl_rats (r : List Q) (σ' : ASt) : Prop := resAV E123_impl_rats.T σ' Try.f123.results.toList = some (.sl 1000 0) ∧ keepO σ'.ob (namesO [(1000, .arr 29 0 0 (.rats r))]) = [(1000, .arr 29 0 0 (.rats r))]
noncomputable def m_impl_rats (a0 : List Int) : Option (List Q) :=
(m_impl_IntsToRats a0).bind fun (_, v2) =>
some v2
theorem w_impl_rats (a0 : List Int) (r : List Q) (h : m_impl_rats a0 = some r) : AM.Spec Try.prog 123 [.list (.ints a0)] [] (.sl 1000 0) [(1000, .arr 29 0 0 (.rats r))] := by
  refine spec_of (E := E123_impl_rats) Try.func123 rfl rfl rfl rfl ?_
  refine Tri.run 1 [] [.keep [0] []] (K' := [.code [(1, 0)] 0, .code [] 2]) (σ' := ⟨[(0, .list (.ints a0))], []⟩) rfl trivial rfl ?_
  obtain ⟨⟨v1, v2⟩, hk1, h⟩ := bind_some h
  refine Tri.run 2 [.r ⟨[], .tuple [.sl 1100 0, .bool v1], [(1100, .arr 29 0 0 (.rats v2))]⟩] [.swap 1100 1000, .keep [2] [1000]] (K' := [.code [] 3]) (σ' := ⟨[(2, .sl 1000 0)], [(1000, .arr 29 0 0 (.rats v2))]⟩) rfl ⟨((w_impl_IntsToRats a0 (v1, v2) hk1).swap 1000 1100), trivial⟩ rfl ?_
  have h := Option.some.inj h
  subst h
  exact Tri.ret rfl ⟨.inl rfl, rfl, rfl⟩
/-! impl.MulRat -/
noncomputable def E150_impl_MulRat : Env := ⟨Try.prog, tys, (Try.f150.body).getD .skip, 28, tysOk, mixedOk⟩
abbrev q_impl_MulRat (r : Int × Int × Bool) (σ' : ASt) : Prop := resAV E150_impl_MulRat.T σ' Try.f150.results.toList = some (.tuple [.agg [.int .i64 r.1, .int .i64 r.2.1], .bool r.2.2]) ∧ keepO σ'.ob (namesO []) = []
noncomputable def m_impl_MulRat (a0 : Int) (a1 : Int) (a2 : Int) (a3 : Int) : Option (Int × Int × Bool) :=
(m_impl_IsValidRat a0 a1).bind fun v1 =>
bif !v1 then
(some (0, 0, false))
else
((m_impl_IsValidRat a2 a3).bind fun v2 =>
bif !v2 then
(some (0, 0, false))
else
((m_impl_RatOf (IntKind.i64.wrap (a0 * a2)) (IntKind.i64.wrap (a1 * a3))).bind fun (v3, v4, v5) =>
some (v3, v4, v5)))
theorem w_impl_MulRat (a0 : Int) (a1 : Int) (a2 : Int) (a3 : Int) (r : Int × Int × Bool) (h : m_impl_MulRat a0 a1 a2 a3 = some r) : AM.Spec Try.prog 150 [.agg [.int .i64 a0, .int .i64 a1], .agg [.int .i64 a2, .int .i64 a3]] [] (.tuple [.agg [.int .i64 r.1, .int .i64 r.2.1], .bool r.2.2]) [] := by
  refine spec_of (E := E150_impl_MulRat) Try.func150 rfl rfl rfl rfl ?_
  refine Tri.run 1 [] [.keep [2, 3, 4] [2, 3, 4]] (K' := [.code [(1, 0), (0, 0)] 0, .code [(1, 0)] 1, .code [] 2]) (σ' := ⟨[(2, .ptr 2 0), (3, .ptr 3 0), (4, .ptr 4 0)], [(2, .box [.int .i64 a0, .int .i64 a1]), (3, .box [.int .i64 a2, .int .i64 a3]), (4, .box [.int .i64 0, .int .i64 0])]⟩) rfl trivial rfl ?_
  obtain ⟨v1, hk1, h⟩ := bind_some h
  rcases bif_some h with ⟨hd2, h⟩ | ⟨hd2, h⟩
  · refine Tri.run 1 [.r ⟨[], .bool v1, []⟩, .g true] [.keep [2, 3, 4, 13] [2, 3, 4]] (K' := [.code [(1, 0)] 1, .code [] 2]) (σ' := ⟨[(2, .ptr 2 0), (3, .ptr 3 0), (4, .ptr 4 0), (13, .bool true)], [(2, .box [.int .i64 a0, .int .i64 a1]), (3, .box [.int .i64 a2, .int .i64 a3]), (4, .box [.int .i64 0, .int .i64 0])]⟩) rfl ⟨hd2, (w_impl_IsValidRat a0 a1 v1 hk1), trivial⟩ rfl ?_
    refine Tri.run 2 [.g true] [.keep [4, 5] [4]] (K' := [.code [(1, 0), (1, 0)] 1, .code [] 2]) (σ' := ⟨[(4, .ptr 4 0), (5, .bool false)], [(4, .box [.int .i64 0, .int .i64 0])]⟩) rfl ⟨rfl, trivial⟩ rfl ?_
    have h := Option.some.inj h
    subst h
    exact Tri.ret rfl ⟨.inl rfl, rfl, rfl⟩
  · obtain ⟨v2, hk3, h⟩ := bind_some h
    refine Tri.run 1 [.r ⟨[], .bool v1, []⟩, .g false, .r ⟨[], .bool v2, []⟩] [.keep [2, 3, 4, 13] [2, 3, 4]] (K' := [.code [(1, 0)] 1, .code [] 2]) (σ' := ⟨[(2, .ptr 2 0), (3, .ptr 3 0), (4, .ptr 4 0), (13, .bool (!v2))], [(2, .box [.int .i64 a0, .int .i64 a1]), (3, .box [.int .i64 a2, .int .i64 a3]), (4, .box [.int .i64 0, .int .i64 0])]⟩) rfl ⟨(w_impl_IsValidRat a2 a3 v2 hk3), hd2, (w_impl_IsValidRat a0 a1 v1 hk1), trivial⟩ rfl ?_
    rcases bif_some h with ⟨hd4, h⟩ | ⟨hd4, h⟩
    · refine Tri.run 2 [.g true] [.keep [4, 5] [4]] (K' := [.code [(1, 0), (1, 0)] 1, .code [] 2]) (σ' := ⟨[(4, .ptr 4 0), (5, .bool false)], [(4, .box [.int .i64 0, .int .i64 0])]⟩) rfl ⟨hd4, trivial⟩ rfl ?_
      have h := Option.some.inj h
      subst h
      exact Tri.ret rfl ⟨.inl rfl, rfl, rfl⟩
    · obtain ⟨⟨v3, v4, v5⟩, hk5, h⟩ := bind_some h
      refine Tri.run 2 [.g false, .r ⟨[], .tuple [.agg [.int .i64 v3, .int .i64 v4], .bool v5], []⟩] [.keep [4, 5] [4]] (K' := [.code [] 3]) (σ' := ⟨[(4, .ptr 4 0), (5, .bool v5)], [(4, .box [.int .i64 v3, .int .i64 v4])]⟩) rfl ⟨(w_impl_RatOf (IntKind.i64.wrap (a0 * a2)) (IntKind.i64.wrap (a1 * a3)) (v3, v4, v5) hk5), hd4, trivial⟩ rfl ?_
      have h := Option.some.inj h
      subst h
      exact Tri.ret rfl ⟨.inl rfl, rfl, rfl⟩
/-! impl.DotRat -/
noncomputable def E122_impl_DotRat : Env := ⟨Try.prog, tys, (Try.f122.body).getD .skip, 52, tysOk, mixedOk⟩
abbrev q_impl_DotRat (r : Int × Int × Bool) (σ' : ASt) : Prop := resAV E122_impl_DotRat.T σ' Try.f122.results.toList = some (.tuple [.agg [.int .i64 r.1, .int .i64 r.2.1], .bool r.2.2]) ∧ keepO σ'.ob (namesO []) = []
noncomputable def l_impl_DotRat_0 (a0 : List Q) (a1 : List Q) : (Int × Int × Int) → Option ((Int × Int × Int) ⊕ ((Int × Int) ⊕ ((Int × Int × Bool))))
  | (v3, v4, v5) => (
bif decide (v3 < (a0.length : Int)) then
(grd ((0 : Int) ≤ v3 ∧ v3 < (a0.length : Int)) <|
grd ((0 : Int) ≤ v3 ∧ v3 < (a1.length : Int)) <|
(m_impl_MulRat ((a0.getD v3.toNat ⟨0, 0⟩).num) ((a0.getD v3.toNat ⟨0, 0⟩).den) ((a1.getD v3.toNat ⟨0, 0⟩).num) ((a1.getD v3.toNat ⟨0, 0⟩).den)).bind fun (v6, v7, v8) =>
(m_impl_AddRat v4 v5 v6 v7).bind fun (v9, v10, v11) =>
bif !v8 then
(some (.inr (.inr (0, 0, false))))
else
(bif !v11 then
(some (.inr (.inr (0, 0, false))))
else
(some (.inl (IntKind.i64.wrap (v3 + (1 : Int)), v9, v10)))))
else
(some (.inr (.inl (v4, v5)))))
noncomputable def m_impl_DotRat (a0 : List Q) (a1 : List Q) : Option (Int × Int × Bool) :=
bif (a0.length : Int) != (a1.length : Int) then
(some (0, 0, false))
else
((m_impl_whole (0 : Int)).bind fun (v1, v2) =>
(iter (l_impl_DotRat_0 a0 a1) ((0 : Int), v1, v2)).bind fun
| (.inl (v12, v13)) => (
some (v12, v13, true))
| (.inr r) => some r)
theorem w_impl_DotRat (a0 : List Q) (a1 : List Q) (r : Int × Int × Bool) (h : m_impl_DotRat a0 a1 = some r) : AM.Spec Try.prog 122 [.list (.rats a0), .list (.rats a1)] [] (.tuple [.agg [.int .i64 r.1, .int .i64 r.2.1], .bool r.2.2]) [] := by
  refine spec_of (E := E122_impl_DotRat) Try.func122 rfl rfl rfl rfl ?_
  refine Tri.run 2 [] [.keep [0, 1, 4, 16] [4]] (K' := [.code [(1, 0)] 1, .code [] 2]) (σ' := ⟨[(0, .list (.rats a0)), (1, .list (.rats a1)), (4, .ptr 4 0), (16, .bool ((a0.length : Int) != (a1.length : Int)))], [(4, .box [.int .i64 0, .int .i64 0])]⟩) rfl trivial rfl ?_
  rcases bif_some h with ⟨hd1, h⟩ | ⟨hd1, h⟩
  · refine Tri.run 2 [.g true] [.keep [4, 5] [4]] (K' := [.code [(1, 0), (1, 0)] 1, .code [] 2]) (σ' := ⟨[(4, .ptr 4 0), (5, .bool false)], [(4, .box [.int .i64 0, .int .i64 0])]⟩) rfl ⟨hd1, trivial⟩ rfl ?_
    have h := Option.some.inj h
    subst h
    exact Tri.ret rfl ⟨.inl rfl, rfl, rfl⟩
  · obtain ⟨⟨v1, v2⟩, hk2, h⟩ := bind_some h
    refine Tri.run 3 [.g false, .r ⟨[], .agg [.int .i64 v1, .int .i64 v2], []⟩] [.keep [0, 1, 4, 6, 20, 21] [4, 6]] (K' := [.code [(3, 0), (1, 0)] 0, .blk 0, .code [] 4]) (σ' := ⟨[(0, .list (.rats a0)), (1, .list (.rats a1)), (4, .ptr 4 0), (6, .ptr 6 0), (20, .int .i64 (a0.length : Int)), (21, .int .i64 (0 : Int))], [(4, .box [.int .i64 0, .int .i64 0]), (6, .box [.int .i64 v1, .int .i64 v2])]⟩) rfl ⟨(w_impl_whole (0 : Int) (v1, v2) hk2), hd1, trivial⟩ rfl ?_
    obtain ⟨x1, hk10, h⟩ := bind_some h
    refine Tri.loop (K1 := [.code [(3, 0), (1, 0), (0, 0)] 0]) (K2 := [.blk 0, .code [] 4]) (fun (v3, v4, v5) => ⟨[(0, .list (.rats a0)), (1, .list (.rats a1)), (4, .ptr 4 0), (6, .ptr 6 0), (20, .int .i64 (a0.length : Int)), (21, .int .i64 v3)], [(4, .box [.int .i64 0, .int .i64 0]), (6, .box [.int .i64 v4, .int .i64 v5])]⟩) (fun x e σ' => match x with | (.inl (v12, v13)) => e = .exit 0 ∧ σ' = ⟨[(4, .ptr 4 0), (6, .ptr 6 0)], [(4, .box [.int .i64 0, .int .i64 0]), (6, .box [.int .i64 v12, .int .i64 v13])]⟩ | (.inr r) => e = .ret ∧ q_impl_DotRat r σ') hk10 rfl rfl ?_ ?_
    · intro s x hs
      clear h
      have h := hs
      clear hs
      obtain ⟨v3, v4, v5⟩ := s
      refine Tri.run 1 [] [.keep [0, 1, 4, 6, 20, 21, 22] [4, 6]] (K' := [.code [(3, 0), (1, 0), (0, 0), (1, 0)] 0, .code [(3, 0), (1, 0), (0, 0)] 2]) (σ' := ⟨[(0, .list (.rats a0)), (1, .list (.rats a1)), (4, .ptr 4 0), (6, .ptr 6 0), (20, .int .i64 (a0.length : Int)), (21, .int .i64 v3), (22, .bool (decide (v3 < (a0.length : Int))))], [(4, .box [.int .i64 0, .int .i64 0]), (6, .box [.int .i64 v4, .int .i64 v5])]⟩) rfl trivial rfl ?_
      rcases bif_some h with ⟨hd3, h⟩ | ⟨hd3, h⟩
      · refine Tri.run 2 [.g true] [.keep [0, 1, 4, 6, 7, 20, 21] [4, 6]] (K' := [.code [(3, 0), (1, 0), (0, 0), (2, 0), (0, 0), (1, 0)] 0, .code [(3, 0), (1, 0), (0, 0), (2, 0), (0, 0)] 2, .blk 1, .code [(3, 0), (1, 0), (0, 0)] 3]) (σ' := ⟨[(0, .list (.rats a0)), (1, .list (.rats a1)), (4, .ptr 4 0), (6, .ptr 6 0), (7, .int .i64 v3), (20, .int .i64 (a0.length : Int)), (21, .int .i64 v3)], [(4, .box [.int .i64 0, .int .i64 0]), (6, .box [.int .i64 v4, .int .i64 v5])]⟩) rfl ⟨hd3, trivial⟩ rfl ?_
        obtain ⟨hg4, h⟩ := grd_some h
        obtain ⟨hg5, h⟩ := grd_some h
        obtain ⟨⟨v6, v7, v8⟩, hk6, h⟩ := bind_some h
        obtain ⟨⟨v9, v10, v11⟩, hk7, h⟩ := bind_some h
        refine Tri.run 2 [.r ⟨[], .tuple [.agg [.int .i64 v6, .int .i64 v7], .bool v8], []⟩, .r ⟨[], .tuple [.agg [.int .i64 v9, .int .i64 v10], .bool v11], []⟩] [.keep [0, 1, 4, 6, 9, 10, 11, 20, 21] [4, 6, 10]] (K' := [.code [(3, 0), (1, 0), (0, 0), (2, 0), (0, 0), (3, 0), (0, 0)] 0, .code [(3, 0), (1, 0), (0, 0), (2, 0), (0, 0), (3, 0)] 1, .code [(3, 0), (1, 0), (0, 0), (2, 0), (0, 0)] 4, .blk 1, .code [(3, 0), (1, 0), (0, 0)] 3]) (σ' := ⟨[(0, .list (.rats a0)), (1, .list (.rats a1)), (4, .ptr 4 0), (6, .ptr 6 0), (9, .bool v8), (10, .ptr 10 0), (11, .bool v11), (20, .int .i64 (a0.length : Int)), (21, .int .i64 v3)], [(4, .box [.int .i64 0, .int .i64 0]), (6, .box [.int .i64 v4, .int .i64 v5]), (10, .box [.int .i64 v9, .int .i64 v10])]⟩) rfl ⟨(w_impl_AddRat v4 v5 v6 v7 (v9, v10, v11) hk7), (w_impl_MulRat ((a0.getD v3.toNat ⟨0, 0⟩).num) ((a0.getD v3.toNat ⟨0, 0⟩).den) ((a1.getD v3.toNat ⟨0, 0⟩).num) ((a1.getD v3.toNat ⟨0, 0⟩).den) (v6, v7, v8) hk6), hg5, hg4, trivial⟩ rfl ?_
        rcases bif_some h with ⟨hd8, h⟩ | ⟨hd8, h⟩
        · refine Tri.run 1 [.g true] [.keep [0, 1, 4, 6, 10, 20, 21, 47] [4, 6, 10]] (K' := [.code [(3, 0), (1, 0), (0, 0), (2, 0), (0, 0), (3, 0)] 1, .code [(3, 0), (1, 0), (0, 0), (2, 0), (0, 0)] 4, .blk 1, .code [(3, 0), (1, 0), (0, 0)] 3]) (σ' := ⟨[(0, .list (.rats a0)), (1, .list (.rats a1)), (4, .ptr 4 0), (6, .ptr 6 0), (10, .ptr 10 0), (20, .int .i64 (a0.length : Int)), (21, .int .i64 v3), (47, .bool true)], [(4, .box [.int .i64 0, .int .i64 0]), (6, .box [.int .i64 v4, .int .i64 v5]), (10, .box [.int .i64 v9, .int .i64 v10])]⟩) rfl ⟨hd8, trivial⟩ rfl ?_
          refine Tri.run 2 [.g true] [.keep [4, 5] [4]] (K' := [.code [(3, 0), (1, 0), (0, 0), (2, 0), (0, 0), (3, 0), (1, 0)] 1, .code [(3, 0), (1, 0), (0, 0), (2, 0), (0, 0)] 4, .blk 1, .code [(3, 0), (1, 0), (0, 0)] 3]) (σ' := ⟨[(4, .ptr 4 0), (5, .bool false)], [(4, .box [.int .i64 0, .int .i64 0])]⟩) rfl ⟨rfl, trivial⟩ rfl ?_
          have h := Option.some.inj h
          subst h
          exact Tri.ret rfl ⟨nofun, rfl, rfl, rfl⟩
        · refine Tri.run 1 [.g false] [.keep [0, 1, 4, 6, 10, 20, 21, 47] [4, 6, 10]] (K' := [.code [(3, 0), (1, 0), (0, 0), (2, 0), (0, 0), (3, 0)] 1, .code [(3, 0), (1, 0), (0, 0), (2, 0), (0, 0)] 4, .blk 1, .code [(3, 0), (1, 0), (0, 0)] 3]) (σ' := ⟨[(0, .list (.rats a0)), (1, .list (.rats a1)), (4, .ptr 4 0), (6, .ptr 6 0), (10, .ptr 10 0), (20, .int .i64 (a0.length : Int)), (21, .int .i64 v3), (47, .bool (!v11))], [(4, .box [.int .i64 0, .int .i64 0]), (6, .box [.int .i64 v4, .int .i64 v5]), (10, .box [.int .i64 v9, .int .i64 v10])]⟩) rfl ⟨hd8, trivial⟩ rfl ?_
          rcases bif_some h with ⟨hd9, h⟩ | ⟨hd9, h⟩
          · refine Tri.run 2 [.g true] [.keep [4, 5] [4]] (K' := [.code [(3, 0), (1, 0), (0, 0), (2, 0), (0, 0), (3, 0), (1, 0)] 1, .code [(3, 0), (1, 0), (0, 0), (2, 0), (0, 0)] 4, .blk 1, .code [(3, 0), (1, 0), (0, 0)] 3]) (σ' := ⟨[(4, .ptr 4 0), (5, .bool false)], [(4, .box [.int .i64 0, .int .i64 0])]⟩) rfl ⟨hd9, trivial⟩ rfl ?_
            have h := Option.some.inj h
            subst h
            exact Tri.ret rfl ⟨nofun, rfl, rfl, rfl⟩
          · refine Tri.run 3 [.g false] [.keep [0, 1, 4, 6, 20, 21] [4, 6]] (K' := []) (σ' := ⟨[(0, .list (.rats a0)), (1, .list (.rats a1)), (4, .ptr 4 0), (6, .ptr 6 0), (20, .int .i64 (a0.length : Int)), (21, .int .i64 (IntKind.i64.wrap (v3 + (1 : Int))))], [(4, .box [.int .i64 0, .int .i64 0]), (6, .box [.int .i64 v9, .int .i64 v10])]⟩) rfl ⟨hd9, trivial⟩ rfl ?_
            have h := Option.some.inj h
            subst h
            exact Tri.nil ⟨rfl, rfl⟩
      · refine Tri.run 1 [.g false] [.keep [4, 6] [4, 6]] (K' := [.code [(3, 0), (1, 0), (0, 0), (1, 0), (0, 1)] 0, .code [(3, 0), (1, 0), (0, 0)] 2]) (σ' := ⟨[(4, .ptr 4 0), (6, .ptr 6 0)], [(4, .box [.int .i64 0, .int .i64 0]), (6, .box [.int .i64 v4, .int .i64 v5])]⟩) rfl ⟨hd3, trivial⟩ rfl ?_
        have h := Option.some.inj h
        subst h
        exact Tri.out 0 rfl ⟨nofun, rfl, rfl⟩
    · intro e σ' hne hq
      rcases x1 with ⟨v12, v13⟩ | r
      · obtain ⟨rfl, rfl⟩ := hq
        refine TriX.exit (K' := [.code [] 4]) rfl ?_
        refine Tri.run 1 [] [.keep [4, 5] [4]] (K' := [.code [] 5]) (σ' := ⟨[(4, .ptr 4 0), (5, .bool true)], [(4, .box [.int .i64 v12, .int .i64 v13])]⟩) rfl trivial rfl ?_
        have h := Option.some.inj h
        subst h
        exact Tri.ret rfl ⟨.inl rfl, rfl, rfl⟩
      · obtain ⟨rfl, hq⟩ := hq
        have h := Option.some.inj h
        subst h
        exact TriX.ret ⟨.inl rfl, hq⟩
/-! impl.gives -/
noncomputable def E156_impl_gives : Env := ⟨Try.prog, tys, (Try.f156.body).getD .skip, 38, tysOk, mixedOk⟩
abbrev q_impl_gives (r : Bool) (σ' : ASt) : Prop := resAV E156_impl_gives.T σ' Try.f156.results.toList = some (.bool r) ∧ keepO σ'.ob (namesO []) = []
noncomputable def l_impl_gives_0 (a0 : List (List Int)) (a3 : List Q) (a4 : List Int) (v1 : Int) : Option (Int ⊕ (Unit ⊕ Bool)) :=
bif decide (v1 < (a0.length : Int)) then
(grd ((0 : Int) ≤ v1 ∧ v1 < (a0.length : Int)) <|
(m_impl_rats (a0.getD v1.toNat [])).bind fun v2 =>
(m_impl_DotRat v2 a3).bind fun (v3, v4, v5) =>
bif !v5 then
(some (.inr (.inr false)))
else
(grd ((0 : Int) ≤ v1 ∧ v1 < (a4.length : Int)) <|
(m_impl_whole (a4.getD v1.toNat 0)).bind fun (v6, v7) =>
bif !(v3 == v6 && v4 == v7) then
(some (.inr (.inr false)))
else
(some (.inl (IntKind.i64.wrap (v1 + (1 : Int)))))))
else
(some (.inr (.inl ())))
noncomputable def m_impl_gives (a0 : List (List Int)) (_a1 : List Int) (_a2 : List Q) (a3 : List Q) (a4 : List Int) : Option Bool :=
(iter (l_impl_gives_0 a0 a3 a4) (0 : Int)).bind fun
| (.inl _) => (
some true)
| (.inr r) => some r
theorem w_impl_gives (a0 : List (List Int)) (a1 : List Int) (a2 : List Q) (a3 : List Q) (a4 : List Int) (r : Bool) (h : m_impl_gives a0 a1 a2 a3 a4 = some r) : AM.Spec Try.prog 156 [.agg [.list (.intss a0), .list (.ints a1), .list (.rats a2)], .list (.rats a3), .list (.ints a4)] [] (.bool r) [] := by
  refine spec_of (E := E156_impl_gives) Try.func156 rfl rfl rfl rfl ?_
  refine Tri.run 2 [] [.keep [1, 2, 12, 13, 14] []] (K' := [.code [(1, 0), (1, 0)] 0, .blk 0, .code [] 2]) (σ' := ⟨[(1, .list (.rats a3)), (2, .list (.ints a4)), (12, .list (.intss a0)), (13, .int .i64 (a0.length : Int)), (14, .int .i64 (0 : Int))], []⟩) rfl trivial rfl ?_
  obtain ⟨x1, hk9, h⟩ := bind_some h
  refine Tri.loop (K1 := [.code [(1, 0), (1, 0), (0, 0)] 0]) (K2 := [.blk 0, .code [] 2]) (fun v1 => ⟨[(1, .list (.rats a3)), (2, .list (.ints a4)), (12, .list (.intss a0)), (13, .int .i64 (a0.length : Int)), (14, .int .i64 v1)], []⟩) (fun x e σ' => match x with | (.inl _) => e = .exit 0 ∧ σ' = ⟨[], []⟩ | (.inr r) => e = .ret ∧ q_impl_gives r σ') hk9 rfl rfl ?_ ?_
  · intro v1 x hs
    clear h
    have h := hs
    clear hs
    refine Tri.run 1 [] [.keep [1, 2, 12, 13, 14, 15] []] (K' := [.code [(1, 0), (1, 0), (0, 0), (1, 0)] 0, .code [(1, 0), (1, 0), (0, 0)] 2]) (σ' := ⟨[(1, .list (.rats a3)), (2, .list (.ints a4)), (12, .list (.intss a0)), (13, .int .i64 (a0.length : Int)), (14, .int .i64 v1), (15, .bool (decide (v1 < (a0.length : Int))))], []⟩) rfl trivial rfl ?_
    rcases bif_some h with ⟨hd1, h⟩ | ⟨hd1, h⟩
    · obtain ⟨hg2, h⟩ := grd_some h
      refine Tri.run 2 [.g true] [.keep [1, 2, 7, 8, 12, 13, 14] []] (K' := [.code [(1, 0), (1, 0), (0, 0), (2, 0), (0, 0), (1, 0)] 0, .code [(1, 0), (1, 0), (0, 0), (2, 0), (0, 0)] 2, .blk 1, .code [(1, 0), (1, 0), (0, 0)] 3]) (σ' := ⟨[(1, .list (.rats a3)), (2, .list (.ints a4)), (7, .int .i64 v1), (8, .list (.ints (a0.getD v1.toNat []))), (12, .list (.intss a0)), (13, .int .i64 (a0.length : Int)), (14, .int .i64 v1)], []⟩) rfl ⟨hg2, hd1, trivial⟩ rfl ?_
      obtain ⟨v2, hk3, h⟩ := bind_some h
      obtain ⟨⟨v3, v4, v5⟩, hk4, h⟩ := bind_some h
      rcases bif_some h with ⟨hd5, h⟩ | ⟨hd5, h⟩
      · refine Tri.run 2 [.r ⟨[], .sl 1100 0, [(1100, .arr 29 0 0 (.rats v2))]⟩, .r ⟨[], .tuple [.agg [.int .i64 v3, .int .i64 v4], .bool v5], []⟩, .g true] [.keep [1, 2, 12, 13, 14, 36] []] (K' := [.code [(1, 0), (1, 0), (0, 0), (2, 0), (0, 0)] 3, .blk 1, .code [(1, 0), (1, 0), (0, 0)] 3]) (σ' := ⟨[(1, .list (.rats a3)), (2, .list (.ints a4)), (12, .list (.intss a0)), (13, .int .i64 (a0.length : Int)), (14, .int .i64 v1), (36, .bool true)], []⟩) rfl ⟨hd5, (w_impl_DotRat v2 a3 (v3, v4, v5) hk4), ((w_impl_rats (a0.getD v1.toNat []) v2 hk3).swap 1000 1100), trivial⟩ rfl ?_
        refine Tri.run 2 [.g true] [.keep [6] []] (K' := [.code [(1, 0), (1, 0), (0, 0), (2, 0), (0, 0), (3, 0)] 1, .blk 1, .code [(1, 0), (1, 0), (0, 0)] 3]) (σ' := ⟨[(6, .bool false)], []⟩) rfl ⟨rfl, trivial⟩ rfl ?_
        have h := Option.some.inj h
        subst h
        exact Tri.ret rfl ⟨nofun, rfl, rfl, rfl⟩
      · obtain ⟨hg6, h⟩ := grd_some h
        obtain ⟨⟨v6, v7⟩, hk7, h⟩ := bind_some h
        refine Tri.run 2 [.r ⟨[], .sl 1100 0, [(1100, .arr 29 0 0 (.rats v2))]⟩, .r ⟨[], .tuple [.agg [.int .i64 v3, .int .i64 v4], .bool v5], []⟩, .g false, .r ⟨[], .agg [.int .i64 v6, .int .i64 v7], []⟩] [.keep [1, 2, 12, 13, 14, 36] []] (K' := [.code [(1, 0), (1, 0), (0, 0), (2, 0), (0, 0)] 3, .blk 1, .code [(1, 0), (1, 0), (0, 0)] 3]) (σ' := ⟨[(1, .list (.rats a3)), (2, .list (.ints a4)), (12, .list (.intss a0)), (13, .int .i64 (a0.length : Int)), (14, .int .i64 v1), (36, .bool (!(v3 == v6 && v4 == v7)))], []⟩) rfl ⟨(w_impl_whole (a4.getD v1.toNat 0) (v6, v7) hk7), hg6, hd5, (w_impl_DotRat v2 a3 (v3, v4, v5) hk4), ((w_impl_rats (a0.getD v1.toNat []) v2 hk3).swap 1000 1100), trivial⟩ rfl ?_
        rcases bif_some h with ⟨hd8, h⟩ | ⟨hd8, h⟩
        · refine Tri.run 2 [.g true] [.keep [6] []] (K' := [.code [(1, 0), (1, 0), (0, 0), (2, 0), (0, 0), (3, 0)] 1, .blk 1, .code [(1, 0), (1, 0), (0, 0)] 3]) (σ' := ⟨[(6, .bool false)], []⟩) rfl ⟨hd8, trivial⟩ rfl ?_
          have h := Option.some.inj h
          subst h
          exact Tri.ret rfl ⟨nofun, rfl, rfl, rfl⟩
        · refine Tri.run 2 [.g false] [.keep [1, 2, 12, 13, 14] []] (K' := []) (σ' := ⟨[(1, .list (.rats a3)), (2, .list (.ints a4)), (12, .list (.intss a0)), (13, .int .i64 (a0.length : Int)), (14, .int .i64 (IntKind.i64.wrap (v1 + (1 : Int))))], []⟩) rfl ⟨hd8, trivial⟩ rfl ?_
          have h := Option.some.inj h
          subst h
          exact Tri.nil ⟨rfl, rfl⟩
    · refine Tri.run 1 [.g false] [.keep [] []] (K' := [.code [(1, 0), (1, 0), (0, 0), (1, 0), (0, 1)] 0, .code [(1, 0), (1, 0), (0, 0)] 2]) (σ' := ⟨[], []⟩) rfl ⟨hd1, trivial⟩ rfl ?_
      have h := Option.some.inj h
      subst h
      exact Tri.out 0 rfl ⟨nofun, rfl, rfl⟩
  · intro e σ' hne hq
    rcases x1 with _ | r
    · obtain ⟨rfl, rfl⟩ := hq
      refine TriX.exit (K' := [.code [] 2]) rfl ?_
      refine Tri.run 1 [] [.keep [6] []] (K' := [.code [] 3]) (σ' := ⟨[(6, .bool true)], []⟩) rfl trivial rfl ?_
      have h := Option.some.inj h
      subst h
      exact Tri.ret rfl ⟨.inl rfl, rfl, rfl⟩
    · obtain ⟨rfl, hq⟩ := hq
      have h := Option.some.inj h
      subst h
      exact TriX.ret ⟨.inl rfl, hq⟩
/-! impl.IsFeasible -/
noncomputable def E127_impl_IsFeasible : Env := ⟨Try.prog, tys, (Try.f127.body).getD .skip, 21, tysOk, mixedOk⟩
abbrev q_impl_IsFeasible (r : Bool) (σ' : ASt) : Prop := resAV E127_impl_IsFeasible.T σ' Try.f127.results.toList = some (.bool r) ∧ keepO σ'.ob (namesO []) = []
noncomputable def m_impl_IsFeasible (a0 : List (List Int)) (a1 : List Int) (a2 : List Q) (a3 : List Q) : Option Bool :=
(m_impl_IsValidLP a0 a1 a2).bind fun v1 =>
bif v1 then
((m_impl_notNegative a3 (a2.length : Int)).bind fun v2 =>
bif v2 then
((m_impl_gives a0 a1 a2 a3 a1).bind fun v3 =>
some v3)
else
(some false))
else
(some false)
theorem w_impl_IsFeasible (a0 : List (List Int)) (a1 : List Int) (a2 : List Q) (a3 : List Q) (r : Bool) (h : m_impl_IsFeasible a0 a1 a2 a3 = some r) : AM.Spec Try.prog 127 [.agg [.list (.intss a0), .list (.ints a1), .list (.rats a2)], .list (.rats a3)] [] (.bool r) [] := by
  refine spec_of (E := E127_impl_IsFeasible) Try.func127 rfl rfl rfl rfl ?_
  refine Tri.run 1 [] [.keep [1, 2] [2]] (K' := [.code [(1, 0)] 0, .code [] 2]) (σ' := ⟨[(1, .list (.rats a3)), (2, .ptr 2 0)], [(2, .box [.list (.intss a0), .list (.ints a1), .list (.rats a2)])]⟩) rfl trivial rfl ?_
  obtain ⟨v1, hk1, h⟩ := bind_some h
  rcases bif_some h with ⟨hd2, h⟩ | ⟨hd2, h⟩
  · obtain ⟨v2, hk3, h⟩ := bind_some h
    rcases bif_some h with ⟨hd4, h⟩ | ⟨hd4, h⟩
    · obtain ⟨v3, hk5, h⟩ := bind_some h
      refine Tri.run 1 [.r ⟨[], .bool v1, []⟩, .g true, .r ⟨[], .bool v2, []⟩, .g true, .r ⟨[], .bool v3, []⟩] [.keep [4] []] (K' := [.code [] 2]) (σ' := ⟨[(4, .bool v3)], []⟩) rfl ⟨(w_impl_gives a0 a1 a2 a3 a1 v3 hk5), hd4, (w_impl_notNegative a3 (a2.length : Int) v2 hk3), hd2, (w_impl_IsValidLP a0 a1 a2 v1 hk1), trivial⟩ rfl ?_
      have h := Option.some.inj h
      subst h
      exact Tri.ret rfl ⟨.inl rfl, rfl, rfl⟩
    · refine Tri.run 1 [.r ⟨[], .bool v1, []⟩, .g true, .r ⟨[], .bool v2, []⟩, .g false] [.keep [4] []] (K' := [.code [] 2]) (σ' := ⟨[(4, .bool false)], []⟩) rfl ⟨hd4, (w_impl_notNegative a3 (a2.length : Int) v2 hk3), hd2, (w_impl_IsValidLP a0 a1 a2 v1 hk1), trivial⟩ rfl ?_
      have h := Option.some.inj h
      subst h
      exact Tri.ret rfl ⟨.inl rfl, rfl, rfl⟩
  · refine Tri.run 1 [.r ⟨[], .bool v1, []⟩, .g false, .g false] [.keep [4] []] (K' := [.code [] 2]) (σ' := ⟨[(4, .bool false)], []⟩) rfl ⟨rfl, hd2, (w_impl_IsValidLP a0 a1 a2 v1 hk1), trivial⟩ rfl ?_
    have h := Option.some.inj h
    subst h
    exact Tri.ret rfl ⟨.inl rfl, rfl, rfl⟩
/-! impl.minus -/
noncomputable def E128_impl_minus : Env := ⟨Try.prog, tys, (Try.f128.body).getD .skip, 9, tysOk, mixedOk⟩
abbrev q_impl_minus (r : Int × Int) (σ' : ASt) : Prop := resAV E128_impl_minus.T σ' Try.f128.results.toList = some (.agg [.int .i64 r.1, .int .i64 r.2]) ∧ keepO σ'.ob (namesO []) = []
noncomputable def m_impl_minus (a0 : Int) (a1 : Int) : Option (Int × Int) :=
some (IntKind.i64.wrap (0 - a0), a1)
theorem w_impl_minus (a0 : Int) (a1 : Int) (r : Int × Int) (h : m_impl_minus a0 a1 = some r) : AM.Spec Try.prog 128 [.agg [.int .i64 a0, .int .i64 a1]] [] (.agg [.int .i64 r.1, .int .i64 r.2]) [] := by
  refine spec_of (E := E128_impl_minus) Try.func128 rfl rfl rfl rfl ?_
  refine Tri.run 2 [] [.keep [2] [2]] (K' := [.code [] 2]) (σ' := ⟨[(2, .ptr 2 0)], [(2, .box [.int .i64 (IntKind.i64.wrap (0 - a0)), .int .i64 a1])]⟩) rfl trivial rfl ?_
  have h := Option.some.inj h
  subst h
  exact Tri.ret rfl ⟨.inl rfl, rfl, rfl⟩
/-! impl.CheckLeastCore -/
noncomputable def E60_impl_CheckLeastCore : Env := ⟨Try.prog, tys, (Try.f60.body).getD .skip, 65, tysOk, mixedOk⟩
abbrev q_impl_CheckLeastCore (r : Bool) (σ' : ASt) : Prop := resAV E60_impl_CheckLeastCore.T σ' Try.f60.results.toList = some (.bool r) ∧ keepO σ'.ob (namesO []) = []
noncomputable def m_impl_CheckLeastCore (a0 : Int) (a1 : List Int) (a2 : Bool) (a3 : Int) (a4 : Int) (a5 : List Q) (a6 : List Q) : Option Bool :=
(m_impl_LeastLP a0 a1).bind fun (v1, v2, v3, v4) =>
(m_impl_WorstExcess a0 a1 a5).bind fun (v5, v6, v7, _) =>
bif !v1 then
(some false)
else
(bif !a2 then
(some false)
else
(bif !v7 then
(some false)
else
(bif !(v5 == a3 && v6 == a4) then
(some false)
else
((m_impl_IsFeasible v2 v3 v4 a6).bind fun v9 =>
bif !v9 then
(some false)
else
((m_impl_DotRat v4 a6).bind fun (v10, v11, v12) =>
bif v12 then
((m_impl_minus a3 a4).bind fun (v13, v14) =>
some (v10 == v13 && v11 == v14))
else
(some false))))))
theorem w_impl_CheckLeastCore (a0 : Int) (a1 : List Int) (a2 : Bool) (a3 : Int) (a4 : Int) (a5 : List Q) (a6 : List Q) (r : Bool) (h : m_impl_CheckLeastCore a0 a1 a2 a3 a4 a5 a6 = some r) : AM.Spec Try.prog 60 [.agg [.int .i64 a0, .list (.ints a1)], .agg [.bool a2, .int .i64 a3, .int .i64 a4, .list (.rats a5), .list (.rats a6)]] [] (.bool r) [] := by
  refine spec_of (E := E60_impl_CheckLeastCore) Try.func60 rfl rfl rfl rfl ?_
  refine Tri.run 1 [] [.keep [2, 3] [2, 3]] (K' := [.code [(1, 0)] 0, .code [] 2]) (σ' := ⟨[(2, .ptr 2 0), (3, .ptr 3 0)], [(2, .box [.int .i64 a0, .list (.ints a1)]), (3, .box [.bool a2, .int .i64 a3, .int .i64 a4, .list (.rats a5), .list (.rats a6)])]⟩) rfl trivial rfl ?_
  obtain ⟨⟨v1, v2, v3, v4⟩, hk1, h⟩ := bind_some h
  obtain ⟨⟨v5, v6, v7, v8⟩, hk2, h⟩ := bind_some h
  refine Tri.run 2 [.r ⟨[], .tuple [.agg [.sl 1100 0, .sl 1101 0, .sl 1102 0], .bool v1], [(1100, .arr 22 0 0 (.intss v2)), (1101, .arr 3 0 0 (.ints v3)), (1102, .arr 29 0 0 (.rats v4))]⟩, .r ⟨[], .tuple [.agg [.int .i64 v5, .int .i64 v6], .sl 1103 0, .bool v7], [(1103, .arr 3 0 0 (.ints v8))]⟩] [.keep [3, 5, 6, 7, 9] [3, 5, 7, 1100, 1101, 1102]] (K' := [.code [(3, 0), (0, 0)] 0, .code [(3, 0)] 1, .code [] 4]) (σ' := ⟨[(3, .ptr 3 0), (5, .ptr 5 0), (6, .bool v1), (7, .ptr 7 0), (9, .bool v7)], [(3, .box [.bool a2, .int .i64 a3, .int .i64 a4, .list (.rats a5), .list (.rats a6)]), (5, .box [.sl 1100 0, .sl 1101 0, .sl 1102 0]), (7, .box [.int .i64 v5, .int .i64 v6]), (1100, .arr 22 0 0 (.intss v2)), (1101, .arr 3 0 0 (.ints v3)), (1102, .arr 29 0 0 (.rats v4))]⟩) rfl ⟨((w_impl_WorstExcess a0 a1 a5 (v5, v6, v7, v8) hk2).swap 1000 1103), ((((w_impl_LeastLP a0 a1 (v1, v2, v3, v4) hk1).swap 1000 1100).swap 1001 1101).swap 1002 1102), trivial⟩ rfl ?_
  rcases bif_some h with ⟨hd3, h⟩ | ⟨hd3, h⟩
  · refine Tri.run 1 [.g true, .g true, .g true, .g true] [.keep [3, 5, 48] [3, 5, 1100, 1101, 1102]] (K' := [.code [(3, 0)] 1, .code [] 4]) (σ' := ⟨[(3, .ptr 3 0), (5, .ptr 5 0), (48, .bool true)], [(3, .box [.bool a2, .int .i64 a3, .int .i64 a4, .list (.rats a5), .list (.rats a6)]), (5, .box [.sl 1100 0, .sl 1101 0, .sl 1102 0]), (1100, .arr 22 0 0 (.intss v2)), (1101, .arr 3 0 0 (.ints v3)), (1102, .arr 29 0 0 (.rats v4))]⟩) rfl ⟨rfl, rfl, rfl, hd3, trivial⟩ rfl ?_
    refine Tri.run 2 [.g true] [.keep [4] []] (K' := [.code [(3, 0), (1, 0)] 1, .code [] 4]) (σ' := ⟨[(4, .bool false)], []⟩) rfl ⟨rfl, trivial⟩ rfl ?_
    have h := Option.some.inj h
    subst h
    exact Tri.ret rfl ⟨.inl rfl, rfl, rfl⟩
  · rcases bif_some h with ⟨hd4, h⟩ | ⟨hd4, h⟩
    · refine Tri.run 1 [.g false, .g true, .g true, .g true] [.keep [3, 5, 48] [3, 5, 1100, 1101, 1102]] (K' := [.code [(3, 0)] 1, .code [] 4]) (σ' := ⟨[(3, .ptr 3 0), (5, .ptr 5 0), (48, .bool true)], [(3, .box [.bool a2, .int .i64 a3, .int .i64 a4, .list (.rats a5), .list (.rats a6)]), (5, .box [.sl 1100 0, .sl 1101 0, .sl 1102 0]), (1100, .arr 22 0 0 (.intss v2)), (1101, .arr 3 0 0 (.ints v3)), (1102, .arr 29 0 0 (.rats v4))]⟩) rfl ⟨rfl, rfl, hd4, hd3, trivial⟩ rfl ?_
      refine Tri.run 2 [.g true] [.keep [4] []] (K' := [.code [(3, 0), (1, 0)] 1, .code [] 4]) (σ' := ⟨[(4, .bool false)], []⟩) rfl ⟨rfl, trivial⟩ rfl ?_
      have h := Option.some.inj h
      subst h
      exact Tri.ret rfl ⟨.inl rfl, rfl, rfl⟩
    · rcases bif_some h with ⟨hd5, h⟩ | ⟨hd5, h⟩
      · refine Tri.run 1 [.g false, .g false, .g true, .g true] [.keep [3, 5, 48] [3, 5, 1100, 1101, 1102]] (K' := [.code [(3, 0)] 1, .code [] 4]) (σ' := ⟨[(3, .ptr 3 0), (5, .ptr 5 0), (48, .bool true)], [(3, .box [.bool a2, .int .i64 a3, .int .i64 a4, .list (.rats a5), .list (.rats a6)]), (5, .box [.sl 1100 0, .sl 1101 0, .sl 1102 0]), (1100, .arr 22 0 0 (.intss v2)), (1101, .arr 3 0 0 (.ints v3)), (1102, .arr 29 0 0 (.rats v4))]⟩) rfl ⟨rfl, hd5, hd4, hd3, trivial⟩ rfl ?_
        refine Tri.run 2 [.g true] [.keep [4] []] (K' := [.code [(3, 0), (1, 0)] 1, .code [] 4]) (σ' := ⟨[(4, .bool false)], []⟩) rfl ⟨rfl, trivial⟩ rfl ?_
        have h := Option.some.inj h
        subst h
        exact Tri.ret rfl ⟨.inl rfl, rfl, rfl⟩
      · rcases bif_some h with ⟨hd6, h⟩ | ⟨hd6, h⟩
        · refine Tri.run 1 [.g false, .g false, .g false, .g true] [.keep [3, 5, 48] [3, 5, 1100, 1101, 1102]] (K' := [.code [(3, 0)] 1, .code [] 4]) (σ' := ⟨[(3, .ptr 3 0), (5, .ptr 5 0), (48, .bool true)], [(3, .box [.bool a2, .int .i64 a3, .int .i64 a4, .list (.rats a5), .list (.rats a6)]), (5, .box [.sl 1100 0, .sl 1101 0, .sl 1102 0]), (1100, .arr 22 0 0 (.intss v2)), (1101, .arr 3 0 0 (.ints v3)), (1102, .arr 29 0 0 (.rats v4))]⟩) rfl ⟨hd6, hd5, hd4, hd3, trivial⟩ rfl ?_
          refine Tri.run 2 [.g true] [.keep [4] []] (K' := [.code [(3, 0), (1, 0)] 1, .code [] 4]) (σ' := ⟨[(4, .bool false)], []⟩) rfl ⟨rfl, trivial⟩ rfl ?_
          have h := Option.some.inj h
          subst h
          exact Tri.ret rfl ⟨.inl rfl, rfl, rfl⟩
        · obtain ⟨v9, hk7, h⟩ := bind_some h
          refine Tri.run 1 [.g false, .g false, .g false, .g false, .r ⟨[], .bool v9, []⟩] [.keep [3, 5, 48] [3, 5, 1100, 1101, 1102]] (K' := [.code [(3, 0)] 1, .code [] 4]) (σ' := ⟨[(3, .ptr 3 0), (5, .ptr 5 0), (48, .bool (!v9))], [(3, .box [.bool a2, .int .i64 a3, .int .i64 a4, .list (.rats a5), .list (.rats a6)]), (5, .box [.sl 1100 0, .sl 1101 0, .sl 1102 0]), (1100, .arr 22 0 0 (.intss v2)), (1101, .arr 3 0 0 (.ints v3)), (1102, .arr 29 0 0 (.rats v4))]⟩) rfl ⟨(w_impl_IsFeasible v2 v3 v4 a6 v9 hk7), hd6, hd5, hd4, hd3, trivial⟩ rfl ?_
          rcases bif_some h with ⟨hd8, h⟩ | ⟨hd8, h⟩
          · refine Tri.run 2 [.g true] [.keep [4] []] (K' := [.code [(3, 0), (1, 0)] 1, .code [] 4]) (σ' := ⟨[(4, .bool false)], []⟩) rfl ⟨hd8, trivial⟩ rfl ?_
            have h := Option.some.inj h
            subst h
            exact Tri.ret rfl ⟨.inl rfl, rfl, rfl⟩
          · obtain ⟨⟨v10, v11, v12⟩, hk9, h⟩ := bind_some h
            refine Tri.run 2 [.g false, .r ⟨[], .tuple [.agg [.int .i64 v10, .int .i64 v11], .bool v12], []⟩] [.keep [3, 10, 11] [3, 10]] (K' := [.code [(5, 0)] 0, .code [] 6]) (σ' := ⟨[(3, .ptr 3 0), (10, .ptr 10 0), (11, .bool v12)], [(3, .box [.bool a2, .int .i64 a3, .int .i64 a4, .list (.rats a5), .list (.rats a6)]), (10, .box [.int .i64 v10, .int .i64 v11])]⟩) rfl ⟨(w_impl_DotRat v4 a6 (v10, v11, v12) hk9), hd8, trivial⟩ rfl ?_
            rcases bif_some h with ⟨hd10, h⟩ | ⟨hd10, h⟩
            · obtain ⟨⟨v13, v14⟩, hk11, h⟩ := bind_some h
              refine Tri.run 1 [.g true, .r ⟨[], .agg [.int .i64 v13, .int .i64 v14], []⟩] [.keep [4] []] (K' := [.code [] 6]) (σ' := ⟨[(4, .bool (v10 == v13 && v11 == v14))], []⟩) rfl ⟨(w_impl_minus a3 a4 (v13, v14) hk11), hd10, trivial⟩ rfl ?_
              have h := Option.some.inj h
              subst h
              exact Tri.ret rfl ⟨.inl rfl, rfl, rfl⟩
            · refine Tri.run 1 [.g false] [.keep [4] []] (K' := [.code [] 6]) (σ' := ⟨[(4, .bool false)], []⟩) rfl ⟨hd10, trivial⟩ rfl ?_
              have h := Option.some.inj h
              subst h
              exact Tri.ret rfl ⟨.inl rfl, rfl, rfl⟩
/-! laws.eqIntS -/
noncomputable def E49_laws_eqIntS : Env := ⟨Try.prog, tys, (Try.f49.body).getD .skip, 26, tysOk, mixedOk⟩
abbrev q_laws_eqIntS (r : Bool) (σ' : ASt) : Prop := resAV E49_laws_eqIntS.T σ' Try.f49.results.toList = some (.bool r) ∧ keepO σ'.ob (namesO []) = []
noncomputable def l_laws_eqIntS_0 (a0 : List Int) (a1 : List Int) (v1 : Int) : Option (Int ⊕ (Unit ⊕ Bool)) :=
bif decide (v1 < (a0.length : Int)) then
(grd ((0 : Int) ≤ v1 ∧ v1 < (a0.length : Int)) <|
grd ((0 : Int) ≤ v1 ∧ v1 < (a1.length : Int)) <|
bif (a0.getD v1.toNat 0) != (a1.getD v1.toNat 0) then
(some (.inr (.inr false)))
else
(some (.inl (IntKind.i64.wrap (v1 + (1 : Int))))))
else
(some (.inr (.inl ())))
noncomputable def m_laws_eqIntS (a0 : List Int) (a1 : List Int) : Option Bool :=
bif (a0.length : Int) != (a1.length : Int) then
(some false)
else
((iter (l_laws_eqIntS_0 a0 a1) (0 : Int)).bind fun
| (.inl _) => (
some true)
| (.inr r) => some r)
theorem w_laws_eqIntS (a0 : List Int) (a1 : List Int) (r : Bool) (h : m_laws_eqIntS a0 a1 = some r) : AM.Spec Try.prog 49 [.list (.ints a0), .list (.ints a1)] [] (.bool r) [] := by
  refine spec_of (E := E49_laws_eqIntS) Try.func49 rfl rfl rfl rfl ?_
  refine Tri.run 2 [] [.keep [0, 1, 10] []] (K' := [.code [(1, 0)] 1, .code [] 2]) (σ' := ⟨[(0, .list (.ints a0)), (1, .list (.ints a1)), (10, .bool ((a0.length : Int) != (a1.length : Int)))], []⟩) rfl trivial rfl ?_
  rcases bif_some h with ⟨hd1, h⟩ | ⟨hd1, h⟩
  · refine Tri.run 2 [.g true] [.keep [4] []] (K' := [.code [(1, 0), (1, 0)] 1, .code [] 2]) (σ' := ⟨[(4, .bool false)], []⟩) rfl ⟨hd1, trivial⟩ rfl ?_
    have h := Option.some.inj h
    subst h
    exact Tri.ret rfl ⟨.inl rfl, rfl, rfl⟩
  · refine Tri.run 2 [.g false] [.keep [0, 1, 5] []] (K' := [.code [(2, 0), (1, 0)] 0, .blk 0, .code [] 3]) (σ' := ⟨[(0, .list (.ints a0)), (1, .list (.ints a1)), (5, .int .i64 (0 : Int))], []⟩) rfl ⟨hd1, trivial⟩ rfl ?_
    obtain ⟨x1, hk6, h⟩ := bind_some h
    refine Tri.loop (K1 := [.code [(2, 0), (1, 0), (0, 0)] 0]) (K2 := [.blk 0, .code [] 3]) (fun v1 => ⟨[(0, .list (.ints a0)), (1, .list (.ints a1)), (5, .int .i64 v1)], []⟩) (fun x e σ' => match x with | (.inl _) => e = .exit 0 ∧ σ' = ⟨[], []⟩ | (.inr r) => e = .ret ∧ q_laws_eqIntS r σ') hk6 rfl rfl ?_ ?_
    · intro v1 x hs
      clear h
      have h := hs
      clear hs
      refine Tri.run 1 [] [.keep [0, 1, 5, 14] []] (K' := [.code [(2, 0), (1, 0), (0, 0), (0, 0)] 1, .code [(2, 0), (1, 0), (0, 0)] 1]) (σ' := ⟨[(0, .list (.ints a0)), (1, .list (.ints a1)), (5, .int .i64 v1), (14, .bool (decide (v1 < (a0.length : Int))))], []⟩) rfl trivial rfl ?_
      rcases bif_some h with ⟨hd2, h⟩ | ⟨hd2, h⟩
      · obtain ⟨hg3, h⟩ := grd_some h
        obtain ⟨hg4, h⟩ := grd_some h
        refine Tri.run 2 [.g true] [.keep [0, 1, 5, 25] []] (K' := [.code [(2, 0), (1, 0), (0, 0), (1, 0), (0, 0)] 1, .blk 1, .code [(2, 0), (1, 0), (0, 0)] 2]) (σ' := ⟨[(0, .list (.ints a0)), (1, .list (.ints a1)), (5, .int .i64 v1), (25, .bool ((a0.getD v1.toNat 0) != (a1.getD v1.toNat 0)))], []⟩) rfl ⟨hg4, hg3, hd2, trivial⟩ rfl ?_
        rcases bif_some h with ⟨hd5, h⟩ | ⟨hd5, h⟩
        · refine Tri.run 2 [.g true] [.keep [4] []] (K' := [.code [(2, 0), (1, 0), (0, 0), (1, 0), (0, 0), (1, 0)] 1, .blk 1, .code [(2, 0), (1, 0), (0, 0)] 2]) (σ' := ⟨[(4, .bool false)], []⟩) rfl ⟨hd5, trivial⟩ rfl ?_
          have h := Option.some.inj h
          subst h
          exact Tri.ret rfl ⟨nofun, rfl, rfl, rfl⟩
        · refine Tri.run 2 [.g false] [.keep [0, 1, 5] []] (K' := []) (σ' := ⟨[(0, .list (.ints a0)), (1, .list (.ints a1)), (5, .int .i64 (IntKind.i64.wrap (v1 + (1 : Int))))], []⟩) rfl ⟨hd5, trivial⟩ rfl ?_
          have h := Option.some.inj h
          subst h
          exact Tri.nil ⟨rfl, rfl⟩
      · refine Tri.run 1 [.g false] [.keep [] []] (K' := [.code [(2, 0), (1, 0), (0, 0), (0, 0), (1, 1)] 0, .code [(2, 0), (1, 0), (0, 0)] 1]) (σ' := ⟨[], []⟩) rfl ⟨hd2, trivial⟩ rfl ?_
        have h := Option.some.inj h
        subst h
        exact Tri.out 0 rfl ⟨nofun, rfl, rfl⟩
    · intro e σ' hne hq
      rcases x1 with _ | r
      · obtain ⟨rfl, rfl⟩ := hq
        refine TriX.exit (K' := [.code [] 3]) rfl ?_
        refine Tri.run 1 [] [.keep [4] []] (K' := [.code [] 4]) (σ' := ⟨[(4, .bool true)], []⟩) rfl trivial rfl ?_
        have h := Option.some.inj h
        subst h
        exact Tri.ret rfl ⟨.inl rfl, rfl, rfl⟩
      · obtain ⟨rfl, hq⟩ := hq
        have h := Option.some.inj h
        subst h
        exact TriX.ret ⟨.inl rfl, hq⟩
/-! laws.eqGame -/
noncomputable def E22_laws_eqGame : Env := ⟨Try.prog, tys, (Try.f22.body).getD .skip, 16, tysOk, mixedOk⟩
abbrev q_laws_eqGame (r : Bool) (σ' : ASt) : Prop := resAV E22_laws_eqGame.T σ' Try.f22.results.toList = some (.bool r) ∧ keepO σ'.ob (namesO []) = []
noncomputable def m_laws_eqGame (a0 : Int) (a1 : List Int) (a2 : Int) (a3 : List Int) : Option Bool :=
bif a0 != a2 then
(some false)
else
((m_laws_eqIntS a1 a3).bind fun v1 =>
bif !v1 then
(some false)
else
(some true))
theorem w_laws_eqGame (a0 : Int) (a1 : List Int) (a2 : Int) (a3 : List Int) (r : Bool) (h : m_laws_eqGame a0 a1 a2 a3 = some r) : AM.Spec Try.prog 22 [.agg [.int .i64 a0, .list (.ints a1)], .agg [.int .i64 a2, .list (.ints a3)]] [] (.bool r) [] := by
  refine spec_of (E := E22_laws_eqGame) Try.func22 rfl rfl rfl rfl ?_
  refine Tri.run 2 [] [.keep [2, 3, 9] [2, 3]] (K' := [.code [(1, 0)] 1, .code [] 2]) (σ' := ⟨[(2, .ptr 2 0), (3, .ptr 3 0), (9, .bool (a0 != a2))], [(2, .box [.int .i64 a0, .list (.ints a1)]), (3, .box [.int .i64 a2, .list (.ints a3)])]⟩) rfl trivial rfl ?_
  rcases bif_some h with ⟨hd1, h⟩ | ⟨hd1, h⟩
  · refine Tri.run 2 [.g true] [.keep [4] []] (K' := [.code [(1, 0), (1, 0)] 1, .code [] 2]) (σ' := ⟨[(4, .bool false)], []⟩) rfl ⟨hd1, trivial⟩ rfl ?_
    have h := Option.some.inj h
    subst h
    exact Tri.ret rfl ⟨.inl rfl, rfl, rfl⟩
  · obtain ⟨v1, hk2, h⟩ := bind_some h
    refine Tri.run 2 [.g false, .r ⟨[], .bool v1, []⟩] [.keep [15] []] (K' := [.code [(2, 0)] 1, .code [] 3]) (σ' := ⟨[(15, .bool (!v1))], []⟩) rfl ⟨(w_laws_eqIntS a1 a3 v1 hk2), hd1, trivial⟩ rfl ?_
    rcases bif_some h with ⟨hd3, h⟩ | ⟨hd3, h⟩
    · refine Tri.run 2 [.g true] [.keep [4] []] (K' := [.code [(2, 0), (1, 0)] 1, .code [] 3]) (σ' := ⟨[(4, .bool false)], []⟩) rfl ⟨hd3, trivial⟩ rfl ?_
      have h := Option.some.inj h
      subst h
      exact Tri.ret rfl ⟨.inl rfl, rfl, rfl⟩
    · refine Tri.run 2 [.g false] [.keep [4] []] (K' := [.code [] 4]) (σ' := ⟨[(4, .bool true)], []⟩) rfl ⟨hd3, trivial⟩ rfl ?_
      have h := Option.some.inj h
      subst h
      exact Tri.ret rfl ⟨.inl rfl, rfl, rfl⟩
/-! laws.eqRat -/
noncomputable def E21_laws_eqRat : Env := ⟨Try.prog, tys, (Try.f21.body).getD .skip, 15, tysOk, mixedOk⟩
abbrev q_laws_eqRat (r : Bool) (σ' : ASt) : Prop := resAV E21_laws_eqRat.T σ' Try.f21.results.toList = some (.bool r) ∧ keepO σ'.ob (namesO []) = []
noncomputable def m_laws_eqRat (a0 : Int) (a1 : Int) (a2 : Int) (a3 : Int) : Option Bool :=
bif a0 != a2 then
(some false)
else
(bif a1 != a3 then
(some false)
else
(some true))
theorem w_laws_eqRat (a0 : Int) (a1 : Int) (a2 : Int) (a3 : Int) (r : Bool) (h : m_laws_eqRat a0 a1 a2 a3 = some r) : AM.Spec Try.prog 21 [.agg [.int .i64 a0, .int .i64 a1], .agg [.int .i64 a2, .int .i64 a3]] [] (.bool r) [] := by
  refine spec_of (E := E21_laws_eqRat) Try.func21 rfl rfl rfl rfl ?_
  refine Tri.run 2 [] [.keep [2, 3, 9] [2, 3]] (K' := [.code [(1, 0)] 1, .code [] 2]) (σ' := ⟨[(2, .ptr 2 0), (3, .ptr 3 0), (9, .bool (a0 != a2))], [(2, .box [.int .i64 a0, .int .i64 a1]), (3, .box [.int .i64 a2, .int .i64 a3])]⟩) rfl trivial rfl ?_
  rcases bif_some h with ⟨hd1, h⟩ | ⟨hd1, h⟩
  · refine Tri.run 2 [.g true] [.keep [4] []] (K' := [.code [(1, 0), (1, 0)] 1, .code [] 2]) (σ' := ⟨[(4, .bool false)], []⟩) rfl ⟨hd1, trivial⟩ rfl ?_
    have h := Option.some.inj h
    subst h
    exact Tri.ret rfl ⟨.inl rfl, rfl, rfl⟩
  · refine Tri.run 2 [.g false] [.keep [14] []] (K' := [.code [(2, 0)] 1, .code [] 3]) (σ' := ⟨[(14, .bool (a1 != a3))], []⟩) rfl ⟨hd1, trivial⟩ rfl ?_
    rcases bif_some h with ⟨hd2, h⟩ | ⟨hd2, h⟩
    · refine Tri.run 2 [.g true] [.keep [4] []] (K' := [.code [(2, 0), (1, 0)] 1, .code [] 3]) (σ' := ⟨[(4, .bool false)], []⟩) rfl ⟨hd2, trivial⟩ rfl ?_
      have h := Option.some.inj h
      subst h
      exact Tri.ret rfl ⟨.inl rfl, rfl, rfl⟩
    · refine Tri.run 2 [.g false] [.keep [4] []] (K' := [.code [] 4]) (σ' := ⟨[(4, .bool true)], []⟩) rfl ⟨hd2, trivial⟩ rfl ?_
      have h := Option.some.inj h
      subst h
      exact Tri.ret rfl ⟨.inl rfl, rfl, rfl⟩
/-! laws.eqRatS -/
noncomputable def E23_laws_eqRatS : Env := ⟨Try.prog, tys, (Try.f23.body).getD .skip, 27, tysOk, mixedOk⟩
abbrev q_laws_eqRatS (r : Bool) (σ' : ASt) : Prop := resAV E23_laws_eqRatS.T σ' Try.f23.results.toList = some (.bool r) ∧ keepO σ'.ob (namesO []) = []
noncomputable def l_laws_eqRatS_0 (a0 : List Q) (a1 : List Q) (v1 : Int) : Option (Int ⊕ (Unit ⊕ Bool)) :=
bif decide (v1 < (a0.length : Int)) then
(grd ((0 : Int) ≤ v1 ∧ v1 < (a0.length : Int)) <|
grd ((0 : Int) ≤ v1 ∧ v1 < (a1.length : Int)) <|
(m_laws_eqRat ((a0.getD v1.toNat ⟨0, 0⟩).num) ((a0.getD v1.toNat ⟨0, 0⟩).den) ((a1.getD v1.toNat ⟨0, 0⟩).num) ((a1.getD v1.toNat ⟨0, 0⟩).den)).bind fun v2 =>
bif !v2 then
(some (.inr (.inr false)))
else
(some (.inl (IntKind.i64.wrap (v1 + (1 : Int))))))
else
(some (.inr (.inl ())))
noncomputable def m_laws_eqRatS (a0 : List Q) (a1 : List Q) : Option Bool :=
bif (a0.length : Int) != (a1.length : Int) then
(some false)
else
((iter (l_laws_eqRatS_0 a0 a1) (0 : Int)).bind fun
| (.inl _) => (
some true)
| (.inr r) => some r)
theorem w_laws_eqRatS (a0 : List Q) (a1 : List Q) (r : Bool) (h : m_laws_eqRatS a0 a1 = some r) : AM.Spec Try.prog 23 [.list (.rats a0), .list (.rats a1)] [] (.bool r) [] := by
  refine spec_of (E := E23_laws_eqRatS) Try.func23 rfl rfl rfl rfl ?_
  refine Tri.run 2 [] [.keep [0, 1, 10] []] (K' := [.code [(1, 0)] 1, .code [] 2]) (σ' := ⟨[(0, .list (.rats a0)), (1, .list (.rats a1)), (10, .bool ((a0.length : Int) != (a1.length : Int)))], []⟩) rfl trivial rfl ?_
  rcases bif_some h with ⟨hd1, h⟩ | ⟨hd1, h⟩
  · refine Tri.run 2 [.g true] [.keep [4] []] (K' := [.code [(1, 0), (1, 0)] 1, .code [] 2]) (σ' := ⟨[(4, .bool false)], []⟩) rfl ⟨hd1, trivial⟩ rfl ?_
    have h := Option.some.inj h
    subst h
    exact Tri.ret rfl ⟨.inl rfl, rfl, rfl⟩
  · refine Tri.run 2 [.g false] [.keep [0, 1, 5] []] (K' := [.code [(2, 0), (1, 0)] 0, .blk 0, .code [] 3]) (σ' := ⟨[(0, .list (.rats a0)), (1, .list (.rats a1)), (5, .int .i64 (0 : Int))], []⟩) rfl ⟨hd1, trivial⟩ rfl ?_
    obtain ⟨x1, hk7, h⟩ := bind_some h
    refine Tri.loop (K1 := [.code [(2, 0), (1, 0), (0, 0)] 0]) (K2 := [.blk 0, .code [] 3]) (fun v1 => ⟨[(0, .list (.rats a0)), (1, .list (.rats a1)), (5, .int .i64 v1)], []⟩) (fun x e σ' => match x with | (.inl _) => e = .exit 0 ∧ σ' = ⟨[], []⟩ | (.inr r) => e = .ret ∧ q_laws_eqRatS r σ') hk7 rfl rfl ?_ ?_
    · intro v1 x hs
      clear h
      have h := hs
      clear hs
      refine Tri.run 1 [] [.keep [0, 1, 5, 14] []] (K' := [.code [(2, 0), (1, 0), (0, 0), (0, 0)] 1, .code [(2, 0), (1, 0), (0, 0)] 1]) (σ' := ⟨[(0, .list (.rats a0)), (1, .list (.rats a1)), (5, .int .i64 v1), (14, .bool (decide (v1 < (a0.length : Int))))], []⟩) rfl trivial rfl ?_
      rcases bif_some h with ⟨hd2, h⟩ | ⟨hd2, h⟩
      · obtain ⟨hg3, h⟩ := grd_some h
        obtain ⟨hg4, h⟩ := grd_some h
        obtain ⟨v2, hk5, h⟩ := bind_some h
        refine Tri.run 2 [.g true, .r ⟨[], .bool v2, []⟩] [.keep [0, 1, 5, 26] []] (K' := [.code [(2, 0), (1, 0), (0, 0), (1, 0), (0, 0)] 1, .blk 1, .code [(2, 0), (1, 0), (0, 0)] 2]) (σ' := ⟨[(0, .list (.rats a0)), (1, .list (.rats a1)), (5, .int .i64 v1), (26, .bool (!v2))], []⟩) rfl ⟨(w_laws_eqRat ((a0.getD v1.toNat ⟨0, 0⟩).num) ((a0.getD v1.toNat ⟨0, 0⟩).den) ((a1.getD v1.toNat ⟨0, 0⟩).num) ((a1.getD v1.toNat ⟨0, 0⟩).den) v2 hk5), hg4, hg3, hd2, trivial⟩ rfl ?_
        rcases bif_some h with ⟨hd6, h⟩ | ⟨hd6, h⟩
        · refine Tri.run 2 [.g true] [.keep [4] []] (K' := [.code [(2, 0), (1, 0), (0, 0), (1, 0), (0, 0), (1, 0)] 1, .blk 1, .code [(2, 0), (1, 0), (0, 0)] 2]) (σ' := ⟨[(4, .bool false)], []⟩) rfl ⟨hd6, trivial⟩ rfl ?_
          have h := Option.some.inj h
          subst h
          exact Tri.ret rfl ⟨nofun, rfl, rfl, rfl⟩
        · refine Tri.run 2 [.g false] [.keep [0, 1, 5] []] (K' := []) (σ' := ⟨[(0, .list (.rats a0)), (1, .list (.rats a1)), (5, .int .i64 (IntKind.i64.wrap (v1 + (1 : Int))))], []⟩) rfl ⟨hd6, trivial⟩ rfl ?_
          have h := Option.some.inj h
          subst h
          exact Tri.nil ⟨rfl, rfl⟩
      · refine Tri.run 1 [.g false] [.keep [] []] (K' := [.code [(2, 0), (1, 0), (0, 0), (0, 0), (1, 1)] 0, .code [(2, 0), (1, 0), (0, 0)] 1]) (σ' := ⟨[], []⟩) rfl ⟨hd2, trivial⟩ rfl ?_
        have h := Option.some.inj h
        subst h
        exact Tri.out 0 rfl ⟨nofun, rfl, rfl⟩
    · intro e σ' hne hq
      rcases x1 with _ | r
      · obtain ⟨rfl, rfl⟩ := hq
        refine TriX.exit (K' := [.code [] 3]) rfl ?_
        refine Tri.run 1 [] [.keep [4] []] (K' := [.code [] 4]) (σ' := ⟨[(4, .bool true)], []⟩) rfl trivial rfl ?_
        have h := Option.some.inj h
        subst h
        exact Tri.ret rfl ⟨.inl rfl, rfl, rfl⟩
      · obtain ⟨rfl, hq⟩ := hq
        have h := Option.some.inj h
        subst h
        exact TriX.ret ⟨.inl rfl, hq⟩
/-! laws.eqLeastResult -/
noncomputable def E61_laws_eqLeastResult : Env := ⟨Try.prog, tys, (Try.f61.body).getD .skip, 28, tysOk, mixedOk⟩
abbrev q_laws_eqLeastResult (r : Bool) (σ' : ASt) : Prop := resAV E61_laws_eqLeastResult.T σ' Try.f61.results.toList = some (.bool r) ∧ keepO σ'.ob (namesO []) = []
noncomputable def m_laws_eqLeastResult (a0 : Bool) (a1 : Int) (a2 : Int) (a3 : List Q) (a4 : List Q) (a5 : Bool) (a6 : Int) (a7 : Int) (a8 : List Q) (a9 : List Q) : Option Bool :=
bif a0 != a5 then
(some false)
else
((m_laws_eqRat a1 a2 a6 a7).bind fun v1 =>
bif !v1 then
(some false)
else
((m_laws_eqRatS a3 a8).bind fun v2 =>
bif !v2 then
(some false)
else
((m_laws_eqRatS a4 a9).bind fun v3 =>
bif !v3 then
(some false)
else
(some true))))
theorem w_laws_eqLeastResult (a0 : Bool) (a1 : Int) (a2 : Int) (a3 : List Q) (a4 : List Q) (a5 : Bool) (a6 : Int) (a7 : Int) (a8 : List Q) (a9 : List Q) (r : Bool) (h : m_laws_eqLeastResult a0 a1 a2 a3 a4 a5 a6 a7 a8 a9 = some r) : AM.Spec Try.prog 61 [.agg [.bool a0, .int .i64 a1, .int .i64 a2, .list (.rats a3), .list (.rats a4)], .agg [.bool a5, .int .i64 a6, .int .i64 a7, .list (.rats a8), .list (.rats a9)]] [] (.bool r) [] := by
  refine spec_of (E := E61_laws_eqLeastResult) Try.func61 rfl rfl rfl rfl ?_
  refine Tri.run 2 [] [.keep [2, 3, 9] [2, 3]] (K' := [.code [(1, 0)] 1, .code [] 2]) (σ' := ⟨[(2, .ptr 2 0), (3, .ptr 3 0), (9, .bool (a0 != a5))], [(2, .box [.bool a0, .int .i64 a1, .int .i64 a2, .list (.rats a3), .list (.rats a4)]), (3, .box [.bool a5, .int .i64 a6, .int .i64 a7, .list (.rats a8), .list (.rats a9)])]⟩) rfl trivial rfl ?_
  rcases bif_some h with ⟨hd1, h⟩ | ⟨hd1, h⟩
  · refine Tri.run 2 [.g true] [.keep [4] []] (K' := [.code [(1, 0), (1, 0)] 1, .code [] 2]) (σ' := ⟨[(4, .bool false)], []⟩) rfl ⟨hd1, trivial⟩ rfl ?_
    have h := Option.some.inj h
    subst h
    exact Tri.ret rfl ⟨.inl rfl, rfl, rfl⟩
  · obtain ⟨v1, hk2, h⟩ := bind_some h
    refine Tri.run 2 [.g false, .r ⟨[], .bool v1, []⟩] [.keep [2, 3, 15] [2, 3]] (K' := [.code [(2, 0)] 1, .code [] 3]) (σ' := ⟨[(2, .ptr 2 0), (3, .ptr 3 0), (15, .bool (!v1))], [(2, .box [.bool a0, .int .i64 a1, .int .i64 a2, .list (.rats a3), .list (.rats a4)]), (3, .box [.bool a5, .int .i64 a6, .int .i64 a7, .list (.rats a8), .list (.rats a9)])]⟩) rfl ⟨(w_laws_eqRat a1 a2 a6 a7 v1 hk2), hd1, trivial⟩ rfl ?_
    rcases bif_some h with ⟨hd3, h⟩ | ⟨hd3, h⟩
    · refine Tri.run 2 [.g true] [.keep [4] []] (K' := [.code [(2, 0), (1, 0)] 1, .code [] 3]) (σ' := ⟨[(4, .bool false)], []⟩) rfl ⟨hd3, trivial⟩ rfl ?_
      have h := Option.some.inj h
      subst h
      exact Tri.ret rfl ⟨.inl rfl, rfl, rfl⟩
    · obtain ⟨v2, hk4, h⟩ := bind_some h
      refine Tri.run 2 [.g false, .r ⟨[], .bool v2, []⟩] [.keep [2, 3, 21] [2, 3]] (K' := [.code [(3, 0)] 1, .code [] 4]) (σ' := ⟨[(2, .ptr 2 0), (3, .ptr 3 0), (21, .bool (!v2))], [(2, .box [.bool a0, .int .i64 a1, .int .i64 a2, .list (.rats a3), .list (.rats a4)]), (3, .box [.bool a5, .int .i64 a6, .int .i64 a7, .list (.rats a8), .list (.rats a9)])]⟩) rfl ⟨(w_laws_eqRatS a3 a8 v2 hk4), hd3, trivial⟩ rfl ?_
      rcases bif_some h with ⟨hd5, h⟩ | ⟨hd5, h⟩
      · refine Tri.run 2 [.g true] [.keep [4] []] (K' := [.code [(3, 0), (1, 0)] 1, .code [] 4]) (σ' := ⟨[(4, .bool false)], []⟩) rfl ⟨hd5, trivial⟩ rfl ?_
        have h := Option.some.inj h
        subst h
        exact Tri.ret rfl ⟨.inl rfl, rfl, rfl⟩
      · obtain ⟨v3, hk6, h⟩ := bind_some h
        refine Tri.run 2 [.g false, .r ⟨[], .bool v3, []⟩] [.keep [27] []] (K' := [.code [(4, 0)] 1, .code [] 5]) (σ' := ⟨[(27, .bool (!v3))], []⟩) rfl ⟨(w_laws_eqRatS a4 a9 v3 hk6), hd5, trivial⟩ rfl ?_
        rcases bif_some h with ⟨hd7, h⟩ | ⟨hd7, h⟩
        · refine Tri.run 2 [.g true] [.keep [4] []] (K' := [.code [(4, 0), (1, 0)] 1, .code [] 5]) (σ' := ⟨[(4, .bool false)], []⟩) rfl ⟨hd7, trivial⟩ rfl ?_
          have h := Option.some.inj h
          subst h
          exact Tri.ret rfl ⟨.inl rfl, rfl, rfl⟩
        · refine Tri.run 2 [.g false] [.keep [4] []] (K' := [.code [] 6]) (σ' := ⟨[(4, .bool true)], []⟩) rfl ⟨hd7, trivial⟩ rfl ?_
          have h := Option.some.inj h
          subst h
          exact Tri.ret rfl ⟨.inl rfl, rfl, rfl⟩
/-! laws.FnExactCheckLeastCore -/
noncomputable def E13_laws_FnExactCheckLeastCore : Env := ⟨Try.prog, tys, (Try.f13.body).getD .skip, 45, tysOk, mixedOk⟩
abbrev q_laws_FnExactCheckLeastCore (r : Bool) (σ' : ASt) : Prop := resAV E13_laws_FnExactCheckLeastCore.T σ' Try.f13.results.toList = some (.bool r) ∧ keepO σ'.ob (namesO []) = []
noncomputable def m_laws_FnExactCheckLeastCore (a0 : Int) (a1 : List Int) (a2 : Bool) (a3 : Int) (a4 : Int) (a5 : List Q) (a6 : List Q) : Option Bool :=
(m_laws_szGame a0 a1 (1048576 : Int)).bind fun v1 =>
bif decide (v1 < (0 : Int)) then
(some true)
else
((m_laws_szLeastResult a2 a3 a4 a5 a6 v1).bind fun v2 =>
bif decide (v2 < (0 : Int)) then
(some true)
else
((m_laws_toGame a0 a1).bind fun (v3, v4) =>
(m_laws_toLeastResult a2 a3 a4 a5 a6).bind fun (v5, v6, v7, v8, v9) =>
(m_spec_CheckLeastCore v3 v4 v5 v6 v7 v8 v9).bind fun v10 =>
(m_laws_toGame a0 a1).bind fun (v11, v12) =>
(m_laws_toLeastResult a2 a3 a4 a5 a6).bind fun (v13, v14, v15, v16, v17) =>
(m_impl_CheckLeastCore v11 v12 v13 v14 v15 v16 v17).bind fun v18 =>
bif v18 != v10 then
(some false)
else
((m_laws_toGame a0 a1).bind fun (v19, v20) =>
(m_laws_eqGame v11 v12 v19 v20).bind fun v21 =>
bif !v21 then
(some false)
else
((m_laws_toLeastResult a2 a3 a4 a5 a6).bind fun (v22, v23, v24, v25, v26) =>
(m_laws_eqLeastResult v13 v14 v15 v16 v17 v22 v23 v24 v25 v26).bind fun v27 =>
bif !v27 then
(some false)
else
(some true)))))
theorem w_laws_FnExactCheckLeastCore (a0 : Int) (a1 : List Int) (a2 : Bool) (a3 : Int) (a4 : Int) (a5 : List Q) (a6 : List Q) (r : Bool) (h : m_laws_FnExactCheckLeastCore a0 a1 a2 a3 a4 a5 a6 = some r) : AM.Spec Try.prog 13 [.agg [.int .i64 a0, .list (.ints a1)], .agg [.bool a2, .int .i64 a3, .int .i64 a4, .list (.rats a5), .list (.rats a6)]] [] (.bool r) [] := by
  refine spec_of (E := E13_laws_FnExactCheckLeastCore) Try.func13 rfl rfl rfl rfl ?_
  refine Tri.run 2 [] [.keep [2, 3, 5] [2, 3]] (K' := [.code [(2, 0)] 0, .code [] 3]) (σ' := ⟨[(2, .ptr 2 0), (3, .ptr 3 0), (5, .int .i64 (1048576 : Int))], [(2, .box [.int .i64 a0, .list (.ints a1)]), (3, .box [.bool a2, .int .i64 a3, .int .i64 a4, .list (.rats a5), .list (.rats a6)])]⟩) rfl trivial rfl ?_
  obtain ⟨v1, hk1, h⟩ := bind_some h
  refine Tri.run 2 [.r ⟨[], .int .i64 v1, []⟩] [.keep [2, 3, 5, 14] [2, 3]] (K' := [.code [(3, 0)] 1, .code [] 4]) (σ' := ⟨[(2, .ptr 2 0), (3, .ptr 3 0), (5, .int .i64 v1), (14, .bool (decide (v1 < (0 : Int))))], [(2, .box [.int .i64 a0, .list (.ints a1)]), (3, .box [.bool a2, .int .i64 a3, .int .i64 a4, .list (.rats a5), .list (.rats a6)])]⟩) rfl ⟨(w_laws_szGame a0 a1 (1048576 : Int) v1 hk1), trivial⟩ rfl ?_
  rcases bif_some h with ⟨hd2, h⟩ | ⟨hd2, h⟩
  · refine Tri.run 2 [.g true] [.keep [4] []] (K' := [.code [(3, 0), (1, 0)] 1, .code [] 4]) (σ' := ⟨[(4, .bool true)], []⟩) rfl ⟨hd2, trivial⟩ rfl ?_
    have h := Option.some.inj h
    subst h
    exact Tri.ret rfl ⟨.inl rfl, rfl, rfl⟩
  · obtain ⟨v2, hk3, h⟩ := bind_some h
    refine Tri.run 3 [.g false, .r ⟨[], .int .i64 v2, []⟩] [.keep [2, 3, 19] [2, 3]] (K' := [.code [(5, 0)] 1, .code [] 6]) (σ' := ⟨[(2, .ptr 2 0), (3, .ptr 3 0), (19, .bool (decide (v2 < (0 : Int))))], [(2, .box [.int .i64 a0, .list (.ints a1)]), (3, .box [.bool a2, .int .i64 a3, .int .i64 a4, .list (.rats a5), .list (.rats a6)])]⟩) rfl ⟨(w_laws_szLeastResult a2 a3 a4 a5 a6 v1 v2 hk3), hd2, trivial⟩ rfl ?_
    rcases bif_some h with ⟨hd4, h⟩ | ⟨hd4, h⟩
    · refine Tri.run 2 [.g true] [.keep [4] []] (K' := [.code [(5, 0), (1, 0)] 1, .code [] 6]) (σ' := ⟨[(4, .bool true)], []⟩) rfl ⟨hd4, trivial⟩ rfl ?_
      have h := Option.some.inj h
      subst h
      exact Tri.ret rfl ⟨.inl rfl, rfl, rfl⟩
    · obtain ⟨⟨v3, v4⟩, hk5, h⟩ := bind_some h
      obtain ⟨⟨v5, v6, v7, v8, v9⟩, hk6, h⟩ := bind_some h
      obtain ⟨v10, hk7, h⟩ := bind_some h
      refine Tri.run 2 [.g false, .r ⟨[], .agg [.int .i64 v3, .sl 1100 0], [(1100, .arr 3 0 0 (.ints v4))]⟩, .r ⟨[], .agg [.bool v5, .int .i64 v6, .int .i64 v7, .sl 1101 0, .sl 1102 0], [(1101, .arr 29 0 0 (.rats v8)), (1102, .arr 29 0 0 (.rats v9))]⟩, .r ⟨[], .bool v10, []⟩] [.keep [2, 3, 6] [2, 3]] (K' := [.code [(7, 0)] 0, .code [] 8]) (σ' := ⟨[(2, .ptr 2 0), (3, .ptr 3 0), (6, .bool v10)], [(2, .box [.int .i64 a0, .list (.ints a1)]), (3, .box [.bool a2, .int .i64 a3, .int .i64 a4, .list (.rats a5), .list (.rats a6)])]⟩) rfl ⟨(w_spec_CheckLeastCore v3 v4 v5 v6 v7 v8 v9 v10 hk7), (((w_laws_toLeastResult a2 a3 a4 a5 a6 (v5, v6, v7, v8, v9) hk6).swap 1000 1101).swap 1001 1102), ((w_laws_toGame a0 a1 (v3, v4) hk5).swap 1000 1100), hd4, trivial⟩ rfl ?_
      obtain ⟨⟨v11, v12⟩, hk8, h⟩ := bind_some h
      obtain ⟨⟨v13, v14, v15, v16, v17⟩, hk9, h⟩ := bind_some h
      refine Tri.run 2 [.r ⟨[], .agg [.int .i64 v11, .sl 1103 0], [(1103, .arr 3 0 0 (.ints v12))]⟩, .r ⟨[], .agg [.bool v13, .int .i64 v14, .int .i64 v15, .sl 1104 0, .sl 1105 0], [(1104, .arr 29 0 0 (.rats v16)), (1105, .arr 29 0 0 (.rats v17))]⟩] [.keep [2, 3, 6, 7, 8] [2, 3, 7, 8, 1103, 1104, 1105]] (K' := [.code [(9, 0)] 0, .code [] 10]) (σ' := ⟨[(2, .ptr 2 0), (3, .ptr 3 0), (6, .bool v10), (7, .ptr 7 0), (8, .ptr 8 0)], [(2, .box [.int .i64 a0, .list (.ints a1)]), (3, .box [.bool a2, .int .i64 a3, .int .i64 a4, .list (.rats a5), .list (.rats a6)]), (7, .box [.int .i64 v11, .sl 1103 0]), (8, .box [.bool v13, .int .i64 v14, .int .i64 v15, .sl 1104 0, .sl 1105 0]), (1103, .arr 3 0 0 (.ints v12)), (1104, .arr 29 0 0 (.rats v16)), (1105, .arr 29 0 0 (.rats v17))]⟩) rfl ⟨(((w_laws_toLeastResult a2 a3 a4 a5 a6 (v13, v14, v15, v16, v17) hk9).swap 1000 1104).swap 1001 1105), ((w_laws_toGame a0 a1 (v11, v12) hk8).swap 1000 1103), trivial⟩ rfl ?_
      obtain ⟨v18, hk10, h⟩ := bind_some h
      refine Tri.run 2 [.r ⟨[], .bool v18, []⟩] [.keep [2, 3, 7, 8, 34] [2, 3, 7, 8, 1103, 1104, 1105]] (K' := [.code [(10, 0)] 1, .code [] 11]) (σ' := ⟨[(2, .ptr 2 0), (3, .ptr 3 0), (7, .ptr 7 0), (8, .ptr 8 0), (34, .bool (v18 != v10))], [(2, .box [.int .i64 a0, .list (.ints a1)]), (3, .box [.bool a2, .int .i64 a3, .int .i64 a4, .list (.rats a5), .list (.rats a6)]), (7, .box [.int .i64 v11, .sl 1103 0]), (8, .box [.bool v13, .int .i64 v14, .int .i64 v15, .sl 1104 0, .sl 1105 0]), (1103, .arr 3 0 0 (.ints v12)), (1104, .arr 29 0 0 (.rats v16)), (1105, .arr 29 0 0 (.rats v17))]⟩) rfl ⟨(w_impl_CheckLeastCore v11 v12 v13 v14 v15 v16 v17 v18 hk10), trivial⟩ rfl ?_
      rcases bif_some h with ⟨hd11, h⟩ | ⟨hd11, h⟩
      · refine Tri.run 2 [.g true] [.keep [4] []] (K' := [.code [(10, 0), (1, 0)] 1, .code [] 11]) (σ' := ⟨[(4, .bool false)], []⟩) rfl ⟨hd11, trivial⟩ rfl ?_
        have h := Option.some.inj h
        subst h
        exact Tri.ret rfl ⟨.inl rfl, rfl, rfl⟩
      · obtain ⟨⟨v19, v20⟩, hk12, h⟩ := bind_some h
        obtain ⟨v21, hk13, h⟩ := bind_some h
        refine Tri.run 2 [.g false, .r ⟨[], .agg [.int .i64 v19, .sl 1106 0], [(1106, .arr 3 0 0 (.ints v20))]⟩, .r ⟨[], .bool v21, []⟩] [.keep [3, 8, 39] [3, 8, 1104, 1105]] (K' := [.code [(11, 0)] 1, .code [] 12]) (σ' := ⟨[(3, .ptr 3 0), (8, .ptr 8 0), (39, .bool (!v21))], [(3, .box [.bool a2, .int .i64 a3, .int .i64 a4, .list (.rats a5), .list (.rats a6)]), (8, .box [.bool v13, .int .i64 v14, .int .i64 v15, .sl 1104 0, .sl 1105 0]), (1104, .arr 29 0 0 (.rats v16)), (1105, .arr 29 0 0 (.rats v17))]⟩) rfl ⟨(w_laws_eqGame v11 v12 v19 v20 v21 hk13), ((w_laws_toGame a0 a1 (v19, v20) hk12).swap 1000 1106), hd11, trivial⟩ rfl ?_
        rcases bif_some h with ⟨hd14, h⟩ | ⟨hd14, h⟩
        · refine Tri.run 2 [.g true] [.keep [4] []] (K' := [.code [(11, 0), (1, 0)] 1, .code [] 12]) (σ' := ⟨[(4, .bool false)], []⟩) rfl ⟨hd14, trivial⟩ rfl ?_
          have h := Option.some.inj h
          subst h
          exact Tri.ret rfl ⟨.inl rfl, rfl, rfl⟩
        · obtain ⟨⟨v22, v23, v24, v25, v26⟩, hk15, h⟩ := bind_some h
          obtain ⟨v27, hk16, h⟩ := bind_some h
          refine Tri.run 2 [.g false, .r ⟨[], .agg [.bool v22, .int .i64 v23, .int .i64 v24, .sl 1107 0, .sl 1108 0], [(1107, .arr 29 0 0 (.rats v25)), (1108, .arr 29 0 0 (.rats v26))]⟩, .r ⟨[], .bool v27, []⟩] [.keep [44] []] (K' := [.code [(12, 0)] 1, .code [] 13]) (σ' := ⟨[(44, .bool (!v27))], []⟩) rfl ⟨(w_laws_eqLeastResult v13 v14 v15 v16 v17 v22 v23 v24 v25 v26 v27 hk16), (((w_laws_toLeastResult a2 a3 a4 a5 a6 (v22, v23, v24, v25, v26) hk15).swap 1000 1107).swap 1001 1108), hd14, trivial⟩ rfl ?_
          rcases bif_some h with ⟨hd17, h⟩ | ⟨hd17, h⟩
          · refine Tri.run 2 [.g true] [.keep [4] []] (K' := [.code [(12, 0), (1, 0)] 1, .code [] 13]) (σ' := ⟨[(4, .bool false)], []⟩) rfl ⟨hd17, trivial⟩ rfl ?_
            have h := Option.some.inj h
            subst h
            exact Tri.ret rfl ⟨.inl rfl, rfl, rfl⟩
          · refine Tri.run 2 [.g false] [.keep [4] []] (K' := [.code [] 14]) (σ' := ⟨[(4, .bool true)], []⟩) rfl ⟨hd17, trivial⟩ rfl ?_
            have h := Option.some.inj h
            subst h
            exact Tri.ret rfl ⟨.inl rfl, rfl, rfl⟩
end Go.Proofs.Ytoefgmmmcpikfaa
