/- models and walks -/
import Derived.Test.YtoefgmmmcpikfaaGECheckCore
namespace Go.Proofs.Ytoefgmmmcpikfaa
open Go.AM
set_option maxRecDepth 100000
set_option maxHeartbeats 4000000
/-! impl.members -/
noncomputable def E106_impl_members : Env := ⟨Try.prog, tys, (Try.f106.body).getD .skip, 37, tysOk, mixedOk⟩
abbrev q_impl_members (r : List (List Int)) (σ' : ASt) : Prop := resAV E106_impl_members.T σ' Try.f106.results.toList = some (.sl 1000 0) ∧ keepO σ'.ob (namesO [(1000, .arr 22 0 0 (.intss r))]) = [(1000, .arr 22 0 0 (.intss r))]
noncomputable def l_impl_members_1 (a1 : List Int) (v1 : Int) : (Int × (List Int)) → Option ((Int × (List Int)) ⊕ ((List Int)))
  | (v3, v4) => (
bif decide (v3 < (a1.length : Int)) then
(grd ((0 : Int) ≤ v3 ∧ v3 < (a1.length : Int)) <|
(m_impl_HasPlayer (a1.getD v3.toNat 0) v1).bind fun v5 =>
bif v5 then
(grd (v4.length + ([(1 : Int)] : List Int).length ≤ room) <|
some (.inl (IntKind.i64.wrap (v3 + (1 : Int)), v4 ++ [(1 : Int)])))
else
(grd (v4.length + ([(0 : Int)] : List Int).length ≤ room) <|
some (.inl (IntKind.i64.wrap (v3 + (1 : Int)), v4 ++ [(0 : Int)]))))
else
(some (.inr v4)))
noncomputable def l_impl_members_0 (a0 : Int) (a1 : List Int) : (Int × (List (List Int))) → Option ((Int × (List (List Int))) ⊕ ((List (List Int))))
  | (v1, v2) => (
bif decide (v1 < a0) then
((iter (l_impl_members_1 a1 v1) ((0 : Int), [])).bind fun
| v6 => (
grd (v2.length + ([v6] : List (List Int)).length ≤ room) <|
some (.inl (IntKind.i64.wrap (v1 + (1 : Int)), v2 ++ [v6]))))
else
(some (.inr v2)))
noncomputable def m_impl_members (a0 : Int) (a1 : List Int) : Option (List (List Int)) :=
(iter (l_impl_members_0 a0 a1) ((0 : Int), [])).bind fun
| v7 => (
some v7)
theorem w_impl_members (a0 : Int) (a1 : List Int) (r : List (List Int)) (h : m_impl_members a0 a1 = some r) : AM.Spec Try.prog 106 [.int .i64 a0, .list (.ints a1)] [] (.sl 1000 0) [(1000, .arr 22 0 0 (.intss r))] := by
  refine spec_of (E := E106_impl_members) Try.func106 rfl rfl rfl rfl ?_
  refine Tri.run 3 [] [.keep [1, 5, 12, 13] [11]] (K' := [.code [(2, 0), (1, 0)] 0, .blk 0, .code [] 3]) (σ' := ⟨[(1, .list (.ints a1)), (5, .sl 11 0), (12, .int .i64 a0), (13, .int .i64 (0 : Int))], [(11, .arr 22 0 0 (.intss []))]⟩) rfl trivial rfl ?_
  obtain ⟨v7, hk10, h⟩ := bind_some h
  refine Tri.loop (K1 := [.code [(2, 0), (1, 0), (0, 0)] 0]) (K2 := [.blk 0, .code [] 3]) (fun (v1, v2) => ⟨[(1, .list (.ints a1)), (5, .sl 11 0), (12, .int .i64 a0), (13, .int .i64 v1)], [(11, .arr 22 0 0 (.intss v2))]⟩) (fun x e σ' => match x with | v7 => e = .exit 0 ∧ σ' = ⟨[(5, .sl 11 0)], [(11, .arr 22 0 0 (.intss v7))]⟩) hk10 rfl rfl ?_ ?_
  · intro s x hs
    clear h
    have h := hs
    clear hs
    obtain ⟨v1, v2⟩ := s
    refine Tri.run 1 [] [.keep [1, 5, 12, 13, 14] [11]] (K' := [.code [(2, 0), (1, 0), (0, 0), (1, 0)] 0, .code [(2, 0), (1, 0), (0, 0)] 2]) (σ' := ⟨[(1, .list (.ints a1)), (5, .sl 11 0), (12, .int .i64 a0), (13, .int .i64 v1), (14, .bool (decide (v1 < a0)))], [(11, .arr 22 0 0 (.intss v2))]⟩) rfl trivial rfl ?_
    rcases bif_some h with ⟨hd1, h⟩ | ⟨hd1, h⟩
    · refine Tri.run 3 [.g true] [.keep [1, 5, 6, 7, 12, 13] [11, 16]] (K' := [.code [(2, 0), (1, 0), (0, 0), (2, 0), (0, 0), (2, 0), (0, 0)] 0, .code [(2, 0), (1, 0), (0, 0), (2, 0), (0, 0), (2, 0)] 1, .code [(2, 0), (1, 0), (0, 0), (2, 0), (0, 0)] 3, .blk 1, .code [(2, 0), (1, 0), (0, 0)] 3]) (σ' := ⟨[(1, .list (.ints a1)), (5, .sl 11 0), (6, .int .i64 v1), (7, .sl 16 0), (12, .int .i64 a0), (13, .int .i64 v1)], [(11, .arr 22 0 0 (.intss v2)), (16, .arr 3 0 0 (.ints []))]⟩) rfl ⟨hd1, trivial⟩ rfl ?_
      refine Tri.run 1 [] [.keep [1, 5, 6, 7, 12, 13, 17, 18, 19] [11, 16]] (K' := [.code [(2, 0), (1, 0), (0, 0), (2, 0), (0, 0), (2, 0), (1, 0)] 0, .blk 2, .code [(2, 0), (1, 0), (0, 0), (2, 0), (0, 0)] 3, .blk 1, .code [(2, 0), (1, 0), (0, 0)] 3]) (σ' := ⟨[(1, .list (.ints a1)), (5, .sl 11 0), (6, .int .i64 v1), (7, .sl 16 0), (12, .int .i64 a0), (13, .int .i64 v1), (17, .list (.ints a1)), (18, .int .i64 (a1.length : Int)), (19, .int .i64 (0 : Int))], [(11, .arr 22 0 0 (.intss v2)), (16, .arr 3 0 0 (.ints []))]⟩) rfl trivial rfl ?_
      obtain ⟨v6, hk8, h⟩ := bind_some h
      refine Tri.loop (K1 := [.code [(2, 0), (1, 0), (0, 0), (2, 0), (0, 0), (2, 0), (1, 0), (0, 0)] 0]) (K2 := [.blk 2, .code [(2, 0), (1, 0), (0, 0), (2, 0), (0, 0)] 3, .blk 1, .code [(2, 0), (1, 0), (0, 0)] 3]) (fun (v3, v4) => ⟨[(1, .list (.ints a1)), (5, .sl 11 0), (6, .int .i64 v1), (7, .sl 16 0), (12, .int .i64 a0), (13, .int .i64 v1), (17, .list (.ints a1)), (18, .int .i64 (a1.length : Int)), (19, .int .i64 v3)], [(11, .arr 22 0 0 (.intss v2)), (16, .arr 3 0 0 (.ints v4))]⟩) (fun x e σ' => match x with | v6 => e = .exit 2 ∧ σ' = ⟨[(1, .list (.ints a1)), (5, .sl 11 0), (7, .sl 16 0), (12, .int .i64 a0), (13, .int .i64 v1)], [(11, .arr 22 0 0 (.intss v2)), (16, .arr 3 0 0 (.ints v6))]⟩) hk8 rfl rfl ?_ ?_
      · intro s x hs
        clear h
        have h := hs
        clear hs
        obtain ⟨v3, v4⟩ := s
        refine Tri.run 1 [] [.keep [1, 5, 6, 7, 12, 13, 17, 18, 19, 20] [11, 16]] (K' := [.code [(2, 0), (1, 0), (0, 0), (2, 0), (0, 0), (2, 0), (1, 0), (0, 0), (1, 0)] 0, .code [(2, 0), (1, 0), (0, 0), (2, 0), (0, 0), (2, 0), (1, 0), (0, 0)] 2]) (σ' := ⟨[(1, .list (.ints a1)), (5, .sl 11 0), (6, .int .i64 v1), (7, .sl 16 0), (12, .int .i64 a0), (13, .int .i64 v1), (17, .list (.ints a1)), (18, .int .i64 (a1.length : Int)), (19, .int .i64 v3), (20, .bool (decide (v3 < (a1.length : Int))))], [(11, .arr 22 0 0 (.intss v2)), (16, .arr 3 0 0 (.ints v4))]⟩) rfl trivial rfl ?_
        rcases bif_some h with ⟨hd2, h⟩ | ⟨hd2, h⟩
        · obtain ⟨hg3, h⟩ := grd_some h
          refine Tri.run 3 [.g true] [.keep [1, 5, 6, 7, 9, 10, 12, 13, 17, 18, 19] [11, 16]] (K' := [.code [(2, 0), (1, 0), (0, 0), (2, 0), (0, 0), (2, 0), (1, 0), (0, 0), (2, 0), (0, 0), (2, 0), (0, 0)] 0, .code [(2, 0), (1, 0), (0, 0), (2, 0), (0, 0), (2, 0), (1, 0), (0, 0), (2, 0), (0, 0), (2, 0)] 1, .code [(2, 0), (1, 0), (0, 0), (2, 0), (0, 0), (2, 0), (1, 0), (0, 0), (2, 0), (0, 0)] 3, .blk 3, .code [(2, 0), (1, 0), (0, 0), (2, 0), (0, 0), (2, 0), (1, 0), (0, 0)] 3]) (σ' := ⟨[(1, .list (.ints a1)), (5, .sl 11 0), (6, .int .i64 v1), (7, .sl 16 0), (9, .int .i64 (a1.getD v3.toNat 0)), (10, .int .i64 (0 : Int)), (12, .int .i64 a0), (13, .int .i64 v1), (17, .list (.ints a1)), (18, .int .i64 (a1.length : Int)), (19, .int .i64 v3)], [(11, .arr 22 0 0 (.intss v2)), (16, .arr 3 0 0 (.ints v4))]⟩) rfl ⟨hg3, hd2, trivial⟩ rfl ?_
          obtain ⟨v5, hk4, h⟩ := bind_some h
          refine Tri.run 1 [.r ⟨[], .bool v5, []⟩] [.keep [1, 5, 6, 7, 10, 12, 13, 17, 18, 19, 25] [11, 16]] (K' := [.code [(2, 0), (1, 0), (0, 0), (2, 0), (0, 0), (2, 0), (1, 0), (0, 0), (2, 0), (0, 0), (2, 0)] 1, .code [(2, 0), (1, 0), (0, 0), (2, 0), (0, 0), (2, 0), (1, 0), (0, 0), (2, 0), (0, 0)] 3, .blk 3, .code [(2, 0), (1, 0), (0, 0), (2, 0), (0, 0), (2, 0), (1, 0), (0, 0)] 3]) (σ' := ⟨[(1, .list (.ints a1)), (5, .sl 11 0), (6, .int .i64 v1), (7, .sl 16 0), (10, .int .i64 (0 : Int)), (12, .int .i64 a0), (13, .int .i64 v1), (17, .list (.ints a1)), (18, .int .i64 (a1.length : Int)), (19, .int .i64 v3), (25, .bool v5)], [(11, .arr 22 0 0 (.intss v2)), (16, .arr 3 0 0 (.ints v4))]⟩) rfl ⟨(w_impl_HasPlayer (a1.getD v3.toNat 0) v1 v5 hk4), trivial⟩ rfl ?_
          rcases bif_some h with ⟨hd5, h⟩ | ⟨hd5, h⟩
          · obtain ⟨hg6, h⟩ := grd_some h
            refine Tri.run 3 [.g true] [.keep [1, 5, 6, 7, 12, 13, 17, 18, 19] [11, 16]] (K' := [.code [(2, 0), (1, 0), (0, 0), (2, 0), (0, 0), (2, 0), (1, 0), (0, 0)] 3]) (σ' := ⟨[(1, .list (.ints a1)), (5, .sl 11 0), (6, .int .i64 v1), (7, .sl 16 1), (12, .int .i64 a0), (13, .int .i64 v1), (17, .list (.ints a1)), (18, .int .i64 (a1.length : Int)), (19, .int .i64 v3)], [(11, .arr 22 0 0 (.intss v2)), (16, .arr 3 1 0 (.ints (v4 ++ [(1 : Int)])))]⟩) rfl ⟨hg6, hd5, trivial⟩ rfl ?_
            refine Tri.run 1 [] [.rever 16, .keep [1, 5, 6, 7, 12, 13, 17, 18, 19] [11, 16]] (K' := []) (σ' := ⟨[(1, .list (.ints a1)), (5, .sl 11 0), (6, .int .i64 v1), (7, .sl 16 0), (12, .int .i64 a0), (13, .int .i64 v1), (17, .list (.ints a1)), (18, .int .i64 (a1.length : Int)), (19, .int .i64 (IntKind.i64.wrap (v3 + (1 : Int))))], [(11, .arr 22 0 0 (.intss v2)), (16, .arr 3 0 0 (.ints (v4 ++ [(1 : Int)])))]⟩) rfl trivial rfl ?_
            have h := Option.some.inj h
            subst h
            exact Tri.nil ⟨rfl, rfl⟩
          · obtain ⟨hg7, h⟩ := grd_some h
            refine Tri.run 3 [.g false] [.rever 16, .keep [1, 5, 6, 7, 12, 13, 17, 18, 19] [11, 16]] (K' := []) (σ' := ⟨[(1, .list (.ints a1)), (5, .sl 11 0), (6, .int .i64 v1), (7, .sl 16 0), (12, .int .i64 a0), (13, .int .i64 v1), (17, .list (.ints a1)), (18, .int .i64 (a1.length : Int)), (19, .int .i64 (IntKind.i64.wrap (v3 + (1 : Int))))], [(11, .arr 22 0 0 (.intss v2)), (16, .arr 3 0 0 (.ints (v4 ++ [(0 : Int)])))]⟩) rfl ⟨hg7, hd5, trivial⟩ rfl ?_
            have h := Option.some.inj h
            subst h
            exact Tri.nil ⟨rfl, rfl⟩
        · refine Tri.run 1 [.g false] [.keep [1, 5, 7, 12, 13] [11, 16]] (K' := [.code [(2, 0), (1, 0), (0, 0), (2, 0), (0, 0), (2, 0), (1, 0), (0, 0), (1, 0), (0, 1)] 0, .code [(2, 0), (1, 0), (0, 0), (2, 0), (0, 0), (2, 0), (1, 0), (0, 0)] 2]) (σ' := ⟨[(1, .list (.ints a1)), (5, .sl 11 0), (7, .sl 16 0), (12, .int .i64 a0), (13, .int .i64 v1)], [(11, .arr 22 0 0 (.intss v2)), (16, .arr 3 0 0 (.ints v4))]⟩) rfl ⟨hd2, trivial⟩ rfl ?_
          have h := Option.some.inj h
          subst h
          exact Tri.out 2 rfl ⟨nofun, rfl, rfl⟩
      · intro e σ' hne hq
        obtain ⟨rfl, rfl⟩ := hq
        refine TriX.exit (K' := [.code [(2, 0), (1, 0), (0, 0), (2, 0), (0, 0)] 3, .blk 1, .code [(2, 0), (1, 0), (0, 0)] 3]) rfl ?_
        obtain ⟨hg9, h⟩ := grd_some h
        refine Tri.run 2 [] [.rever 11, .keep [1, 5, 12, 13] [11]] (K' := []) (σ' := ⟨[(1, .list (.ints a1)), (5, .sl 11 0), (12, .int .i64 a0), (13, .int .i64 (IntKind.i64.wrap (v1 + (1 : Int))))], [(11, .arr 22 0 0 (.intss (v2 ++ [v6])))]⟩) rfl ⟨hg9, trivial⟩ rfl ?_
        have h := Option.some.inj h
        subst h
        exact Tri.nil ⟨rfl, rfl⟩
    · refine Tri.run 1 [.g false] [.keep [5] [11]] (K' := [.code [(2, 0), (1, 0), (0, 0), (1, 0), (0, 1)] 0, .code [(2, 0), (1, 0), (0, 0)] 2]) (σ' := ⟨[(5, .sl 11 0)], [(11, .arr 22 0 0 (.intss v2))]⟩) rfl ⟨hd1, trivial⟩ rfl ?_
      have h := Option.some.inj h
      subst h
      exact Tri.out 0 rfl ⟨nofun, rfl, rfl⟩
  · intro e σ' hne hq
    obtain ⟨rfl, rfl⟩ := hq
    refine TriX.exit (K' := [.code [] 3]) rfl ?_
    refine Tri.run 1 [] [.swap 11 1000, .keep [4] [1000]] (K' := [.code [] 4]) (σ' := ⟨[(4, .sl 1000 0)], [(1000, .arr 22 0 0 (.intss v7))]⟩) rfl trivial rfl ?_
    have h := Option.some.inj h
    subst h
    exact Tri.ret rfl ⟨.inl rfl, rfl, rfl⟩
/-! impl.IntsToRats -/
noncomputable def E151_impl_IntsToRats : Env := ⟨Try.prog, tys, (Try.f151.body).getD .skip, 24, tysOk, mixedOk⟩
abbrev q_impl_IntsToRats (r : Bool × (List Q)) (σ' : ASt) : Prop := resAV E151_impl_IntsToRats.T σ' Try.f151.results.toList = some (.tuple [.sl 1000 0, .bool r.1]) ∧ keepO σ'.ob (namesO [(1000, .arr 29 0 0 (.rats r.2))]) = [(1000, .arr 29 0 0 (.rats r.2))]
noncomputable def l_impl_IntsToRats_0 (a0 : List Int) : (Int × (List Q)) → Option ((Int × (List Q)) ⊕ ((List Q) ⊕ ((Bool × (List Q)))))
  | (v1, v2) => (
bif decide (v1 < (a0.length : Int)) then
(grd ((0 : Int) ≤ v1 ∧ v1 < (a0.length : Int)) <|
(m_impl_within (a0.getD v1.toNat 0) (-1000000000 : Int) (1000000000 : Int)).bind fun v3 =>
bif !v3 then
(some (.inr (.inr (false, []))))
else
((m_impl_whole (a0.getD v1.toNat 0)).bind fun (v4, v5) =>
grd (v2.length + ([⟨v4, v5⟩] : List Q).length ≤ room) <|
some (.inl (IntKind.i64.wrap (v1 + (1 : Int)), v2 ++ [⟨v4, v5⟩]))))
else
(some (.inr (.inl v2))))
noncomputable def m_impl_IntsToRats (a0 : List Int) : Option (Bool × (List Q)) :=
(iter (l_impl_IntsToRats_0 a0) ((0 : Int), [])).bind fun
| (.inl v6) => (
some (true, v6))
| (.inr r) => some r
theorem w_impl_IntsToRats (a0 : List Int) (r : Bool × (List Q)) (h : m_impl_IntsToRats a0 = some r) : AM.Spec Try.prog 151 [.list (.ints a0)] [] (.tuple [.sl 1000 0, .bool r.1]) [(1000, .arr 29 0 0 (.rats r.2))] := by
  refine spec_of (E := E151_impl_IntsToRats) Try.func151 rfl rfl rfl rfl ?_
  refine Tri.run 3 [] [.keep [4, 8, 9, 10] [7]] (K' := [.code [(2, 0), (1, 0)] 0, .blk 0, .code [] 3]) (σ' := ⟨[(4, .sl 7 0), (8, .list (.ints a0)), (9, .int .i64 (a0.length : Int)), (10, .int .i64 (0 : Int))], [(7, .arr 29 0 0 (.rats []))]⟩) rfl trivial rfl ?_
  obtain ⟨x1, hk7, h⟩ := bind_some h
  refine Tri.loop (K1 := [.code [(2, 0), (1, 0), (0, 0)] 0]) (K2 := [.blk 0, .code [] 3]) (fun (v1, v2) => ⟨[(4, .sl 7 0), (8, .list (.ints a0)), (9, .int .i64 (a0.length : Int)), (10, .int .i64 v1)], [(7, .arr 29 0 0 (.rats v2))]⟩) (fun x e σ' => match x with | (.inl v6) => e = .exit 0 ∧ σ' = ⟨[(4, .sl 7 0)], [(7, .arr 29 0 0 (.rats v6))]⟩ | (.inr r) => e = .ret ∧ q_impl_IntsToRats r σ') hk7 rfl rfl ?_ ?_
  · intro s x hs
    clear h
    have h := hs
    clear hs
    obtain ⟨v1, v2⟩ := s
    refine Tri.run 1 [] [.keep [4, 8, 9, 10, 11] [7]] (K' := [.code [(2, 0), (1, 0), (0, 0), (1, 0)] 0, .code [(2, 0), (1, 0), (0, 0)] 2]) (σ' := ⟨[(4, .sl 7 0), (8, .list (.ints a0)), (9, .int .i64 (a0.length : Int)), (10, .int .i64 v1), (11, .bool (decide (v1 < (a0.length : Int))))], [(7, .arr 29 0 0 (.rats v2))]⟩) rfl trivial rfl ?_
    rcases bif_some h with ⟨hd1, h⟩ | ⟨hd1, h⟩
    · obtain ⟨hg2, h⟩ := grd_some h
      refine Tri.run 2 [.g true] [.keep [4, 6, 8, 9, 10] [7]] (K' := [.code [(2, 0), (1, 0), (0, 0), (2, 0), (0, 0), (1, 0), (0, 0)] 0, .code [(2, 0), (1, 0), (0, 0), (2, 0), (0, 0), (1, 0)] 1, .code [(2, 0), (1, 0), (0, 0), (2, 0), (0, 0)] 2, .blk 1, .code [(2, 0), (1, 0), (0, 0)] 3]) (σ' := ⟨[(4, .sl 7 0), (6, .int .i64 (a0.getD v1.toNat 0)), (8, .list (.ints a0)), (9, .int .i64 (a0.length : Int)), (10, .int .i64 v1)], [(7, .arr 29 0 0 (.rats v2))]⟩) rfl ⟨hg2, hd1, trivial⟩ rfl ?_
      obtain ⟨v3, hk3, h⟩ := bind_some h
      refine Tri.run 1 [.r ⟨[], .bool v3, []⟩] [.keep [4, 6, 8, 9, 10, 16] [7]] (K' := [.code [(2, 0), (1, 0), (0, 0), (2, 0), (0, 0), (1, 0)] 1, .code [(2, 0), (1, 0), (0, 0), (2, 0), (0, 0)] 2, .blk 1, .code [(2, 0), (1, 0), (0, 0)] 3]) (σ' := ⟨[(4, .sl 7 0), (6, .int .i64 (a0.getD v1.toNat 0)), (8, .list (.ints a0)), (9, .int .i64 (a0.length : Int)), (10, .int .i64 v1), (16, .bool (!v3))], [(7, .arr 29 0 0 (.rats v2))]⟩) rfl ⟨(w_impl_within (a0.getD v1.toNat 0) (-1000000000 : Int) (1000000000 : Int) v3 hk3), trivial⟩ rfl ?_
      rcases bif_some h with ⟨hd4, h⟩ | ⟨hd4, h⟩
      · refine Tri.run 2 [.g true] [.own 2 [] 1100 29, .swap 1100 1000, .keep [2, 3] [1000]] (K' := [.code [(2, 0), (1, 0), (0, 0), (2, 0), (0, 0), (1, 0), (1, 0)] 1, .code [(2, 0), (1, 0), (0, 0), (2, 0), (0, 0)] 2, .blk 1, .code [(2, 0), (1, 0), (0, 0)] 3]) (σ' := ⟨[(2, .sl 1000 0), (3, .bool false)], [(1000, .arr 29 0 0 (.rats []))]⟩) rfl ⟨hd4, trivial⟩ rfl ?_
        have h := Option.some.inj h
        subst h
        exact Tri.ret rfl ⟨nofun, rfl, rfl, rfl⟩
      · obtain ⟨⟨v4, v5⟩, hk5, h⟩ := bind_some h
        obtain ⟨hg6, h⟩ := grd_some h
        refine Tri.run 3 [.g false, .r ⟨[], .agg [.int .i64 v4, .int .i64 v5], []⟩] [.rever 7, .keep [4, 8, 9, 10] [7]] (K' := []) (σ' := ⟨[(4, .sl 7 0), (8, .list (.ints a0)), (9, .int .i64 (a0.length : Int)), (10, .int .i64 (IntKind.i64.wrap (v1 + (1 : Int))))], [(7, .arr 29 0 0 (.rats (v2 ++ [⟨v4, v5⟩])))]⟩) rfl ⟨hg6, (w_impl_whole (a0.getD v1.toNat 0) (v4, v5) hk5), hd4, trivial⟩ rfl ?_
        have h := Option.some.inj h
        subst h
        exact Tri.nil ⟨rfl, rfl⟩
    · refine Tri.run 1 [.g false] [.keep [4] [7]] (K' := [.code [(2, 0), (1, 0), (0, 0), (1, 0), (0, 1)] 0, .code [(2, 0), (1, 0), (0, 0)] 2]) (σ' := ⟨[(4, .sl 7 0)], [(7, .arr 29 0 0 (.rats v2))]⟩) rfl ⟨hd1, trivial⟩ rfl ?_
      have h := Option.some.inj h
      subst h
      exact Tri.out 0 rfl ⟨nofun, rfl, rfl⟩
  · intro e σ' hne hq
    rcases x1 with v6 | r
    · obtain ⟨rfl, rfl⟩ := hq
      refine TriX.exit (K' := [.code [] 3]) rfl ?_
      refine Tri.run 1 [] [.swap 7 1000, .keep [2, 3] [1000]] (K' := [.code [] 4]) (σ' := ⟨[(2, .sl 1000 0), (3, .bool true)], [(1000, .arr 29 0 0 (.rats v6))]⟩) rfl trivial rfl ?_
      have h := Option.some.inj h
      subst h
      exact Tri.ret rfl ⟨.inl rfl, rfl, rfl⟩
    · obtain ⟨rfl, hq⟩ := hq
      have h := Option.some.inj h
      subst h
      exact TriX.ret ⟨.inl rfl, hq⟩
/-! impl.rats -/
noncomputable def E123_impl_rats : Env := ⟨Try.prog, tys, (Try.f123.body).getD .skip, 11, tysOk, mixedOk⟩
abbrev q_impl_rats (r : List Q) (σ' : ASt) : Prop := resAV E123_impl_rats.T σ' Try.f123.results.toList = some (.sl 1000 0) ∧ keepO σ'.ob (namesO [(1000, .arr 29 0 0 (.rats r))]) = [(1000, .arr 29 0 0 (.rats r))]
noncomputable def m_impl_rats (a0 : List Int) : Option (List Q) :=
(m_impl_IntsToRats a0).bind fun (_, v2) =>
some v2
theorem w_impl_rats (a0 : List Int) (r : List Q) (h : m_impl_rats a0 = some r) : AM.Spec Try.prog 123 [.list (.ints a0)] [] (.sl 1000 0) [(1000, .arr 29 0 0 (.rats r))] := by
  refine spec_of (E := E123_impl_rats) Try.func123 rfl rfl rfl rfl ?_
  refine Tri.run 1 [] [.keep [0] []] (K' := [.code [(1, 0)] 0, .code [] 2]) (σ' := ⟨[(0, .list (.ints a0))], []⟩) rfl trivial rfl ?_
  obtain ⟨⟨v1, v2⟩, hk1, h⟩ := bind_some h
  refine Tri.run 2 [.r ⟨[], .tuple [.sl 1100 0, .bool v1], [(1100, .arr 29 0 0 (.rats v2))]⟩] [.swap 1100 1000, .keep [2] [1000]] (K' := [.code [] 3]) (σ' := ⟨[(2, .sl 1000 0)], [(1000, .arr 29 0 0 (.rats v2))]⟩) rfl ⟨((w_impl_IntsToRats a0 (v1, v2) hk1).swap 1000 1100), trivial⟩ rfl ?_
  have h := Option.some.inj h
  subst h
  exact Tri.ret rfl ⟨.inl rfl, rfl, rfl⟩
/-! impl.MulRat -/
noncomputable def E150_impl_MulRat : Env := ⟨Try.prog, tys, (Try.f150.body).getD .skip, 28, tysOk, mixedOk⟩
abbrev q_impl_MulRat (r : Int × Int × Bool) (σ' : ASt) : Prop := resAV E150_impl_MulRat.T σ' Try.f150.results.toList = some (.tuple [.agg [.int .i64 r.1, .int .i64 r.2.1], .bool r.2.2]) ∧ keepO σ'.ob (namesO []) = []
noncomputable def m_impl_MulRat (a0 : Int) (a1 : Int) (a2 : Int) (a3 : Int) : Option (Int × Int × Bool) :=
(m_impl_IsValidRat a0 a1).bind fun v1 =>
bif !v1 then
(some (0, 0, false))
else
((m_impl_IsValidRat a2 a3).bind fun v2 =>
bif !v2 then
(some (0, 0, false))
else
((m_impl_RatOf (IntKind.i64.wrap (a0 * a2)) (IntKind.i64.wrap (a1 * a3))).bind fun (v3, v4, v5) =>
some (v3, v4, v5)))
theorem w_impl_MulRat (a0 : Int) (a1 : Int) (a2 : Int) (a3 : Int) (r : Int × Int × Bool) (h : m_impl_MulRat a0 a1 a2 a3 = some r) : AM.Spec Try.prog 150 [.agg [.int .i64 a0, .int .i64 a1], .agg [.int .i64 a2, .int .i64 a3]] [] (.tuple [.agg [.int .i64 r.1, .int .i64 r.2.1], .bool r.2.2]) [] := by
  refine spec_of (E := E150_impl_MulRat) Try.func150 rfl rfl rfl rfl ?_
  refine Tri.run 1 [] [.keep [2, 3, 4] [2, 3, 4]] (K' := [.code [(1, 0), (0, 0)] 0, .code [(1, 0)] 1, .code [] 2]) (σ' := ⟨[(2, .ptr 2 0), (3, .ptr 3 0), (4, .ptr 4 0)], [(2, .box [.int .i64 a0, .int .i64 a1]), (3, .box [.int .i64 a2, .int .i64 a3]), (4, .box [.int .i64 0, .int .i64 0])]⟩) rfl trivial rfl ?_
  obtain ⟨v1, hk1, h⟩ := bind_some h
  rcases bif_some h with ⟨hd2, h⟩ | ⟨hd2, h⟩
  · refine Tri.run 1 [.r ⟨[], .bool v1, []⟩, .g true] [.keep [2, 3, 4, 13] [2, 3, 4]] (K' := [.code [(1, 0)] 1, .code [] 2]) (σ' := ⟨[(2, .ptr 2 0), (3, .ptr 3 0), (4, .ptr 4 0), (13, .bool true)], [(2, .box [.int .i64 a0, .int .i64 a1]), (3, .box [.int .i64 a2, .int .i64 a3]), (4, .box [.int .i64 0, .int .i64 0])]⟩) rfl ⟨hd2, (w_impl_IsValidRat a0 a1 v1 hk1), trivial⟩ rfl ?_
    refine Tri.run 2 [.g true] [.keep [4, 5] [4]] (K' := [.code [(1, 0), (1, 0)] 1, .code [] 2]) (σ' := ⟨[(4, .ptr 4 0), (5, .bool false)], [(4, .box [.int .i64 0, .int .i64 0])]⟩) rfl ⟨rfl, trivial⟩ rfl ?_
    have h := Option.some.inj h
    subst h
    exact Tri.ret rfl ⟨.inl rfl, rfl, rfl⟩
  · obtain ⟨v2, hk3, h⟩ := bind_some h
    refine Tri.run 1 [.r ⟨[], .bool v1, []⟩, .g false, .r ⟨[], .bool v2, []⟩] [.keep [2, 3, 4, 13] [2, 3, 4]] (K' := [.code [(1, 0)] 1, .code [] 2]) (σ' := ⟨[(2, .ptr 2 0), (3, .ptr 3 0), (4, .ptr 4 0), (13, .bool (!v2))], [(2, .box [.int .i64 a0, .int .i64 a1]), (3, .box [.int .i64 a2, .int .i64 a3]), (4, .box [.int .i64 0, .int .i64 0])]⟩) rfl ⟨(w_impl_IsValidRat a2 a3 v2 hk3), hd2, (w_impl_IsValidRat a0 a1 v1 hk1), trivial⟩ rfl ?_
    rcases bif_some h with ⟨hd4, h⟩ | ⟨hd4, h⟩
    · refine Tri.run 2 [.g true] [.keep [4, 5] [4]] (K' := [.code [(1, 0), (1, 0)] 1, .code [] 2]) (σ' := ⟨[(4, .ptr 4 0), (5, .bool false)], [(4, .box [.int .i64 0, .int .i64 0])]⟩) rfl ⟨hd4, trivial⟩ rfl ?_
      have h := Option.some.inj h
      subst h
      exact Tri.ret rfl ⟨.inl rfl, rfl, rfl⟩
    · obtain ⟨⟨v3, v4, v5⟩, hk5, h⟩ := bind_some h
      refine Tri.run 2 [.g false, .r ⟨[], .tuple [.agg [.int .i64 v3, .int .i64 v4], .bool v5], []⟩] [.keep [4, 5] [4]] (K' := [.code [] 3]) (σ' := ⟨[(4, .ptr 4 0), (5, .bool v5)], [(4, .box [.int .i64 v3, .int .i64 v4])]⟩) rfl ⟨(w_impl_RatOf (IntKind.i64.wrap (a0 * a2)) (IntKind.i64.wrap (a1 * a3)) (v3, v4, v5) hk5), hd4, trivial⟩ rfl ?_
      have h := Option.some.inj h
      subst h
      exact Tri.ret rfl ⟨.inl rfl, rfl, rfl⟩
/-! impl.DotRat -/
noncomputable def E122_impl_DotRat : Env := ⟨Try.prog, tys, (Try.f122.body).getD .skip, 52, tysOk, mixedOk⟩
abbrev q_impl_DotRat (r : Int × Int × Bool) (σ' : ASt) : Prop := resAV E122_impl_DotRat.T σ' Try.f122.results.toList = some (.tuple [.agg [.int .i64 r.1, .int .i64 r.2.1], .bool r.2.2]) ∧ keepO σ'.ob (namesO []) = []
noncomputable def l_impl_DotRat_0 (a0 : List Q) (a1 : List Q) : (Int × Int × Int) → Option ((Int × Int × Int) ⊕ ((Int × Int) ⊕ ((Int × Int × Bool))))
  | (v3, v4, v5) => (
bif decide (v3 < (a0.length : Int)) then
(grd ((0 : Int) ≤ v3 ∧ v3 < (a0.length : Int)) <|
grd ((0 : Int) ≤ v3 ∧ v3 < (a1.length : Int)) <|
(m_impl_MulRat ((a0.getD v3.toNat ⟨0, 0⟩).num) ((a0.getD v3.toNat ⟨0, 0⟩).den) ((a1.getD v3.toNat ⟨0, 0⟩).num) ((a1.getD v3.toNat ⟨0, 0⟩).den)).bind fun (v6, v7, v8) =>
(m_impl_AddRat v4 v5 v6 v7).bind fun (v9, v10, v11) =>
bif !v8 then
(some (.inr (.inr (0, 0, false))))
else
(bif !v11 then
(some (.inr (.inr (0, 0, false))))
else
(some (.inl (IntKind.i64.wrap (v3 + (1 : Int)), v9, v10)))))
else
(some (.inr (.inl (v4, v5)))))
noncomputable def m_impl_DotRat (a0 : List Q) (a1 : List Q) : Option (Int × Int × Bool) :=
bif (a0.length : Int) != (a1.length : Int) then
(some (0, 0, false))
else
((m_impl_whole (0 : Int)).bind fun (v1, v2) =>
(iter (l_impl_DotRat_0 a0 a1) ((0 : Int), v1, v2)).bind fun
| (.inl (v12, v13)) => (
some (v12, v13, true))
| (.inr r) => some r)
theorem w_impl_DotRat (a0 : List Q) (a1 : List Q) (r : Int × Int × Bool) (h : m_impl_DotRat a0 a1 = some r) : AM.Spec Try.prog 122 [.list (.rats a0), .list (.rats a1)] [] (.tuple [.agg [.int .i64 r.1, .int .i64 r.2.1], .bool r.2.2]) [] := by
  refine spec_of (E := E122_impl_DotRat) Try.func122 rfl rfl rfl rfl ?_
  refine Tri.run 2 [] [.keep [0, 1, 4, 16] [4]] (K' := [.code [(1, 0)] 1, .code [] 2]) (σ' := ⟨[(0, .list (.rats a0)), (1, .list (.rats a1)), (4, .ptr 4 0), (16, .bool ((a0.length : Int) != (a1.length : Int)))], [(4, .box [.int .i64 0, .int .i64 0])]⟩) rfl trivial rfl ?_
  rcases bif_some h with ⟨hd1, h⟩ | ⟨hd1, h⟩
  · refine Tri.run 2 [.g true] [.keep [4, 5] [4]] (K' := [.code [(1, 0), (1, 0)] 1, .code [] 2]) (σ' := ⟨[(4, .ptr 4 0), (5, .bool false)], [(4, .box [.int .i64 0, .int .i64 0])]⟩) rfl ⟨hd1, trivial⟩ rfl ?_
    have h := Option.some.inj h
    subst h
    exact Tri.ret rfl ⟨.inl rfl, rfl, rfl⟩
  · obtain ⟨⟨v1, v2⟩, hk2, h⟩ := bind_some h
    refine Tri.run 3 [.g false, .r ⟨[], .agg [.int .i64 v1, .int .i64 v2], []⟩] [.keep [0, 1, 4, 6, 20, 21] [4, 6]] (K' := [.code [(3, 0), (1, 0)] 0, .blk 0, .code [] 4]) (σ' := ⟨[(0, .list (.rats a0)), (1, .list (.rats a1)), (4, .ptr 4 0), (6, .ptr 6 0), (20, .int .i64 (a0.length : Int)), (21, .int .i64 (0 : Int))], [(4, .box [.int .i64 0, .int .i64 0]), (6, .box [.int .i64 v1, .int .i64 v2])]⟩) rfl ⟨(w_impl_whole (0 : Int) (v1, v2) hk2), hd1, trivial⟩ rfl ?_
    obtain ⟨x1, hk10, h⟩ := bind_some h
    refine Tri.loop (K1 := [.code [(3, 0), (1, 0), (0, 0)] 0]) (K2 := [.blk 0, .code [] 4]) (fun (v3, v4, v5) => ⟨[(0, .list (.rats a0)), (1, .list (.rats a1)), (4, .ptr 4 0), (6, .ptr 6 0), (20, .int .i64 (a0.length : Int)), (21, .int .i64 v3)], [(4, .box [.int .i64 0, .int .i64 0]), (6, .box [.int .i64 v4, .int .i64 v5])]⟩) (fun x e σ' => match x with | (.inl (v12, v13)) => e = .exit 0 ∧ σ' = ⟨[(4, .ptr 4 0), (6, .ptr 6 0)], [(4, .box [.int .i64 0, .int .i64 0]), (6, .box [.int .i64 v12, .int .i64 v13])]⟩ | (.inr r) => e = .ret ∧ q_impl_DotRat r σ') hk10 rfl rfl ?_ ?_
    · intro s x hs
      clear h
      have h := hs
      clear hs
      obtain ⟨v3, v4, v5⟩ := s
      refine Tri.run 1 [] [.keep [0, 1, 4, 6, 20, 21, 22] [4, 6]] (K' := [.code [(3, 0), (1, 0), (0, 0), (1, 0)] 0, .code [(3, 0), (1, 0), (0, 0)] 2]) (σ' := ⟨[(0, .list (.rats a0)), (1, .list (.rats a1)), (4, .ptr 4 0), (6, .ptr 6 0), (20, .int .i64 (a0.length : Int)), (21, .int .i64 v3), (22, .bool (decide (v3 < (a0.length : Int))))], [(4, .box [.int .i64 0, .int .i64 0]), (6, .box [.int .i64 v4, .int .i64 v5])]⟩) rfl trivial rfl ?_
      rcases bif_some h with ⟨hd3, h⟩ | ⟨hd3, h⟩
      · refine Tri.run 2 [.g true] [.keep [0, 1, 4, 6, 7, 20, 21] [4, 6]] (K' := [.code [(3, 0), (1, 0), (0, 0), (2, 0), (0, 0), (1, 0)] 0, .code [(3, 0), (1, 0), (0, 0), (2, 0), (0, 0)] 2, .blk 1, .code [(3, 0), (1, 0), (0, 0)] 3]) (σ' := ⟨[(0, .list (.rats a0)), (1, .list (.rats a1)), (4, .ptr 4 0), (6, .ptr 6 0), (7, .int .i64 v3), (20, .int .i64 (a0.length : Int)), (21, .int .i64 v3)], [(4, .box [.int .i64 0, .int .i64 0]), (6, .box [.int .i64 v4, .int .i64 v5])]⟩) rfl ⟨hd3, trivial⟩ rfl ?_
        obtain ⟨hg4, h⟩ := grd_some h
        obtain ⟨hg5, h⟩ := grd_some h
        obtain ⟨⟨v6, v7, v8⟩, hk6, h⟩ := bind_some h
        obtain ⟨⟨v9, v10, v11⟩, hk7, h⟩ := bind_some h
        refine Tri.run 2 [.r ⟨[], .tuple [.agg [.int .i64 v6, .int .i64 v7], .bool v8], []⟩, .r ⟨[], .tuple [.agg [.int .i64 v9, .int .i64 v10], .bool v11], []⟩] [.keep [0, 1, 4, 6, 9, 10, 11, 20, 21] [4, 6, 10]] (K' := [.code [(3, 0), (1, 0), (0, 0), (2, 0), (0, 0), (3, 0), (0, 0)] 0, .code [(3, 0), (1, 0), (0, 0), (2, 0), (0, 0), (3, 0)] 1, .code [(3, 0), (1, 0), (0, 0), (2, 0), (0, 0)] 4, .blk 1, .code [(3, 0), (1, 0), (0, 0)] 3]) (σ' := ⟨[(0, .list (.rats a0)), (1, .list (.rats a1)), (4, .ptr 4 0), (6, .ptr 6 0), (9, .bool v8), (10, .ptr 10 0), (11, .bool v11), (20, .int .i64 (a0.length : Int)), (21, .int .i64 v3)], [(4, .box [.int .i64 0, .int .i64 0]), (6, .box [.int .i64 v4, .int .i64 v5]), (10, .box [.int .i64 v9, .int .i64 v10])]⟩) rfl ⟨(w_impl_AddRat v4 v5 v6 v7 (v9, v10, v11) hk7), (w_impl_MulRat ((a0.getD v3.toNat ⟨0, 0⟩).num) ((a0.getD v3.toNat ⟨0, 0⟩).den) ((a1.getD v3.toNat ⟨0, 0⟩).num) ((a1.getD v3.toNat ⟨0, 0⟩).den) (v6, v7, v8) hk6), hg5, hg4, trivial⟩ rfl ?_
        rcases bif_some h with ⟨hd8, h⟩ | ⟨hd8, h⟩
        · refine Tri.run 1 [.g true] [.keep [0, 1, 4, 6, 10, 20, 21, 47] [4, 6, 10]] (K' := [.code [(3, 0), (1, 0), (0, 0), (2, 0), (0, 0), (3, 0)] 1, .code [(3, 0), (1, 0), (0, 0), (2, 0), (0, 0)] 4, .blk 1, .code [(3, 0), (1, 0), (0, 0)] 3]) (σ' := ⟨[(0, .list (.rats a0)), (1, .list (.rats a1)), (4, .ptr 4 0), (6, .ptr 6 0), (10, .ptr 10 0), (20, .int .i64 (a0.length : Int)), (21, .int .i64 v3), (47, .bool true)], [(4, .box [.int .i64 0, .int .i64 0]), (6, .box [.int .i64 v4, .int .i64 v5]), (10, .box [.int .i64 v9, .int .i64 v10])]⟩) rfl ⟨hd8, trivial⟩ rfl ?_
          refine Tri.run 2 [.g true] [.keep [4, 5] [4]] (K' := [.code [(3, 0), (1, 0), (0, 0), (2, 0), (0, 0), (3, 0), (1, 0)] 1, .code [(3, 0), (1, 0), (0, 0), (2, 0), (0, 0)] 4, .blk 1, .code [(3, 0), (1, 0), (0, 0)] 3]) (σ' := ⟨[(4, .ptr 4 0), (5, .bool false)], [(4, .box [.int .i64 0, .int .i64 0])]⟩) rfl ⟨rfl, trivial⟩ rfl ?_
          have h := Option.some.inj h
          subst h
          exact Tri.ret rfl ⟨nofun, rfl, rfl, rfl⟩
        · refine Tri.run 1 [.g false] [.keep [0, 1, 4, 6, 10, 20, 21, 47] [4, 6, 10]] (K' := [.code [(3, 0), (1, 0), (0, 0), (2, 0), (0, 0), (3, 0)] 1, .code [(3, 0), (1, 0), (0, 0), (2, 0), (0, 0)] 4, .blk 1, .code [(3, 0), (1, 0), (0, 0)] 3]) (σ' := ⟨[(0, .list (.rats a0)), (1, .list (.rats a1)), (4, .ptr 4 0), (6, .ptr 6 0), (10, .ptr 10 0), (20, .int .i64 (a0.length : Int)), (21, .int .i64 v3), (47, .bool (!v11))], [(4, .box [.int .i64 0, .int .i64 0]), (6, .box [.int .i64 v4, .int .i64 v5]), (10, .box [.int .i64 v9, .int .i64 v10])]⟩) rfl ⟨hd8, trivial⟩ rfl ?_
          rcases bif_some h with ⟨hd9, h⟩ | ⟨hd9, h⟩
          · refine Tri.run 2 [.g true] [.keep [4, 5] [4]] (K' := [.code [(3, 0), (1, 0), (0, 0), (2, 0), (0, 0), (3, 0), (1, 0)] 1, .code [(3, 0), (1, 0), (0, 0), (2, 0), (0, 0)] 4, .blk 1, .code [(3, 0), (1, 0), (0, 0)] 3]) (σ' := ⟨[(4, .ptr 4 0), (5, .bool false)], [(4, .box [.int .i64 0, .int .i64 0])]⟩) rfl ⟨hd9, trivial⟩ rfl ?_
            have h := Option.some.inj h
            subst h
            exact Tri.ret rfl ⟨nofun, rfl, rfl, rfl⟩
          · refine Tri.run 3 [.g false] [.keep [0, 1, 4, 6, 20, 21] [4, 6]] (K' := []) (σ' := ⟨[(0, .list (.rats a0)), (1, .list (.rats a1)), (4, .ptr 4 0), (6, .ptr 6 0), (20, .int .i64 (a0.length : Int)), (21, .int .i64 (IntKind.i64.wrap (v3 + (1 : Int))))], [(4, .box [.int .i64 0, .int .i64 0]), (6, .box [.int .i64 v9, .int .i64 v10])]⟩) rfl ⟨hd9, trivial⟩ rfl ?_
            have h := Option.some.inj h
            subst h
            exact Tri.nil ⟨rfl, rfl⟩
      · refine Tri.run 1 [.g false] [.keep [4, 6] [4, 6]] (K' := [.code [(3, 0), (1, 0), (0, 0), (1, 0), (0, 1)] 0, .code [(3, 0), (1, 0), (0, 0)] 2]) (σ' := ⟨[(4, .ptr 4 0), (6, .ptr 6 0)], [(4, .box [.int .i64 0, .int .i64 0]), (6, .box [.int .i64 v4, .int .i64 v5])]⟩) rfl ⟨hd3, trivial⟩ rfl ?_
        have h := Option.some.inj h
        subst h
        exact Tri.out 0 rfl ⟨nofun, rfl, rfl⟩
    · intro e σ' hne hq
      rcases x1 with ⟨v12, v13⟩ | r
      · obtain ⟨rfl, rfl⟩ := hq
        refine TriX.exit (K' := [.code [] 4]) rfl ?_
        refine Tri.run 1 [] [.keep [4, 5] [4]] (K' := [.code [] 5]) (σ' := ⟨[(4, .ptr 4 0), (5, .bool true)], [(4, .box [.int .i64 v12, .int .i64 v13])]⟩) rfl trivial rfl ?_
        have h := Option.some.inj h
        subst h
        exact Tri.ret rfl ⟨.inl rfl, rfl, rfl⟩
      · obtain ⟨rfl, hq⟩ := hq
        have h := Option.some.inj h
        subst h
        exact TriX.ret ⟨.inl rfl, hq⟩
/-! impl.IsBalancedCollection -/
noncomputable def E121_impl_IsBalancedCollection : Env := ⟨Try.prog, tys, (Try.f121.body).getD .skip, 46, tysOk, mixedOk⟩
abbrev q_impl_IsBalancedCollection (r : Bool) (σ' : ASt) : Prop := resAV E121_impl_IsBalancedCollection.T σ' Try.f121.results.toList = some (.bool r) ∧ keepO σ'.ob (namesO []) = []
noncomputable def l_impl_IsBalancedCollection_0 (a1 : List Q) (v6 : List (List Int)) (v7 : Int) : Option (Int ⊕ (Unit ⊕ Bool)) :=
bif decide (v7 < (v6.length : Int)) then
(grd ((0 : Int) ≤ v7 ∧ v7 < (v6.length : Int)) <|
(m_impl_rats (v6.getD v7.toNat [])).bind fun v8 =>
(m_impl_DotRat v8 a1).bind fun (v9, v10, v11) =>
bif !v11 then
(some (.inr (.inr false)))
else
((m_impl_whole (1 : Int)).bind fun (v12, v13) =>
bif !(v9 == v12 && v10 == v13) then
(some (.inr (.inr false)))
else
(some (.inl (IntKind.i64.wrap (v7 + (1 : Int)))))))
else
(some (.inr (.inl ())))
noncomputable def m_impl_IsBalancedCollection (a0 : Int) (a1 : List Q) : Option Bool :=
(m_impl_within a0 (1 : Int) (5 : Int)).bind fun v1 =>
bif !v1 then
(some false)
else
((m_impl_CountCoalitions a0).bind fun v2 =>
(m_impl_notNegative a1 (IntKind.i64.wrap (v2 - (1 : Int)))).bind fun v3 =>
bif !v3 then
(some false)
else
((m_impl_CountCoalitions a0).bind fun v4 =>
(m_impl_coalitions (1 : Int) (IntKind.i64.wrap (v4 - (1 : Int)))).bind fun v5 =>
(m_impl_members a0 v5).bind fun v6 =>
(iter (l_impl_IsBalancedCollection_0 a1 v6) (0 : Int)).bind fun
| (.inl _) => (
some true)
| (.inr r) => some r))
theorem w_impl_IsBalancedCollection (a0 : Int) (a1 : List Q) (r : Bool) (h : m_impl_IsBalancedCollection a0 a1 = some r) : AM.Spec Try.prog 121 [.int .i64 a0, .list (.rats a1)] [] (.bool r) [] := by
  refine spec_of (E := E121_impl_IsBalancedCollection) Try.func121 rfl rfl rfl rfl ?_
  refine Tri.run 1 [] [.keep [0, 1] []] (K' := [.code [(1, 0), (0, 0)] 0, .code [(1, 0)] 1, .code [] 2]) (σ' := ⟨[(0, .int .i64 a0), (1, .list (.rats a1))], []⟩) rfl trivial rfl ?_
  obtain ⟨v1, hk1, h⟩ := bind_some h
  rcases bif_some h with ⟨hd2, h⟩ | ⟨hd2, h⟩
  · refine Tri.run 1 [.r ⟨[], .bool v1, []⟩, .g true] [.keep [0, 1, 19] []] (K' := [.code [(1, 0)] 1, .code [] 2]) (σ' := ⟨[(0, .int .i64 a0), (1, .list (.rats a1)), (19, .bool true)], []⟩) rfl ⟨hd2, (w_impl_within a0 (1 : Int) (5 : Int) v1 hk1), trivial⟩ rfl ?_
    refine Tri.run 2 [.g true] [.keep [4] []] (K' := [.code [(1, 0), (1, 0)] 1, .code [] 2]) (σ' := ⟨[(4, .bool false)], []⟩) rfl ⟨rfl, trivial⟩ rfl ?_
    have h := Option.some.inj h
    subst h
    exact Tri.ret rfl ⟨.inl rfl, rfl, rfl⟩
  · obtain ⟨v2, hk3, h⟩ := bind_some h
    obtain ⟨v3, hk4, h⟩ := bind_some h
    refine Tri.run 1 [.r ⟨[], .bool v1, []⟩, .g false, .r ⟨[], .int .i64 v2, []⟩, .r ⟨[], .bool v3, []⟩] [.keep [0, 1, 19] []] (K' := [.code [(1, 0)] 1, .code [] 2]) (σ' := ⟨[(0, .int .i64 a0), (1, .list (.rats a1)), (19, .bool (!v3))], []⟩) rfl ⟨(w_impl_notNegative a1 (IntKind.i64.wrap (v2 - (1 : Int))) v3 hk4), (w_impl_CountCoalitions a0 v2 hk3), hd2, (w_impl_within a0 (1 : Int) (5 : Int) v1 hk1), trivial⟩ rfl ?_
    rcases bif_some h with ⟨hd5, h⟩ | ⟨hd5, h⟩
    · refine Tri.run 2 [.g true] [.keep [4] []] (K' := [.code [(1, 0), (1, 0)] 1, .code [] 2]) (σ' := ⟨[(4, .bool false)], []⟩) rfl ⟨hd5, trivial⟩ rfl ?_
      have h := Option.some.inj h
      subst h
      exact Tri.ret rfl ⟨.inl rfl, rfl, rfl⟩
    · obtain ⟨v4, hk6, h⟩ := bind_some h
      obtain ⟨v5, hk7, h⟩ := bind_some h
      obtain ⟨v6, hk8, h⟩ := bind_some h
      refine Tri.run 2 [.g false, .r ⟨[], .int .i64 v4, []⟩, .r ⟨[], .sl 1100 0, [(1100, .arr 3 0 0 (.ints v5))]⟩, .r ⟨[], .sl 1101 0, [(1101, .arr 22 0 0 (.intss v6))]⟩] [.keep [1, 25, 26, 27] [1101]] (K' := [.code [(2, 0), (1, 0)] 0, .blk 0, .code [] 3]) (σ' := ⟨[(1, .list (.rats a1)), (25, .sl 1101 0), (26, .int .i64 (v6.length : Int)), (27, .int .i64 (0 : Int))], [(1101, .arr 22 0 0 (.intss v6))]⟩) rfl ⟨((w_impl_members a0 v5 v6 hk8).swap 1000 1101), ((w_impl_coalitions (1 : Int) (IntKind.i64.wrap (v4 - (1 : Int))) v5 hk7).swap 1000 1100), (w_impl_CountCoalitions a0 v4 hk6), hd5, trivial⟩ rfl ?_
      obtain ⟨x1, hk16, h⟩ := bind_some h
      refine Tri.loop (K1 := [.code [(2, 0), (1, 0), (0, 0)] 0]) (K2 := [.blk 0, .code [] 3]) (fun v7 => ⟨[(1, .list (.rats a1)), (25, .sl 1101 0), (26, .int .i64 (v6.length : Int)), (27, .int .i64 v7)], [(1101, .arr 22 0 0 (.intss v6))]⟩) (fun x e σ' => match x with | (.inl _) => e = .exit 0 ∧ σ' = ⟨[], []⟩ | (.inr r) => e = .ret ∧ q_impl_IsBalancedCollection r σ') hk16 rfl rfl ?_ ?_
      · intro v7 x hs
        clear h
        have h := hs
        clear hs
        refine Tri.run 1 [] [.keep [1, 25, 26, 27, 28] [1101]] (K' := [.code [(2, 0), (1, 0), (0, 0), (1, 0)] 0, .code [(2, 0), (1, 0), (0, 0)] 2]) (σ' := ⟨[(1, .list (.rats a1)), (25, .sl 1101 0), (26, .int .i64 (v6.length : Int)), (27, .int .i64 v7), (28, .bool (decide (v7 < (v6.length : Int))))], [(1101, .arr 22 0 0 (.intss v6))]⟩) rfl trivial rfl ?_
        rcases bif_some h with ⟨hd9, h⟩ | ⟨hd9, h⟩
        · obtain ⟨hg10, h⟩ := grd_some h
          refine Tri.run 2 [.g true] [.keep [1, 6, 25, 26, 27] [1101]] (K' := [.code [(2, 0), (1, 0), (0, 0), (2, 0), (0, 0), (1, 0)] 0, .code [(2, 0), (1, 0), (0, 0), (2, 0), (0, 0)] 2, .blk 1, .code [(2, 0), (1, 0), (0, 0)] 3]) (σ' := ⟨[(1, .list (.rats a1)), (6, .sub 1101 0 0 v7.toNat), (25, .sl 1101 0), (26, .int .i64 (v6.length : Int)), (27, .int .i64 v7)], [(1101, .arr 22 0 0 (.intss v6))]⟩) rfl ⟨hg10, hd9, trivial⟩ rfl ?_
          obtain ⟨v8, hk11, h⟩ := bind_some h
          obtain ⟨⟨v9, v10, v11⟩, hk12, h⟩ := bind_some h
          rcases bif_some h with ⟨hd13, h⟩ | ⟨hd13, h⟩
          · refine Tri.run 2 [.r ⟨[], .sl 1102 0, [(1102, .arr 29 0 0 (.rats v8))]⟩, .r ⟨[], .tuple [.agg [.int .i64 v9, .int .i64 v10], .bool v11], []⟩, .g true] [.keep [1, 25, 26, 27, 44] [1101]] (K' := [.code [(2, 0), (1, 0), (0, 0), (2, 0), (0, 0)] 3, .blk 1, .code [(2, 0), (1, 0), (0, 0)] 3]) (σ' := ⟨[(1, .list (.rats a1)), (25, .sl 1101 0), (26, .int .i64 (v6.length : Int)), (27, .int .i64 v7), (44, .bool true)], [(1101, .arr 22 0 0 (.intss v6))]⟩) rfl ⟨hd13, (w_impl_DotRat v8 a1 (v9, v10, v11) hk12), ((w_impl_rats (v6.getD v7.toNat []) v8 hk11).swap 1000 1102), trivial⟩ rfl ?_
            refine Tri.run 2 [.g true] [.keep [4] []] (K' := [.code [(2, 0), (1, 0), (0, 0), (2, 0), (0, 0), (3, 0)] 1, .blk 1, .code [(2, 0), (1, 0), (0, 0)] 3]) (σ' := ⟨[(4, .bool false)], []⟩) rfl ⟨rfl, trivial⟩ rfl ?_
            have h := Option.some.inj h
            subst h
            exact Tri.ret rfl ⟨nofun, rfl, rfl, rfl⟩
          · obtain ⟨⟨v12, v13⟩, hk14, h⟩ := bind_some h
            refine Tri.run 2 [.r ⟨[], .sl 1102 0, [(1102, .arr 29 0 0 (.rats v8))]⟩, .r ⟨[], .tuple [.agg [.int .i64 v9, .int .i64 v10], .bool v11], []⟩, .g false, .r ⟨[], .agg [.int .i64 v12, .int .i64 v13], []⟩] [.keep [1, 25, 26, 27, 44] [1101]] (K' := [.code [(2, 0), (1, 0), (0, 0), (2, 0), (0, 0)] 3, .blk 1, .code [(2, 0), (1, 0), (0, 0)] 3]) (σ' := ⟨[(1, .list (.rats a1)), (25, .sl 1101 0), (26, .int .i64 (v6.length : Int)), (27, .int .i64 v7), (44, .bool (!(v9 == v12 && v10 == v13)))], [(1101, .arr 22 0 0 (.intss v6))]⟩) rfl ⟨(w_impl_whole (1 : Int) (v12, v13) hk14), hd13, (w_impl_DotRat v8 a1 (v9, v10, v11) hk12), ((w_impl_rats (v6.getD v7.toNat []) v8 hk11).swap 1000 1102), trivial⟩ rfl ?_
            rcases bif_some h with ⟨hd15, h⟩ | ⟨hd15, h⟩
            · refine Tri.run 2 [.g true] [.keep [4] []] (K' := [.code [(2, 0), (1, 0), (0, 0), (2, 0), (0, 0), (3, 0)] 1, .blk 1, .code [(2, 0), (1, 0), (0, 0)] 3]) (σ' := ⟨[(4, .bool false)], []⟩) rfl ⟨hd15, trivial⟩ rfl ?_
              have h := Option.some.inj h
              subst h
              exact Tri.ret rfl ⟨nofun, rfl, rfl, rfl⟩
            · refine Tri.run 2 [.g false] [.keep [1, 25, 26, 27] [1101]] (K' := []) (σ' := ⟨[(1, .list (.rats a1)), (25, .sl 1101 0), (26, .int .i64 (v6.length : Int)), (27, .int .i64 (IntKind.i64.wrap (v7 + (1 : Int))))], [(1101, .arr 22 0 0 (.intss v6))]⟩) rfl ⟨hd15, trivial⟩ rfl ?_
              have h := Option.some.inj h
              subst h
              exact Tri.nil ⟨rfl, rfl⟩
        · refine Tri.run 1 [.g false] [.keep [] []] (K' := [.code [(2, 0), (1, 0), (0, 0), (1, 0), (0, 1)] 0, .code [(2, 0), (1, 0), (0, 0)] 2]) (σ' := ⟨[], []⟩) rfl ⟨hd9, trivial⟩ rfl ?_
          have h := Option.some.inj h
          subst h
          exact Tri.out 0 rfl ⟨nofun, rfl, rfl⟩
      · intro e σ' hne hq
        rcases x1 with _ | r
        · obtain ⟨rfl, rfl⟩ := hq
          refine TriX.exit (K' := [.code [] 3]) rfl ?_
          refine Tri.run 1 [] [.keep [4] []] (K' := [.code [] 4]) (σ' := ⟨[(4, .bool true)], []⟩) rfl trivial rfl ?_
          have h := Option.some.inj h
          subst h
          exact Tri.ret rfl ⟨.inl rfl, rfl, rfl⟩
        · obtain ⟨rfl, hq⟩ := hq
          have h := Option.some.inj h
          subst h
          exact TriX.ret ⟨.inl rfl, hq⟩
/-! impl.CompareRat -/
noncomputable def E103_impl_CompareRat : Env := ⟨Try.prog, tys, (Try.f103.body).getD .skip, 33, tysOk, mixedOk⟩
abbrev q_impl_CompareRat (r : Int) (σ' : ASt) : Prop := resAV E103_impl_CompareRat.T σ' Try.f103.results.toList = some (.int .i64 r) ∧ keepO σ'.ob (namesO []) = []
noncomputable def m_impl_CompareRat (a0 : Int) (a1 : Int) (a2 : Int) (a3 : Int) : Option Int :=
(m_impl_IsValidRat a0 a1).bind fun v1 =>
bif !v1 then
(some (0 : Int))
else
((m_impl_IsValidRat a2 a3).bind fun v2 =>
bif !v2 then
(some (0 : Int))
else
(bif decide ((IntKind.i64.wrap (a0 * a3)) < (IntKind.i64.wrap (a2 * a1))) then
(some (-1 : Int))
else
(bif decide ((IntKind.i64.wrap (a0 * a3)) > (IntKind.i64.wrap (a2 * a1))) then
(some (1 : Int))
else
(some (0 : Int)))))
theorem w_impl_CompareRat (a0 : Int) (a1 : Int) (a2 : Int) (a3 : Int) (r : Int) (h : m_impl_CompareRat a0 a1 a2 a3 = some r) : AM.Spec Try.prog 103 [.agg [.int .i64 a0, .int .i64 a1], .agg [.int .i64 a2, .int .i64 a3]] [] (.int .i64 r) [] := by
  refine spec_of (E := E103_impl_CompareRat) Try.func103 rfl rfl rfl rfl ?_
  refine Tri.run 1 [] [.keep [2, 3] [2, 3]] (K' := [.code [(1, 0), (0, 0)] 0, .code [(1, 0)] 1, .code [] 2]) (σ' := ⟨[(2, .ptr 2 0), (3, .ptr 3 0)], [(2, .box [.int .i64 a0, .int .i64 a1]), (3, .box [.int .i64 a2, .int .i64 a3])]⟩) rfl trivial rfl ?_
  obtain ⟨v1, hk1, h⟩ := bind_some h
  rcases bif_some h with ⟨hd2, h⟩ | ⟨hd2, h⟩
  · refine Tri.run 1 [.r ⟨[], .bool v1, []⟩, .g true] [.keep [2, 3, 14] [2, 3]] (K' := [.code [(1, 0)] 1, .code [] 2]) (σ' := ⟨[(2, .ptr 2 0), (3, .ptr 3 0), (14, .bool true)], [(2, .box [.int .i64 a0, .int .i64 a1]), (3, .box [.int .i64 a2, .int .i64 a3])]⟩) rfl ⟨hd2, (w_impl_IsValidRat a0 a1 v1 hk1), trivial⟩ rfl ?_
    refine Tri.run 2 [.g true] [.keep [4] []] (K' := [.code [(1, 0), (1, 0)] 1, .code [] 2]) (σ' := ⟨[(4, .int .i64 (0 : Int))], []⟩) rfl ⟨rfl, trivial⟩ rfl ?_
    have h := Option.some.inj h
    subst h
    exact Tri.ret rfl ⟨.inl rfl, rfl, rfl⟩
  · obtain ⟨v2, hk3, h⟩ := bind_some h
    refine Tri.run 1 [.r ⟨[], .bool v1, []⟩, .g false, .r ⟨[], .bool v2, []⟩] [.keep [2, 3, 14] [2, 3]] (K' := [.code [(1, 0)] 1, .code [] 2]) (σ' := ⟨[(2, .ptr 2 0), (3, .ptr 3 0), (14, .bool (!v2))], [(2, .box [.int .i64 a0, .int .i64 a1]), (3, .box [.int .i64 a2, .int .i64 a3])]⟩) rfl ⟨(w_impl_IsValidRat a2 a3 v2 hk3), hd2, (w_impl_IsValidRat a0 a1 v1 hk1), trivial⟩ rfl ?_
    rcases bif_some h with ⟨hd4, h⟩ | ⟨hd4, h⟩
    · refine Tri.run 2 [.g true] [.keep [4] []] (K' := [.code [(1, 0), (1, 0)] 1, .code [] 2]) (σ' := ⟨[(4, .int .i64 (0 : Int))], []⟩) rfl ⟨hd4, trivial⟩ rfl ?_
      have h := Option.some.inj h
      subst h
      exact Tri.ret rfl ⟨.inl rfl, rfl, rfl⟩
    · refine Tri.run 3 [.g false] [.keep [5, 6, 25] []] (K' := [.code [(3, 0), (0, 0)] 1, .blk 0, .code [] 4]) (σ' := ⟨[(5, .int .i64 (IntKind.i64.wrap (a0 * a3))), (6, .int .i64 (IntKind.i64.wrap (a2 * a1))), (25, .bool (decide ((IntKind.i64.wrap (a0 * a3)) < (IntKind.i64.wrap (a2 * a1)))))], []⟩) rfl ⟨hd4, trivial⟩ rfl ?_
      rcases bif_some h with ⟨hd5, h⟩ | ⟨hd5, h⟩
      · refine Tri.run 2 [.g true] [.keep [4] []] (K' := [.code [(3, 0), (0, 0), (1, 0)] 1, .blk 0, .code [] 4]) (σ' := ⟨[(4, .int .i64 (-1 : Int))], []⟩) rfl ⟨hd5, trivial⟩ rfl ?_
        have h := Option.some.inj h
        subst h
        exact Tri.ret rfl ⟨.inl rfl, rfl, rfl⟩
      · refine Tri.run 2 [.g false] [.keep [29] []] (K' := [.code [(3, 0), (0, 0), (1, 1)] 1, .blk 0, .code [] 4]) (σ' := ⟨[(29, .bool (decide ((IntKind.i64.wrap (a0 * a3)) > (IntKind.i64.wrap (a2 * a1)))))], []⟩) rfl ⟨hd5, trivial⟩ rfl ?_
        rcases bif_some h with ⟨hd6, h⟩ | ⟨hd6, h⟩
        · refine Tri.run 2 [.g true] [.keep [4] []] (K' := [.code [(3, 0), (0, 0), (1, 1), (1, 0)] 1, .blk 0, .code [] 4]) (σ' := ⟨[(4, .int .i64 (1 : Int))], []⟩) rfl ⟨hd6, trivial⟩ rfl ?_
          have h := Option.some.inj h
          subst h
          exact Tri.ret rfl ⟨.inl rfl, rfl, rfl⟩
        · refine Tri.run 2 [.g false] [.keep [4] []] (K' := [.code [] 5]) (σ' := ⟨[(4, .int .i64 (0 : Int))], []⟩) rfl ⟨hd6, trivial⟩ rfl ?_
          have h := Option.some.inj h
          subst h
          exact Tri.ret rfl ⟨.inl rfl, rfl, rfl⟩
/-! impl.CheckCore -/
noncomputable def E55_impl_CheckCore : Env := ⟨Try.prog, tys, (Try.f55.body).getD .skip, 45, tysOk, mixedOk⟩
abbrev q_impl_CheckCore (r : Bool) (σ' : ASt) : Prop := resAV E55_impl_CheckCore.T σ' Try.f55.results.toList = some (.bool r) ∧ keepO σ'.ob (namesO []) = []
noncomputable def m_impl_CheckCore (a0 : Int) (a1 : List Int) (a2 : Int) (a3 : List Q) (a4 : List Q) : Option Bool :=
(m_impl_IsValidGame a0 a1).bind fun v1 =>
bif !v1 then
(some false)
else
(bif a2 == (1 : Int) then
((m_impl_InCore a0 a1 a3).bind fun v2 =>
some v2)
else
(bif a2 == (2 : Int) then
((m_impl_IsBalancedCollection a0 a4).bind fun v3 =>
bif !v3 then
(some false)
else
(grd ((0 : Int) ≤ (1 : Int) ∧ (1 : Int) ≤ (a1.length : Int)) <|
(m_impl_rats (a1.drop (1 : Int).toNat)).bind fun v4 =>
(m_impl_DotRat a4 v4).bind fun (v5, v6, v7) =>
bif v7 then
((m_impl_GrandValue a0 a1).bind fun v8 =>
(m_impl_whole v8).bind fun (v9, v10) =>
(m_impl_CompareRat v5 v6 v9 v10).bind fun v11 =>
some (decide (v11 > (0 : Int))))
else
(some false)))
else
(some false)))
theorem w_impl_CheckCore (a0 : Int) (a1 : List Int) (a2 : Int) (a3 : List Q) (a4 : List Q) (r : Bool) (h : m_impl_CheckCore a0 a1 a2 a3 a4 = some r) : AM.Spec Try.prog 55 [.agg [.int .i64 a0, .list (.ints a1)], .agg [.int .i64 a2, .list (.rats a3), .list (.rats a4)]] [] (.bool r) [] := by
  refine spec_of (E := E55_impl_CheckCore) Try.func55 rfl rfl rfl rfl ?_
  refine Tri.run 1 [] [.keep [2, 3] [2, 3]] (K' := [.code [(1, 0), (0, 0)] 0, .code [(1, 0)] 1, .code [] 2]) (σ' := ⟨[(2, .ptr 2 0), (3, .ptr 3 0)], [(2, .box [.int .i64 a0, .list (.ints a1)]), (3, .box [.int .i64 a2, .list (.rats a3), .list (.rats a4)])]⟩) rfl trivial rfl ?_
  obtain ⟨v1, hk1, h⟩ := bind_some h
  refine Tri.run 1 [.r ⟨[], .bool v1, []⟩] [.keep [2, 3, 9] [2, 3]] (K' := [.code [(1, 0)] 1, .code [] 2]) (σ' := ⟨[(2, .ptr 2 0), (3, .ptr 3 0), (9, .bool (!v1))], [(2, .box [.int .i64 a0, .list (.ints a1)]), (3, .box [.int .i64 a2, .list (.rats a3), .list (.rats a4)])]⟩) rfl ⟨(w_impl_IsValidGame a0 a1 v1 hk1), trivial⟩ rfl ?_
  rcases bif_some h with ⟨hd2, h⟩ | ⟨hd2, h⟩
  · refine Tri.run 2 [.g true] [.keep [4] []] (K' := [.code [(1, 0), (1, 0)] 1, .code [] 2]) (σ' := ⟨[(4, .bool false)], []⟩) rfl ⟨hd2, trivial⟩ rfl ?_
    have h := Option.some.inj h
    subst h
    exact Tri.ret rfl ⟨.inl rfl, rfl, rfl⟩
  · refine Tri.run 3 [.g false] [.keep [2, 3, 11, 12] [2, 3]] (K' := [.code [(2, 0), (1, 0)] 1, .blk 0, .code [] 3]) (σ' := ⟨[(2, .ptr 2 0), (3, .ptr 3 0), (11, .int .i64 a2), (12, .bool (a2 == (1 : Int)))], [(2, .box [.int .i64 a0, .list (.ints a1)]), (3, .box [.int .i64 a2, .list (.rats a3), .list (.rats a4)])]⟩) rfl ⟨hd2, trivial⟩ rfl ?_
    rcases bif_some h with ⟨hd3, h⟩ | ⟨hd3, h⟩
    · obtain ⟨v2, hk4, h⟩ := bind_some h
      refine Tri.run 2 [.g true, .r ⟨[], .bool v2, []⟩] [.keep [4] []] (K' := [.code [(2, 0), (1, 0), (1, 0)] 1, .blk 0, .code [] 3]) (σ' := ⟨[(4, .bool v2)], []⟩) rfl ⟨(w_impl_InCore a0 a1 a3 v2 hk4), hd3, trivial⟩ rfl ?_
      have h := Option.some.inj h
      subst h
      exact Tri.ret rfl ⟨.inl rfl, rfl, rfl⟩
    · refine Tri.run 2 [.g false] [.keep [2, 3, 18] [2, 3]] (K' := [.code [(2, 0), (1, 0), (1, 1)] 1, .blk 0, .code [] 3]) (σ' := ⟨[(2, .ptr 2 0), (3, .ptr 3 0), (18, .bool (a2 == (2 : Int)))], [(2, .box [.int .i64 a0, .list (.ints a1)]), (3, .box [.int .i64 a2, .list (.rats a3), .list (.rats a4)])]⟩) rfl ⟨hd3, trivial⟩ rfl ?_
      rcases bif_some h with ⟨hd5, h⟩ | ⟨hd5, h⟩
      · obtain ⟨v3, hk6, h⟩ := bind_some h
        refine Tri.run 2 [.g true, .r ⟨[], .bool v3, []⟩] [.keep [2, 3, 25] [2, 3]] (K' := [.code [(2, 0), (1, 0), (1, 1), (1, 0), (0, 0)] 1, .code [(2, 0), (1, 0), (1, 1), (1, 0)] 1, .blk 0, .code [] 3]) (σ' := ⟨[(2, .ptr 2 0), (3, .ptr 3 0), (25, .bool (!v3))], [(2, .box [.int .i64 a0, .list (.ints a1)]), (3, .box [.int .i64 a2, .list (.rats a3), .list (.rats a4)])]⟩) rfl ⟨(w_impl_IsBalancedCollection a0 a4 v3 hk6), hd5, trivial⟩ rfl ?_
        rcases bif_some h with ⟨hd7, h⟩ | ⟨hd7, h⟩
        · refine Tri.run 2 [.g true] [.keep [4] []] (K' := [.code [(2, 0), (1, 0), (1, 1), (1, 0), (0, 0), (1, 0)] 1, .code [(2, 0), (1, 0), (1, 1), (1, 0)] 1, .blk 0, .code [] 3]) (σ' := ⟨[(4, .bool false)], []⟩) rfl ⟨hd7, trivial⟩ rfl ?_
          have h := Option.some.inj h
          subst h
          exact Tri.ret rfl ⟨.inl rfl, rfl, rfl⟩
        · obtain ⟨hg8, h⟩ := grd_some h
          obtain ⟨v4, hk9, h⟩ := bind_some h
          obtain ⟨⟨v5, v6, v7⟩, hk10, h⟩ := bind_some h
          refine Tri.run 2 [.g false, .r ⟨[], .sl 1100 0, [(1100, .arr 29 0 0 (.rats v4))]⟩, .r ⟨[], .tuple [.agg [.int .i64 v5, .int .i64 v6], .bool v7], []⟩] [.keep [2, 5, 6] [2, 5]] (K' := [.code [(2, 0), (1, 0), (1, 1), (1, 0), (2, 0)] 0, .code [(2, 0), (1, 0), (1, 1), (1, 0)] 3, .blk 0, .code [] 3]) (σ' := ⟨[(2, .ptr 2 0), (5, .ptr 5 0), (6, .bool v7)], [(2, .box [.int .i64 a0, .list (.ints a1)]), (5, .box [.int .i64 v5, .int .i64 v6])]⟩) rfl ⟨(w_impl_DotRat a4 v4 (v5, v6, v7) hk10), ((w_impl_rats (a1.drop (1 : Int).toNat) v4 hk9).swap 1000 1100), hg8, hd7, trivial⟩ rfl ?_
          rcases bif_some h with ⟨hd11, h⟩ | ⟨hd11, h⟩
          · obtain ⟨v8, hk12, h⟩ := bind_some h
            obtain ⟨⟨v9, v10⟩, hk13, h⟩ := bind_some h
            obtain ⟨v11, hk14, h⟩ := bind_some h
            refine Tri.run 1 [.g true, .r ⟨[], .int .i64 v8, []⟩, .r ⟨[], .agg [.int .i64 v9, .int .i64 v10], []⟩, .r ⟨[], .int .i64 v11, []⟩] [.keep [4] []] (K' := [.code [(2, 0), (1, 0), (1, 1), (1, 0)] 3, .blk 0, .code [] 3]) (σ' := ⟨[(4, .bool (decide (v11 > (0 : Int))))], []⟩) rfl ⟨(w_impl_CompareRat v5 v6 v9 v10 v11 hk14), (w_impl_whole v8 (v9, v10) hk13), (w_impl_GrandValue a0 a1 v8 hk12), hd11, trivial⟩ rfl ?_
            have h := Option.some.inj h
            subst h
            exact Tri.ret rfl ⟨.inl rfl, rfl, rfl⟩
          · refine Tri.run 1 [.g false] [.keep [4] []] (K' := [.code [(2, 0), (1, 0), (1, 1), (1, 0)] 3, .blk 0, .code [] 3]) (σ' := ⟨[(4, .bool false)], []⟩) rfl ⟨hd11, trivial⟩ rfl ?_
            have h := Option.some.inj h
            subst h
            exact Tri.ret rfl ⟨.inl rfl, rfl, rfl⟩
      · refine Tri.run 2 [.g false] [.keep [4] []] (K' := [.code [] 4]) (σ' := ⟨[(4, .bool false)], []⟩) rfl ⟨hd5, trivial⟩ rfl ?_
        have h := Option.some.inj h
        subst h
        exact Tri.ret rfl ⟨.inl rfl, rfl, rfl⟩
/-! laws.eqIntS -/
noncomputable def E49_laws_eqIntS : Env := ⟨Try.prog, tys, (Try.f49.body).getD .skip, 26, tysOk, mixedOk⟩
abbrev q_laws_eqIntS (r : Bool) (σ' : ASt) : Prop := resAV E49_laws_eqIntS.T σ' Try.f49.results.toList = some (.bool r) ∧ keepO σ'.ob (namesO []) = []
noncomputable def l_laws_eqIntS_0 (a0 : List Int) (a1 : List Int) (v1 : Int) : Option (Int ⊕ (Unit ⊕ Bool)) :=
bif decide (v1 < (a0.length : Int)) then
(grd ((0 : Int) ≤ v1 ∧ v1 < (a0.length : Int)) <|
grd ((0 : Int) ≤ v1 ∧ v1 < (a1.length : Int)) <|
bif (a0.getD v1.toNat 0) != (a1.getD v1.toNat 0) then
(some (.inr (.inr false)))
else
(some (.inl (IntKind.i64.wrap (v1 + (1 : Int))))))
else
(some (.inr (.inl ())))
noncomputable def m_laws_eqIntS (a0 : List Int) (a1 : List Int) : Option Bool :=
bif (a0.length : Int) != (a1.length : Int) then
(some false)
else
((iter (l_laws_eqIntS_0 a0 a1) (0 : Int)).bind fun
| (.inl _) => (
some true)
| (.inr r) => some r)
theorem w_laws_eqIntS (a0 : List Int) (a1 : List Int) (r : Bool) (h : m_laws_eqIntS a0 a1 = some r) : AM.Spec Try.prog 49 [.list (.ints a0), .list (.ints a1)] [] (.bool r) [] := by
  refine spec_of (E := E49_laws_eqIntS) Try.func49 rfl rfl rfl rfl ?_
  refine Tri.run 2 [] [.keep [0, 1, 10] []] (K' := [.code [(1, 0)] 1, .code [] 2]) (σ' := ⟨[(0, .list (.ints a0)), (1, .list (.ints a1)), (10, .bool ((a0.length : Int) != (a1.length : Int)))], []⟩) rfl trivial rfl ?_
  rcases bif_some h with ⟨hd1, h⟩ | ⟨hd1, h⟩
  · refine Tri.run 2 [.g true] [.keep [4] []] (K' := [.code [(1, 0), (1, 0)] 1, .code [] 2]) (σ' := ⟨[(4, .bool false)], []⟩) rfl ⟨hd1, trivial⟩ rfl ?_
    have h := Option.some.inj h
    subst h
    exact Tri.ret rfl ⟨.inl rfl, rfl, rfl⟩
  · refine Tri.run 2 [.g false] [.keep [0, 1, 5] []] (K' := [.code [(2, 0), (1, 0)] 0, .blk 0, .code [] 3]) (σ' := ⟨[(0, .list (.ints a0)), (1, .list (.ints a1)), (5, .int .i64 (0 : Int))], []⟩) rfl ⟨hd1, trivial⟩ rfl ?_
    obtain ⟨x1, hk6, h⟩ := bind_some h
    refine Tri.loop (K1 := [.code [(2, 0), (1, 0), (0, 0)] 0]) (K2 := [.blk 0, .code [] 3]) (fun v1 => ⟨[(0, .list (.ints a0)), (1, .list (.ints a1)), (5, .int .i64 v1)], []⟩) (fun x e σ' => match x with | (.inl _) => e = .exit 0 ∧ σ' = ⟨[], []⟩ | (.inr r) => e = .ret ∧ q_laws_eqIntS r σ') hk6 rfl rfl ?_ ?_
    · intro v1 x hs
      clear h
      have h := hs
      clear hs
      refine Tri.run 1 [] [.keep [0, 1, 5, 14] []] (K' := [.code [(2, 0), (1, 0), (0, 0), (0, 0)] 1, .code [(2, 0), (1, 0), (0, 0)] 1]) (σ' := ⟨[(0, .list (.ints a0)), (1, .list (.ints a1)), (5, .int .i64 v1), (14, .bool (decide (v1 < (a0.length : Int))))], []⟩) rfl trivial rfl ?_
      rcases bif_some h with ⟨hd2, h⟩ | ⟨hd2, h⟩
      · obtain ⟨hg3, h⟩ := grd_some h
        obtain ⟨hg4, h⟩ := grd_some h
        refine Tri.run 2 [.g true] [.keep [0, 1, 5, 25] []] (K' := [.code [(2, 0), (1, 0), (0, 0), (1, 0), (0, 0)] 1, .blk 1, .code [(2, 0), (1, 0), (0, 0)] 2]) (σ' := ⟨[(0, .list (.ints a0)), (1, .list (.ints a1)), (5, .int .i64 v1), (25, .bool ((a0.getD v1.toNat 0) != (a1.getD v1.toNat 0)))], []⟩) rfl ⟨hg4, hg3, hd2, trivial⟩ rfl ?_
        rcases bif_some h with ⟨hd5, h⟩ | ⟨hd5, h⟩
        · refine Tri.run 2 [.g true] [.keep [4] []] (K' := [.code [(2, 0), (1, 0), (0, 0), (1, 0), (0, 0), (1, 0)] 1, .blk 1, .code [(2, 0), (1, 0), (0, 0)] 2]) (σ' := ⟨[(4, .bool false)], []⟩) rfl ⟨hd5, trivial⟩ rfl ?_
          have h := Option.some.inj h
          subst h
          exact Tri.ret rfl ⟨nofun, rfl, rfl, rfl⟩
        · refine Tri.run 2 [.g false] [.keep [0, 1, 5] []] (K' := []) (σ' := ⟨[(0, .list (.ints a0)), (1, .list (.ints a1)), (5, .int .i64 (IntKind.i64.wrap (v1 + (1 : Int))))], []⟩) rfl ⟨hd5, trivial⟩ rfl ?_
          have h := Option.some.inj h
          subst h
          exact Tri.nil ⟨rfl, rfl⟩
      · refine Tri.run 1 [.g false] [.keep [] []] (K' := [.code [(2, 0), (1, 0), (0, 0), (0, 0), (1, 1)] 0, .code [(2, 0), (1, 0), (0, 0)] 1]) (σ' := ⟨[], []⟩) rfl ⟨hd2, trivial⟩ rfl ?_
        have h := Option.some.inj h
        subst h
        exact Tri.out 0 rfl ⟨nofun, rfl, rfl⟩
    · intro e σ' hne hq
      rcases x1 with _ | r
      · obtain ⟨rfl, rfl⟩ := hq
        refine TriX.exit (K' := [.code [] 3]) rfl ?_
        refine Tri.run 1 [] [.keep [4] []] (K' := [.code [] 4]) (σ' := ⟨[(4, .bool true)], []⟩) rfl trivial rfl ?_
        have h := Option.some.inj h
        subst h
        exact Tri.ret rfl ⟨.inl rfl, rfl, rfl⟩
      · obtain ⟨rfl, hq⟩ := hq
        have h := Option.some.inj h
        subst h
        exact TriX.ret ⟨.inl rfl, hq⟩
/-! laws.eqGame -/
noncomputable def E22_laws_eqGame : Env := ⟨Try.prog, tys, (Try.f22.body).getD .skip, 16, tysOk, mixedOk⟩
abbrev q_laws_eqGame (r : Bool) (σ' : ASt) : Prop := resAV E22_laws_eqGame.T σ' Try.f22.results.toList = some (.bool r) ∧ keepO σ'.ob (namesO []) = []
noncomputable def m_laws_eqGame (a0 : Int) (a1 : List Int) (a2 : Int) (a3 : List Int) : Option Bool :=
bif a0 != a2 then
(some false)
else
((m_laws_eqIntS a1 a3).bind fun v1 =>
bif !v1 then
(some false)
else
(some true))
theorem w_laws_eqGame (a0 : Int) (a1 : List Int) (a2 : Int) (a3 : List Int) (r : Bool) (h : m_laws_eqGame a0 a1 a2 a3 = some r) : AM.Spec Try.prog 22 [.agg [.int .i64 a0, .list (.ints a1)], .agg [.int .i64 a2, .list (.ints a3)]] [] (.bool r) [] := by
  refine spec_of (E := E22_laws_eqGame) Try.func22 rfl rfl rfl rfl ?_
  refine Tri.run 2 [] [.keep [2, 3, 9] [2, 3]] (K' := [.code [(1, 0)] 1, .code [] 2]) (σ' := ⟨[(2, .ptr 2 0), (3, .ptr 3 0), (9, .bool (a0 != a2))], [(2, .box [.int .i64 a0, .list (.ints a1)]), (3, .box [.int .i64 a2, .list (.ints a3)])]⟩) rfl trivial rfl ?_
  rcases bif_some h with ⟨hd1, h⟩ | ⟨hd1, h⟩
  · refine Tri.run 2 [.g true] [.keep [4] []] (K' := [.code [(1, 0), (1, 0)] 1, .code [] 2]) (σ' := ⟨[(4, .bool false)], []⟩) rfl ⟨hd1, trivial⟩ rfl ?_
    have h := Option.some.inj h
    subst h
    exact Tri.ret rfl ⟨.inl rfl, rfl, rfl⟩
  · obtain ⟨v1, hk2, h⟩ := bind_some h
    refine Tri.run 2 [.g false, .r ⟨[], .bool v1, []⟩] [.keep [15] []] (K' := [.code [(2, 0)] 1, .code [] 3]) (σ' := ⟨[(15, .bool (!v1))], []⟩) rfl ⟨(w_laws_eqIntS a1 a3 v1 hk2), hd1, trivial⟩ rfl ?_
    rcases bif_some h with ⟨hd3, h⟩ | ⟨hd3, h⟩
    · refine Tri.run 2 [.g true] [.keep [4] []] (K' := [.code [(2, 0), (1, 0)] 1, .code [] 3]) (σ' := ⟨[(4, .bool false)], []⟩) rfl ⟨hd3, trivial⟩ rfl ?_
      have h := Option.some.inj h
      subst h
      exact Tri.ret rfl ⟨.inl rfl, rfl, rfl⟩
    · refine Tri.run 2 [.g false] [.keep [4] []] (K' := [.code [] 4]) (σ' := ⟨[(4, .bool true)], []⟩) rfl ⟨hd3, trivial⟩ rfl ?_
      have h := Option.some.inj h
      subst h
      exact Tri.ret rfl ⟨.inl rfl, rfl, rfl⟩
/-! laws.eqRat -/
noncomputable def E21_laws_eqRat : Env := ⟨Try.prog, tys, (Try.f21.body).getD .skip, 15, tysOk, mixedOk⟩
abbrev q_laws_eqRat (r : Bool) (σ' : ASt) : Prop := resAV E21_laws_eqRat.T σ' Try.f21.results.toList = some (.bool r) ∧ keepO σ'.ob (namesO []) = []
noncomputable def m_laws_eqRat (a0 : Int) (a1 : Int) (a2 : Int) (a3 : Int) : Option Bool :=
bif a0 != a2 then
(some false)
else
(bif a1 != a3 then
(some false)
else
(some true))
theorem w_laws_eqRat (a0 : Int) (a1 : Int) (a2 : Int) (a3 : Int) (r : Bool) (h : m_laws_eqRat a0 a1 a2 a3 = some r) : AM.Spec Try.prog 21 [.agg [.int .i64 a0, .int .i64 a1], .agg [.int .i64 a2, .int .i64 a3]] [] (.bool r) [] := by
  refine spec_of (E := E21_laws_eqRat) Try.func21 rfl rfl rfl rfl ?_
  refine Tri.run 2 [] [.keep [2, 3, 9] [2, 3]] (K' := [.code [(1, 0)] 1, .code [] 2]) (σ' := ⟨[(2, .ptr 2 0), (3, .ptr 3 0), (9, .bool (a0 != a2))], [(2, .box [.int .i64 a0, .int .i64 a1]), (3, .box [.int .i64 a2, .int .i64 a3])]⟩) rfl trivial rfl ?_
  rcases bif_some h with ⟨hd1, h⟩ | ⟨hd1, h⟩
  · refine Tri.run 2 [.g true] [.keep [4] []] (K' := [.code [(1, 0), (1, 0)] 1, .code [] 2]) (σ' := ⟨[(4, .bool false)], []⟩) rfl ⟨hd1, trivial⟩ rfl ?_
    have h := Option.some.inj h
    subst h
    exact Tri.ret rfl ⟨.inl rfl, rfl, rfl⟩
  · refine Tri.run 2 [.g false] [.keep [14] []] (K' := [.code [(2, 0)] 1, .code [] 3]) (σ' := ⟨[(14, .bool (a1 != a3))], []⟩) rfl ⟨hd1, trivial⟩ rfl ?_
    rcases bif_some h with ⟨hd2, h⟩ | ⟨hd2, h⟩
    · refine Tri.run 2 [.g true] [.keep [4] []] (K' := [.code [(2, 0), (1, 0)] 1, .code [] 3]) (σ' := ⟨[(4, .bool false)], []⟩) rfl ⟨hd2, trivial⟩ rfl ?_
      have h := Option.some.inj h
      subst h
      exact Tri.ret rfl ⟨.inl rfl, rfl, rfl⟩
    · refine Tri.run 2 [.g false] [.keep [4] []] (K' := [.code [] 4]) (σ' := ⟨[(4, .bool true)], []⟩) rfl ⟨hd2, trivial⟩ rfl ?_
      have h := Option.some.inj h
      subst h
      exact Tri.ret rfl ⟨.inl rfl, rfl, rfl⟩
/-! laws.eqRatS -/
noncomputable def E23_laws_eqRatS : Env := ⟨Try.prog, tys, (Try.f23.body).getD .skip, 27, tysOk, mixedOk⟩
abbrev q_laws_eqRatS (r : Bool) (σ' : ASt) : Prop := resAV E23_laws_eqRatS.T σ' Try.f23.results.toList = some (.bool r) ∧ keepO σ'.ob (namesO []) = []
noncomputable def l_laws_eqRatS_0 (a0 : List Q) (a1 : List Q) (v1 : Int) : Option (Int ⊕ (Unit ⊕ Bool)) :=
bif decide (v1 < (a0.length : Int)) then
(grd ((0 : Int) ≤ v1 ∧ v1 < (a0.length : Int)) <|
grd ((0 : Int) ≤ v1 ∧ v1 < (a1.length : Int)) <|
(m_laws_eqRat ((a0.getD v1.toNat ⟨0, 0⟩).num) ((a0.getD v1.toNat ⟨0, 0⟩).den) ((a1.getD v1.toNat ⟨0, 0⟩).num) ((a1.getD v1.toNat ⟨0, 0⟩).den)).bind fun v2 =>
bif !v2 then
(some (.inr (.inr false)))
else
(some (.inl (IntKind.i64.wrap (v1 + (1 : Int))))))
else
(some (.inr (.inl ())))
noncomputable def m_laws_eqRatS (a0 : List Q) (a1 : List Q) : Option Bool :=
bif (a0.length : Int) != (a1.length : Int) then
(some false)
else
((iter (l_laws_eqRatS_0 a0 a1) (0 : Int)).bind fun
| (.inl _) => (
some true)
| (.inr r) => some r)
theorem w_laws_eqRatS (a0 : List Q) (a1 : List Q) (r : Bool) (h : m_laws_eqRatS a0 a1 = some r) : AM.Spec Try.prog 23 [.list (.rats a0), .list (.rats a1)] [] (.bool r) [] := by
  refine spec_of (E := E23_laws_eqRatS) Try.func23 rfl rfl rfl rfl ?_
  refine Tri.run 2 [] [.keep [0, 1, 10] []] (K' := [.code [(1, 0)] 1, .code [] 2]) (σ' := ⟨[(0, .list (.rats a0)), (1, .list (.rats a1)), (10, .bool ((a0.length : Int) != (a1.length : Int)))], []⟩) rfl trivial rfl ?_
  rcases bif_some h with ⟨hd1, h⟩ | ⟨hd1, h⟩
  · refine Tri.run 2 [.g true] [.keep [4] []] (K' := [.code [(1, 0), (1, 0)] 1, .code [] 2]) (σ' := ⟨[(4, .bool false)], []⟩) rfl ⟨hd1, trivial⟩ rfl ?_
    have h := Option.some.inj h
    subst h
    exact Tri.ret rfl ⟨.inl rfl, rfl, rfl⟩
  · refine Tri.run 2 [.g false] [.keep [0, 1, 5] []] (K' := [.code [(2, 0), (1, 0)] 0, .blk 0, .code [] 3]) (σ' := ⟨[(0, .list (.rats a0)), (1, .list (.rats a1)), (5, .int .i64 (0 : Int))], []⟩) rfl ⟨hd1, trivial⟩ rfl ?_
    obtain ⟨x1, hk7, h⟩ := bind_some h
    refine Tri.loop (K1 := [.code [(2, 0), (1, 0), (0, 0)] 0]) (K2 := [.blk 0, .code [] 3]) (fun v1 => ⟨[(0, .list (.rats a0)), (1, .list (.rats a1)), (5, .int .i64 v1)], []⟩) (fun x e σ' => match x with | (.inl _) => e = .exit 0 ∧ σ' = ⟨[], []⟩ | (.inr r) => e = .ret ∧ q_laws_eqRatS r σ') hk7 rfl rfl ?_ ?_
    · intro v1 x hs
      clear h
      have h := hs
      clear hs
      refine Tri.run 1 [] [.keep [0, 1, 5, 14] []] (K' := [.code [(2, 0), (1, 0), (0, 0), (0, 0)] 1, .code [(2, 0), (1, 0), (0, 0)] 1]) (σ' := ⟨[(0, .list (.rats a0)), (1, .list (.rats a1)), (5, .int .i64 v1), (14, .bool (decide (v1 < (a0.length : Int))))], []⟩) rfl trivial rfl ?_
      rcases bif_some h with ⟨hd2, h⟩ | ⟨hd2, h⟩
      · obtain ⟨hg3, h⟩ := grd_some h
        obtain ⟨hg4, h⟩ := grd_some h
        obtain ⟨v2, hk5, h⟩ := bind_some h
        refine Tri.run 2 [.g true, .r ⟨[], .bool v2, []⟩] [.keep [0, 1, 5, 26] []] (K' := [.code [(2, 0), (1, 0), (0, 0), (1, 0), (0, 0)] 1, .blk 1, .code [(2, 0), (1, 0), (0, 0)] 2]) (σ' := ⟨[(0, .list (.rats a0)), (1, .list (.rats a1)), (5, .int .i64 v1), (26, .bool (!v2))], []⟩) rfl ⟨(w_laws_eqRat ((a0.getD v1.toNat ⟨0, 0⟩).num) ((a0.getD v1.toNat ⟨0, 0⟩).den) ((a1.getD v1.toNat ⟨0, 0⟩).num) ((a1.getD v1.toNat ⟨0, 0⟩).den) v2 hk5), hg4, hg3, hd2, trivial⟩ rfl ?_
        rcases bif_some h with ⟨hd6, h⟩ | ⟨hd6, h⟩
        · refine Tri.run 2 [.g true] [.keep [4] []] (K' := [.code [(2, 0), (1, 0), (0, 0), (1, 0), (0, 0), (1, 0)] 1, .blk 1, .code [(2, 0), (1, 0), (0, 0)] 2]) (σ' := ⟨[(4, .bool false)], []⟩) rfl ⟨hd6, trivial⟩ rfl ?_
          have h := Option.some.inj h
          subst h
          exact Tri.ret rfl ⟨nofun, rfl, rfl, rfl⟩
        · refine Tri.run 2 [.g false] [.keep [0, 1, 5] []] (K' := []) (σ' := ⟨[(0, .list (.rats a0)), (1, .list (.rats a1)), (5, .int .i64 (IntKind.i64.wrap (v1 + (1 : Int))))], []⟩) rfl ⟨hd6, trivial⟩ rfl ?_
          have h := Option.some.inj h
          subst h
          exact Tri.nil ⟨rfl, rfl⟩
      · refine Tri.run 1 [.g false] [.keep [] []] (K' := [.code [(2, 0), (1, 0), (0, 0), (0, 0), (1, 1)] 0, .code [(2, 0), (1, 0), (0, 0)] 1]) (σ' := ⟨[], []⟩) rfl ⟨hd2, trivial⟩ rfl ?_
        have h := Option.some.inj h
        subst h
        exact Tri.out 0 rfl ⟨nofun, rfl, rfl⟩
    · intro e σ' hne hq
      rcases x1 with _ | r
      · obtain ⟨rfl, rfl⟩ := hq
        refine TriX.exit (K' := [.code [] 3]) rfl ?_
        refine Tri.run 1 [] [.keep [4] []] (K' := [.code [] 4]) (σ' := ⟨[(4, .bool true)], []⟩) rfl trivial rfl ?_
        have h := Option.some.inj h
        subst h
        exact Tri.ret rfl ⟨.inl rfl, rfl, rfl⟩
      · obtain ⟨rfl, hq⟩ := hq
        have h := Option.some.inj h
        subst h
        exact TriX.ret ⟨.inl rfl, hq⟩
/-! laws.eqCoreResult -/
noncomputable def E56_laws_eqCoreResult : Env := ⟨Try.prog, tys, (Try.f56.body).getD .skip, 22, tysOk, mixedOk⟩
abbrev q_laws_eqCoreResult (r : Bool) (σ' : ASt) : Prop := resAV E56_laws_eqCoreResult.T σ' Try.f56.results.toList = some (.bool r) ∧ keepO σ'.ob (namesO []) = []
noncomputable def m_laws_eqCoreResult (a0 : Int) (a1 : List Q) (a2 : List Q) (a3 : Int) (a4 : List Q) (a5 : List Q) : Option Bool :=
bif a0 != a3 then
(some false)
else
((m_laws_eqRatS a1 a4).bind fun v1 =>
bif !v1 then
(some false)
else
((m_laws_eqRatS a2 a5).bind fun v2 =>
bif !v2 then
(some false)
else
(some true)))
theorem w_laws_eqCoreResult (a0 : Int) (a1 : List Q) (a2 : List Q) (a3 : Int) (a4 : List Q) (a5 : List Q) (r : Bool) (h : m_laws_eqCoreResult a0 a1 a2 a3 a4 a5 = some r) : AM.Spec Try.prog 56 [.agg [.int .i64 a0, .list (.rats a1), .list (.rats a2)], .agg [.int .i64 a3, .list (.rats a4), .list (.rats a5)]] [] (.bool r) [] := by
  refine spec_of (E := E56_laws_eqCoreResult) Try.func56 rfl rfl rfl rfl ?_
  refine Tri.run 2 [] [.keep [2, 3, 9] [2, 3]] (K' := [.code [(1, 0)] 1, .code [] 2]) (σ' := ⟨[(2, .ptr 2 0), (3, .ptr 3 0), (9, .bool (a0 != a3))], [(2, .box [.int .i64 a0, .list (.rats a1), .list (.rats a2)]), (3, .box [.int .i64 a3, .list (.rats a4), .list (.rats a5)])]⟩) rfl trivial rfl ?_
  rcases bif_some h with ⟨hd1, h⟩ | ⟨hd1, h⟩
  · refine Tri.run 2 [.g true] [.keep [4] []] (K' := [.code [(1, 0), (1, 0)] 1, .code [] 2]) (σ' := ⟨[(4, .bool false)], []⟩) rfl ⟨hd1, trivial⟩ rfl ?_
    have h := Option.some.inj h
    subst h
    exact Tri.ret rfl ⟨.inl rfl, rfl, rfl⟩
  · obtain ⟨v1, hk2, h⟩ := bind_some h
    refine Tri.run 2 [.g false, .r ⟨[], .bool v1, []⟩] [.keep [2, 3, 15] [2, 3]] (K' := [.code [(2, 0)] 1, .code [] 3]) (σ' := ⟨[(2, .ptr 2 0), (3, .ptr 3 0), (15, .bool (!v1))], [(2, .box [.int .i64 a0, .list (.rats a1), .list (.rats a2)]), (3, .box [.int .i64 a3, .list (.rats a4), .list (.rats a5)])]⟩) rfl ⟨(w_laws_eqRatS a1 a4 v1 hk2), hd1, trivial⟩ rfl ?_
    rcases bif_some h with ⟨hd3, h⟩ | ⟨hd3, h⟩
    · refine Tri.run 2 [.g true] [.keep [4] []] (K' := [.code [(2, 0), (1, 0)] 1, .code [] 3]) (σ' := ⟨[(4, .bool false)], []⟩) rfl ⟨hd3, trivial⟩ rfl ?_
      have h := Option.some.inj h
      subst h
      exact Tri.ret rfl ⟨.inl rfl, rfl, rfl⟩
    · obtain ⟨v2, hk4, h⟩ := bind_some h
      refine Tri.run 2 [.g false, .r ⟨[], .bool v2, []⟩] [.keep [21] []] (K' := [.code [(3, 0)] 1, .code [] 4]) (σ' := ⟨[(21, .bool (!v2))], []⟩) rfl ⟨(w_laws_eqRatS a2 a5 v2 hk4), hd3, trivial⟩ rfl ?_
      rcases bif_some h with ⟨hd5, h⟩ | ⟨hd5, h⟩
      · refine Tri.run 2 [.g true] [.keep [4] []] (K' := [.code [(3, 0), (1, 0)] 1, .code [] 4]) (σ' := ⟨[(4, .bool false)], []⟩) rfl ⟨hd5, trivial⟩ rfl ?_
        have h := Option.some.inj h
        subst h
        exact Tri.ret rfl ⟨.inl rfl, rfl, rfl⟩
      · refine Tri.run 2 [.g false] [.keep [4] []] (K' := [.code [] 5]) (σ' := ⟨[(4, .bool true)], []⟩) rfl ⟨hd5, trivial⟩ rfl ?_
        have h := Option.some.inj h
        subst h
        exact Tri.ret rfl ⟨.inl rfl, rfl, rfl⟩
/-! laws.FnExactCheckCore -/
noncomputable def E12_laws_FnExactCheckCore : Env := ⟨Try.prog, tys, (Try.f12.body).getD .skip, 45, tysOk, mixedOk⟩
abbrev q_laws_FnExactCheckCore (r : Bool) (σ' : ASt) : Prop := resAV E12_laws_FnExactCheckCore.T σ' Try.f12.results.toList = some (.bool r) ∧ keepO σ'.ob (namesO []) = []
noncomputable def m_laws_FnExactCheckCore (a0 : Int) (a1 : List Int) (a2 : Int) (a3 : List Q) (a4 : List Q) : Option Bool :=
(m_laws_szGame a0 a1 (1048576 : Int)).bind fun v1 =>
bif decide (v1 < (0 : Int)) then
(some true)
else
((m_laws_szCoreResult a2 a3 a4 v1).bind fun v2 =>
bif decide (v2 < (0 : Int)) then
(some true)
else
((m_laws_toGame a0 a1).bind fun (v3, v4) =>
(m_laws_toCoreResult a2 a3 a4).bind fun (v5, v6, v7) =>
(m_spec_CheckCore v3 v4 v5 v6 v7).bind fun v8 =>
(m_laws_toGame a0 a1).bind fun (v9, v10) =>
(m_laws_toCoreResult a2 a3 a4).bind fun (v11, v12, v13) =>
(m_impl_CheckCore v9 v10 v11 v12 v13).bind fun v14 =>
bif v14 != v8 then
(some false)
else
((m_laws_toGame a0 a1).bind fun (v15, v16) =>
(m_laws_eqGame v9 v10 v15 v16).bind fun v17 =>
bif !v17 then
(some false)
else
((m_laws_toCoreResult a2 a3 a4).bind fun (v18, v19, v20) =>
(m_laws_eqCoreResult v11 v12 v13 v18 v19 v20).bind fun v21 =>
bif !v21 then
(some false)
else
(some true)))))
theorem w_laws_FnExactCheckCore (a0 : Int) (a1 : List Int) (a2 : Int) (a3 : List Q) (a4 : List Q) (r : Bool) (h : m_laws_FnExactCheckCore a0 a1 a2 a3 a4 = some r) : AM.Spec Try.prog 12 [.agg [.int .i64 a0, .list (.ints a1)], .agg [.int .i64 a2, .list (.rats a3), .list (.rats a4)]] [] (.bool r) [] := by
  refine spec_of (E := E12_laws_FnExactCheckCore) Try.func12 rfl rfl rfl rfl ?_
  refine Tri.run 2 [] [.keep [2, 3, 5] [2, 3]] (K' := [.code [(2, 0)] 0, .code [] 3]) (σ' := ⟨[(2, .ptr 2 0), (3, .ptr 3 0), (5, .int .i64 (1048576 : Int))], [(2, .box [.int .i64 a0, .list (.ints a1)]), (3, .box [.int .i64 a2, .list (.rats a3), .list (.rats a4)])]⟩) rfl trivial rfl ?_
  obtain ⟨v1, hk1, h⟩ := bind_some h
  refine Tri.run 2 [.r ⟨[], .int .i64 v1, []⟩] [.keep [2, 3, 5, 14] [2, 3]] (K' := [.code [(3, 0)] 1, .code [] 4]) (σ' := ⟨[(2, .ptr 2 0), (3, .ptr 3 0), (5, .int .i64 v1), (14, .bool (decide (v1 < (0 : Int))))], [(2, .box [.int .i64 a0, .list (.ints a1)]), (3, .box [.int .i64 a2, .list (.rats a3), .list (.rats a4)])]⟩) rfl ⟨(w_laws_szGame a0 a1 (1048576 : Int) v1 hk1), trivial⟩ rfl ?_
  rcases bif_some h with ⟨hd2, h⟩ | ⟨hd2, h⟩
  · refine Tri.run 2 [.g true] [.keep [4] []] (K' := [.code [(3, 0), (1, 0)] 1, .code [] 4]) (σ' := ⟨[(4, .bool true)], []⟩) rfl ⟨hd2, trivial⟩ rfl ?_
    have h := Option.some.inj h
    subst h
    exact Tri.ret rfl ⟨.inl rfl, rfl, rfl⟩
  · obtain ⟨v2, hk3, h⟩ := bind_some h
    refine Tri.run 3 [.g false, .r ⟨[], .int .i64 v2, []⟩] [.keep [2, 3, 19] [2, 3]] (K' := [.code [(5, 0)] 1, .code [] 6]) (σ' := ⟨[(2, .ptr 2 0), (3, .ptr 3 0), (19, .bool (decide (v2 < (0 : Int))))], [(2, .box [.int .i64 a0, .list (.ints a1)]), (3, .box [.int .i64 a2, .list (.rats a3), .list (.rats a4)])]⟩) rfl ⟨(w_laws_szCoreResult a2 a3 a4 v1 v2 hk3), hd2, trivial⟩ rfl ?_
    rcases bif_some h with ⟨hd4, h⟩ | ⟨hd4, h⟩
    · refine Tri.run 2 [.g true] [.keep [4] []] (K' := [.code [(5, 0), (1, 0)] 1, .code [] 6]) (σ' := ⟨[(4, .bool true)], []⟩) rfl ⟨hd4, trivial⟩ rfl ?_
      have h := Option.some.inj h
      subst h
      exact Tri.ret rfl ⟨.inl rfl, rfl, rfl⟩
    · obtain ⟨⟨v3, v4⟩, hk5, h⟩ := bind_some h
      obtain ⟨⟨v5, v6, v7⟩, hk6, h⟩ := bind_some h
      obtain ⟨v8, hk7, h⟩ := bind_some h
      refine Tri.run 2 [.g false, .r ⟨[], .agg [.int .i64 v3, .sl 1100 0], [(1100, .arr 3 0 0 (.ints v4))]⟩, .r ⟨[], .agg [.int .i64 v5, .sl 1101 0, .sl 1102 0], [(1101, .arr 29 0 0 (.rats v6)), (1102, .arr 29 0 0 (.rats v7))]⟩, .r ⟨[], .bool v8, []⟩] [.keep [2, 3, 6] [2, 3]] (K' := [.code [(7, 0)] 0, .code [] 8]) (σ' := ⟨[(2, .ptr 2 0), (3, .ptr 3 0), (6, .bool v8)], [(2, .box [.int .i64 a0, .list (.ints a1)]), (3, .box [.int .i64 a2, .list (.rats a3), .list (.rats a4)])]⟩) rfl ⟨(w_spec_CheckCore v3 v4 v5 v6 v7 v8 hk7), (((w_laws_toCoreResult a2 a3 a4 (v5, v6, v7) hk6).swap 1000 1101).swap 1001 1102), ((w_laws_toGame a0 a1 (v3, v4) hk5).swap 1000 1100), hd4, trivial⟩ rfl ?_
      obtain ⟨⟨v9, v10⟩, hk8, h⟩ := bind_some h
      obtain ⟨⟨v11, v12, v13⟩, hk9, h⟩ := bind_some h
      refine Tri.run 2 [.r ⟨[], .agg [.int .i64 v9, .sl 1103 0], [(1103, .arr 3 0 0 (.ints v10))]⟩, .r ⟨[], .agg [.int .i64 v11, .sl 1104 0, .sl 1105 0], [(1104, .arr 29 0 0 (.rats v12)), (1105, .arr 29 0 0 (.rats v13))]⟩] [.keep [2, 3, 6, 7, 8] [2, 3, 7, 8, 1103, 1104, 1105]] (K' := [.code [(9, 0)] 0, .code [] 10]) (σ' := ⟨[(2, .ptr 2 0), (3, .ptr 3 0), (6, .bool v8), (7, .ptr 7 0), (8, .ptr 8 0)], [(2, .box [.int .i64 a0, .list (.ints a1)]), (3, .box [.int .i64 a2, .list (.rats a3), .list (.rats a4)]), (7, .box [.int .i64 v9, .sl 1103 0]), (8, .box [.int .i64 v11, .sl 1104 0, .sl 1105 0]), (1103, .arr 3 0 0 (.ints v10)), (1104, .arr 29 0 0 (.rats v12)), (1105, .arr 29 0 0 (.rats v13))]⟩) rfl ⟨(((w_laws_toCoreResult a2 a3 a4 (v11, v12, v13) hk9).swap 1000 1104).swap 1001 1105), ((w_laws_toGame a0 a1 (v9, v10) hk8).swap 1000 1103), trivial⟩ rfl ?_
      obtain ⟨v14, hk10, h⟩ := bind_some h
      refine Tri.run 2 [.r ⟨[], .bool v14, []⟩] [.keep [2, 3, 7, 8, 34] [2, 3, 7, 8, 1103, 1104, 1105]] (K' := [.code [(10, 0)] 1, .code [] 11]) (σ' := ⟨[(2, .ptr 2 0), (3, .ptr 3 0), (7, .ptr 7 0), (8, .ptr 8 0), (34, .bool (v14 != v8))], [(2, .box [.int .i64 a0, .list (.ints a1)]), (3, .box [.int .i64 a2, .list (.rats a3), .list (.rats a4)]), (7, .box [.int .i64 v9, .sl 1103 0]), (8, .box [.int .i64 v11, .sl 1104 0, .sl 1105 0]), (1103, .arr 3 0 0 (.ints v10)), (1104, .arr 29 0 0 (.rats v12)), (1105, .arr 29 0 0 (.rats v13))]⟩) rfl ⟨(w_impl_CheckCore v9 v10 v11 v12 v13 v14 hk10), trivial⟩ rfl ?_
      rcases bif_some h with ⟨hd11, h⟩ | ⟨hd11, h⟩
      · refine Tri.run 2 [.g true] [.keep [4] []] (K' := [.code [(10, 0), (1, 0)] 1, .code [] 11]) (σ' := ⟨[(4, .bool false)], []⟩) rfl ⟨hd11, trivial⟩ rfl ?_
        have h := Option.some.inj h
        subst h
        exact Tri.ret rfl ⟨.inl rfl, rfl, rfl⟩
      · obtain ⟨⟨v15, v16⟩, hk12, h⟩ := bind_some h
        obtain ⟨v17, hk13, h⟩ := bind_some h
        refine Tri.run 2 [.g false, .r ⟨[], .agg [.int .i64 v15, .sl 1106 0], [(1106, .arr 3 0 0 (.ints v16))]⟩, .r ⟨[], .bool v17, []⟩] [.keep [3, 8, 39] [3, 8, 1104, 1105]] (K' := [.code [(11, 0)] 1, .code [] 12]) (σ' := ⟨[(3, .ptr 3 0), (8, .ptr 8 0), (39, .bool (!v17))], [(3, .box [.int .i64 a2, .list (.rats a3), .list (.rats a4)]), (8, .box [.int .i64 v11, .sl 1104 0, .sl 1105 0]), (1104, .arr 29 0 0 (.rats v12)), (1105, .arr 29 0 0 (.rats v13))]⟩) rfl ⟨(w_laws_eqGame v9 v10 v15 v16 v17 hk13), ((w_laws_toGame a0 a1 (v15, v16) hk12).swap 1000 1106), hd11, trivial⟩ rfl ?_
        rcases bif_some h with ⟨hd14, h⟩ | ⟨hd14, h⟩
        · refine Tri.run 2 [.g true] [.keep [4] []] (K' := [.code [(11, 0), (1, 0)] 1, .code [] 12]) (σ' := ⟨[(4, .bool false)], []⟩) rfl ⟨hd14, trivial⟩ rfl ?_
          have h := Option.some.inj h
          subst h
          exact Tri.ret rfl ⟨.inl rfl, rfl, rfl⟩
        · obtain ⟨⟨v18, v19, v20⟩, hk15, h⟩ := bind_some h
          obtain ⟨v21, hk16, h⟩ := bind_some h
          refine Tri.run 2 [.g false, .r ⟨[], .agg [.int .i64 v18, .sl 1107 0, .sl 1108 0], [(1107, .arr 29 0 0 (.rats v19)), (1108, .arr 29 0 0 (.rats v20))]⟩, .r ⟨[], .bool v21, []⟩] [.keep [44] []] (K' := [.code [(12, 0)] 1, .code [] 13]) (σ' := ⟨[(44, .bool (!v21))], []⟩) rfl ⟨(w_laws_eqCoreResult v11 v12 v13 v18 v19 v20 v21 hk16), (((w_laws_toCoreResult a2 a3 a4 (v18, v19, v20) hk15).swap 1000 1107).swap 1001 1108), hd14, trivial⟩ rfl ?_
          rcases bif_some h with ⟨hd17, h⟩ | ⟨hd17, h⟩
          · refine Tri.run 2 [.g true] [.keep [4] []] (K' := [.code [(12, 0), (1, 0)] 1, .code [] 13]) (σ' := ⟨[(4, .bool false)], []⟩) rfl ⟨hd17, trivial⟩ rfl ?_
            have h := Option.some.inj h
            subst h
            exact Tri.ret rfl ⟨.inl rfl, rfl, rfl⟩
          · refine Tri.run 2 [.g false] [.keep [4] []] (K' := [.code [] 14]) (σ' := ⟨[(4, .bool true)], []⟩) rfl ⟨hd17, trivial⟩ rfl ?_
            have h := Option.some.inj h
            subst h
            exact Tri.ret rfl ⟨.inl rfl, rfl, rfl⟩
end Go.Proofs.Ytoefgmmmcpikfaa
