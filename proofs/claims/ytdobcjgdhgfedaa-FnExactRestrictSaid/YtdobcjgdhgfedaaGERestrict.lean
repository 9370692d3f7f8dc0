/- models and walks -/
import Derived.Test.YtdobcjgdhgfedaaProg
import Derived.Test.YtdobcjgdhgfedaaAmB
namespace Go.Proofs.Ytdobcjgdhgfedaa
open Go.AM
set_option maxRecDepth 100000
set_option maxHeartbeats 4000000
noncomputable def tys : TEnv := [(3, .int .i64),
  (4, .bool),
  (22, .slice 3 (.ints [])),
  (24, .struct [(0, 3), (1, 22)] [.int .i64 0, .nil (.ints [])] false),
  (28, .struct [(0, 3), (1, 22)] [.int .i64 0, .nil (.ints [])] false)]
theorem tysOk : TOk Try.prog tys := tok_of (by kernel_rfl)
theorem mixedOk : Try.prog.follows .mixedOrders = true := by kernel_rfl
/-! laws.szIntS -/
noncomputable def E54_laws_szIntS : Env := ⟨Try.prog, tys, (Try.f54.body).getD .skip, 12, tysOk, mixedOk⟩
abbrev q_laws_szIntS (r : Int) (σ' : ASt) : Prop := resAV E54_laws_szIntS.T σ' Try.f54.results.toList = some (.int .i64 r) ∧ keepO σ'.ob (namesO []) = []
noncomputable def m_laws_szIntS (a0 : List Int) (a1 : Int) : Option Int :=
bif decide ((IntKind.i64.wrap (a1 - (a0.length : Int))) < (0 : Int)) then
(some (-1 : Int))
else
(some (IntKind.i64.wrap (a1 - (a0.length : Int))))
theorem w_laws_szIntS (a0 : List Int) (a1 : Int) (r : Int) (h : m_laws_szIntS a0 a1 = some r) : AM.Spec Try.prog 54 [.list (.ints a0), .int .i64 a1] [] (.int .i64 r) [] := by
  refine spec_of (E := E54_laws_szIntS) Try.func54 rfl rfl rfl rfl ?_
  refine Tri.run 3 [] [.keep [1, 10] []] (K' := [.code [(2, 0)] 1, .code [] 3]) (σ' := ⟨[(1, .int .i64 (IntKind.i64.wrap (a1 - (a0.length : Int)))), (10, .bool (decide ((IntKind.i64.wrap (a1 - (a0.length : Int))) < (0 : Int))))], []⟩) rfl trivial rfl ?_
  rcases bif_some h with ⟨hd1, h⟩ | ⟨hd1, h⟩
  · refine Tri.run 2 [.g true] [.keep [4] []] (K' := [.code [(2, 0), (1, 0)] 1, .code [] 3]) (σ' := ⟨[(4, .int .i64 (-1 : Int))], []⟩) rfl ⟨hd1, trivial⟩ rfl ?_
    have h := Option.some.inj h
    subst h
    exact Tri.ret rfl ⟨.inl rfl, rfl, rfl⟩
  · refine Tri.run 2 [.g false] [.keep [4] []] (K' := [.code [] 4]) (σ' := ⟨[(4, .int .i64 (IntKind.i64.wrap (a1 - (a0.length : Int))))], []⟩) rfl ⟨hd1, trivial⟩ rfl ?_
    have h := Option.some.inj h
    subst h
    exact Tri.ret rfl ⟨.inl rfl, rfl, rfl⟩
/-! laws.szGame -/
noncomputable def E15_laws_szGame : Env := ⟨Try.prog, tys, (Try.f15.body).getD .skip, 12, tysOk, mixedOk⟩
abbrev q_laws_szGame (r : Int) (σ' : ASt) : Prop := resAV E15_laws_szGame.T σ' Try.f15.results.toList = some (.int .i64 r) ∧ keepO σ'.ob (namesO []) = []
noncomputable def m_laws_szGame (_a0 : Int) (a1 : List Int) (a2 : Int) : Option Int :=
(m_laws_szIntS a1 a2).bind fun v1 =>
bif decide (v1 < (0 : Int)) then
(some (-1 : Int))
else
(some v1)
theorem w_laws_szGame (a0 : Int) (a1 : List Int) (a2 : Int) (r : Int) (h : m_laws_szGame a0 a1 a2 = some r) : AM.Spec Try.prog 15 [.agg [.int .i64 a0, .list (.ints a1)], .int .i64 a2] [] (.int .i64 r) [] := by
  refine spec_of (E := E15_laws_szGame) Try.func15 rfl rfl rfl rfl ?_
  refine Tri.run 1 [] [.keep [1, 2] [2]] (K' := [.code [(1, 0)] 0, .code [] 2]) (σ' := ⟨[(1, .int .i64 a2), (2, .ptr 2 0)], [(2, .box [.int .i64 a0, .list (.ints a1)])]⟩) rfl trivial rfl ?_
  obtain ⟨v1, hk1, h⟩ := bind_some h
  refine Tri.run 2 [.r ⟨[], .int .i64 v1, []⟩] [.keep [1, 10] []] (K' := [.code [(2, 0)] 1, .code [] 3]) (σ' := ⟨[(1, .int .i64 v1), (10, .bool (decide (v1 < (0 : Int))))], []⟩) rfl ⟨(w_laws_szIntS a1 a2 v1 hk1), trivial⟩ rfl ?_
  rcases bif_some h with ⟨hd2, h⟩ | ⟨hd2, h⟩
  · refine Tri.run 2 [.g true] [.keep [4] []] (K' := [.code [(2, 0), (1, 0)] 1, .code [] 3]) (σ' := ⟨[(4, .int .i64 (-1 : Int))], []⟩) rfl ⟨hd2, trivial⟩ rfl ?_
    have h := Option.some.inj h
    subst h
    exact Tri.ret rfl ⟨.inl rfl, rfl, rfl⟩
  · refine Tri.run 2 [.g false] [.keep [4] []] (K' := [.code [] 4]) (σ' := ⟨[(4, .int .i64 v1)], []⟩) rfl ⟨hd2, trivial⟩ rfl ?_
    have h := Option.some.inj h
    subst h
    exact Tri.ret rfl ⟨.inl rfl, rfl, rfl⟩
/-! laws.toIntS -/
noncomputable def E31_laws_toIntS : Env := ⟨Try.prog, tys, (Try.f31.body).getD .skip, 22, tysOk, mixedOk⟩
abbrev q_laws_toIntS (r : List Int) (σ' : ASt) : Prop := resAV E31_laws_toIntS.T σ' Try.f31.results.toList = some (.sl 1000 0) ∧ keepO σ'.ob (namesO [(1000, .arr 3 0 0 (.ints r))]) = [(1000, .arr 3 0 0 (.ints r))]
noncomputable def l_laws_toIntS_0 (a0 : List Int) : (Int × (List Int)) → Option ((Int × (List Int)) ⊕ ((List Int)))
  | (v1, v2) => (
bif decide (v1 < (a0.length : Int)) then
(grd ((0 : Int) ≤ v1 ∧ v1 < (a0.length : Int)) <|
grd ((0 : Int) ≤ v1 ∧ v1 < (v2.length : Int)) <|
some (.inl (IntKind.i64.wrap (v1 + (1 : Int)), v2.set v1.toNat (a0.getD v1.toNat 0))))
else
(some (.inr v2)))
noncomputable def m_laws_toIntS (a0 : List Int) : Option (List Int) :=
grd ((0 : Int) ≤ (a0.length : Int) ∧ (a0.length : Int) = (a0.length : Int) ∧ (a0.length : Int) ≤ (room : Int)) <|
(iter (l_laws_toIntS_0 a0) ((0 : Int), List.replicate (a0.length : Int).toNat (0 : Int))).bind fun
| v3 => (
some v3)
theorem w_laws_toIntS (a0 : List Int) (r : List Int) (h : m_laws_toIntS a0 = some r) : AM.Spec Try.prog 31 [.list (.ints a0)] [] (.sl 1000 0) [(1000, .arr 3 0 0 (.ints r))] := by
  refine spec_of (E := E31_laws_toIntS) Try.func31 rfl rfl rfl rfl ?_
  obtain ⟨hg1, h⟩ := grd_some h
  refine Tri.run 3 [] [.keep [0, 3, 4] [7]] (K' := [.code [(2, 0), (1, 0)] 0, .blk 0, .code [] 3]) (σ' := ⟨[(0, .list (.ints a0)), (3, .sl 7 0), (4, .int .i64 (0 : Int))], [(7, .arr 3 0 0 (.ints (List.replicate (a0.length : Int).toNat (0 : Int))))]⟩) rfl ⟨hg1, trivial⟩ rfl ?_
  obtain ⟨v3, hk5, h⟩ := bind_some h
  refine Tri.loop (K1 := [.code [(2, 0), (1, 0), (0, 0)] 0]) (K2 := [.blk 0, .code [] 3]) (fun (v1, v2) => ⟨[(0, .list (.ints a0)), (3, .sl 7 0), (4, .int .i64 v1)], [(7, .arr 3 0 0 (.ints v2))]⟩) (fun x e σ' => match x with | v3 => e = .exit 0 ∧ σ' = ⟨[(3, .sl 7 0)], [(7, .arr 3 0 0 (.ints v3))]⟩) hk5 rfl rfl ?_ ?_
  · intro s x hs
    clear h
    have h := hs
    clear hs
    obtain ⟨v1, v2⟩ := s
    refine Tri.run 1 [] [.keep [0, 3, 4, 11] [7]] (K' := [.code [(2, 0), (1, 0), (0, 0), (0, 0)] 1, .code [(2, 0), (1, 0), (0, 0)] 1]) (σ' := ⟨[(0, .list (.ints a0)), (3, .sl 7 0), (4, .int .i64 v1), (11, .bool (decide (v1 < (a0.length : Int))))], [(7, .arr 3 0 0 (.ints v2))]⟩) rfl trivial rfl ?_
    rcases bif_some h with ⟨hd2, h⟩ | ⟨hd2, h⟩
    · obtain ⟨hg3, h⟩ := grd_some h
      obtain ⟨hg4, h⟩ := grd_some h
      refine Tri.run 3 [.g true] [.keep [0, 3, 4] [7]] (K' := []) (σ' := ⟨[(0, .list (.ints a0)), (3, .sl 7 0), (4, .int .i64 (IntKind.i64.wrap (v1 + (1 : Int))))], [(7, .arr 3 0 0 (.ints (v2.set v1.toNat (a0.getD v1.toNat 0))))]⟩) rfl ⟨hg4, hg3, hd2, trivial⟩ rfl ?_
      have h := Option.some.inj h
      subst h
      exact Tri.nil ⟨rfl, rfl⟩
    · refine Tri.run 1 [.g false] [.keep [3] [7]] (K' := [.code [(2, 0), (1, 0), (0, 0), (0, 0), (1, 1)] 0, .code [(2, 0), (1, 0), (0, 0)] 1]) (σ' := ⟨[(3, .sl 7 0)], [(7, .arr 3 0 0 (.ints v2))]⟩) rfl ⟨hd2, trivial⟩ rfl ?_
      have h := Option.some.inj h
      subst h
      exact Tri.out 0 rfl ⟨nofun, rfl, rfl⟩
  · intro e σ' hne hq
    obtain ⟨rfl, rfl⟩ := hq
    refine TriX.exit (K' := [.code [] 3]) rfl ?_
    refine Tri.run 1 [] [.swap 7 1000, .keep [2] [1000]] (K' := [.code [] 4]) (σ' := ⟨[(2, .sl 1000 0)], [(1000, .arr 3 0 0 (.ints v3))]⟩) rfl trivial rfl ?_
    have h := Option.some.inj h
    subst h
    exact Tri.ret rfl ⟨.inl rfl, rfl, rfl⟩
/-! laws.toGame -/
noncomputable def E17_laws_toGame : Env := ⟨Try.prog, tys, (Try.f17.body).getD .skip, 12, tysOk, mixedOk⟩
abbrev q_laws_toGame (r : Int × (List Int)) (σ' : ASt) : Prop := resAV E17_laws_toGame.T σ' Try.f17.results.toList = some (.agg [.int .i64 r.1, .sl 1000 0]) ∧ keepO σ'.ob (namesO [(1000, .arr 3 0 0 (.ints r.2))]) = [(1000, .arr 3 0 0 (.ints r.2))]
noncomputable def m_laws_toGame (a0 : Int) (a1 : List Int) : Option (Int × (List Int)) :=
(m_laws_toIntS a1).bind fun v1 =>
some (a0, v1)
theorem w_laws_toGame (a0 : Int) (a1 : List Int) (r : Int × (List Int)) (h : m_laws_toGame a0 a1 = some r) : AM.Spec Try.prog 17 [.agg [.int .i64 a0, .list (.ints a1)]] [] (.agg [.int .i64 r.1, .sl 1000 0]) [(1000, .arr 3 0 0 (.ints r.2))] := by
  refine spec_of (E := E17_laws_toGame) Try.func17 rfl rfl rfl rfl ?_
  refine Tri.run 3 [] [.keep [1, 2, 3] [1, 2, 3]] (K' := [.code [(3, 0)] 0, .code [] 4]) (σ' := ⟨[(1, .ptr 1 0), (2, .ptr 2 0), (3, .ptr 3 0)], [(1, .box [.int .i64 a0, .list (.ints a1)]), (2, .box [.int .i64 0, .nil (.ints [])]), (3, .box [.int .i64 a0, .nil (.ints [])])]⟩) rfl trivial rfl ?_
  obtain ⟨v1, hk1, h⟩ := bind_some h
  refine Tri.run 2 [.r ⟨[], .sl 1100 0, [(1100, .arr 3 0 0 (.ints v1))]⟩] [.swap 1100 1000, .keep [2] [2, 1000]] (K' := [.code [] 5]) (σ' := ⟨[(2, .ptr 2 0)], [(2, .box [.int .i64 a0, .sl 1000 0]), (1000, .arr 3 0 0 (.ints v1))]⟩) rfl ⟨((w_laws_toIntS a1 v1 hk1).swap 1000 1100), trivial⟩ rfl ?_
  have h := Option.some.inj h
  subst h
  exact Tri.ret rfl ⟨.inl rfl, rfl, rfl⟩
/-! spec.l1In -/
noncomputable def E62_spec_l1In : Env := ⟨Try.prog, tys, (Try.f62.body).getD .skip, 15, tysOk, mixedOk⟩
abbrev q_spec_l1In (r : Bool) (σ' : ASt) : Prop := resAV E62_spec_l1In.T σ' Try.f62.results.toList = some (.bool r) ∧ keepO σ'.ob (namesO []) = []
noncomputable def m_spec_l1In (a0 : Int) (a1 : Int) (a2 : Int) : Option Bool :=
bif decide (a0 ≥ a1) then
(some (decide (a0 ≤ a2)))
else
(some false)
theorem w_spec_l1In (a0 : Int) (a1 : Int) (a2 : Int) (r : Bool) (h : m_spec_l1In a0 a1 a2 = some r) : AM.Spec Try.prog 62 [.int .i64 a0, .int .i64 a1, .int .i64 a2] [] (.bool r) [] := by
  refine spec_of (E := E62_spec_l1In) Try.func62 rfl rfl rfl rfl ?_
  refine Tri.run 1 [] [.keep [0, 1, 2] []] (K' := [.code [(1, 0)] 0, .code [] 2]) (σ' := ⟨[(0, .int .i64 a0), (1, .int .i64 a1), (2, .int .i64 a2)], []⟩) rfl trivial rfl ?_
  rcases bif_some h with ⟨hd1, h⟩ | ⟨hd1, h⟩
  · refine Tri.run 1 [.g true] [.keep [6] []] (K' := [.code [] 2]) (σ' := ⟨[(6, .bool (decide (a0 ≤ a2)))], []⟩) rfl ⟨hd1, trivial⟩ rfl ?_
    have h := Option.some.inj h
    subst h
    exact Tri.ret rfl ⟨.inl rfl, rfl, rfl⟩
  · refine Tri.run 1 [.g false] [.keep [6] []] (K' := [.code [] 2]) (σ' := ⟨[(6, .bool false)], []⟩) rfl ⟨hd1, trivial⟩ rfl ?_
    have h := Option.some.inj h
    subst h
    exact Tri.ret rfl ⟨.inl rfl, rfl, rfl⟩
/-! spec.CountCoalitions -/
noncomputable def E63_spec_CountCoalitions : Env := ⟨Try.prog, tys, (Try.f63.body).getD .skip, 16, tysOk, mixedOk⟩
abbrev q_spec_CountCoalitions (r : Int) (σ' : ASt) : Prop := resAV E63_spec_CountCoalitions.T σ' Try.f63.results.toList = some (.int .i64 r) ∧ keepO σ'.ob (namesO []) = []
noncomputable def l_spec_CountCoalitions_0 (a0 : Int) : (Int × Int) → Option ((Int × Int) ⊕ Int)
  | (v2, v3) => (
bif decide (v3 < a0) then
(some (.inl (IntKind.i64.wrap (v2 * (2 : Int)), IntKind.i64.wrap (v3 + (1 : Int)))))
else
(some (.inr v2)))
noncomputable def m_spec_CountCoalitions (a0 : Int) : Option Int :=
(m_spec_l1In a0 (0 : Int) (5 : Int)).bind fun v1 =>
bif !v1 then
(some (0 : Int))
else
((iter (l_spec_CountCoalitions_0 a0) ((1 : Int), (0 : Int))).bind fun
| v4 => (
some v4))
theorem w_spec_CountCoalitions (a0 : Int) (r : Int) (h : m_spec_CountCoalitions a0 = some r) : AM.Spec Try.prog 63 [.int .i64 a0] [] (.int .i64 r) [] := by
  refine spec_of (E := E63_spec_CountCoalitions) Try.func63 rfl rfl rfl rfl ?_
  refine Tri.run 1 [] [.keep [0] []] (K' := [.code [(1, 0), (0, 0)] 0, .code [(1, 0)] 1, .code [] 2]) (σ' := ⟨[(0, .int .i64 a0)], []⟩) rfl trivial rfl ?_
  obtain ⟨v1, hk1, h⟩ := bind_some h
  refine Tri.run 1 [.r ⟨[], .bool v1, []⟩] [.keep [0, 7] []] (K' := [.code [(1, 0)] 1, .code [] 2]) (σ' := ⟨[(0, .int .i64 a0), (7, .bool (!v1))], []⟩) rfl ⟨(w_spec_l1In a0 (0 : Int) (5 : Int) v1 hk1), trivial⟩ rfl ?_
  rcases bif_some h with ⟨hd2, h⟩ | ⟨hd2, h⟩
  · refine Tri.run 2 [.g true] [.keep [2] []] (K' := [.code [(1, 0), (1, 0)] 1, .code [] 2]) (σ' := ⟨[(2, .int .i64 (0 : Int))], []⟩) rfl ⟨hd2, trivial⟩ rfl ?_
    have h := Option.some.inj h
    subst h
    exact Tri.ret rfl ⟨.inl rfl, rfl, rfl⟩
  · refine Tri.run 3 [.g false] [.keep [0, 3, 4] []] (K' := [.code [(3, 0), (1, 0)] 0, .blk 0, .code [] 4]) (σ' := ⟨[(0, .int .i64 a0), (3, .int .i64 (1 : Int)), (4, .int .i64 (0 : Int))], []⟩) rfl ⟨hd2, trivial⟩ rfl ?_
    obtain ⟨v4, hk4, h⟩ := bind_some h
    refine Tri.loop (K1 := [.code [(3, 0), (1, 0), (0, 0)] 0]) (K2 := [.blk 0, .code [] 4]) (fun (v2, v3) => ⟨[(0, .int .i64 a0), (3, .int .i64 v2), (4, .int .i64 v3)], []⟩) (fun x e σ' => match x with | v4 => e = .exit 0 ∧ σ' = ⟨[(3, .int .i64 v4)], []⟩) hk4 rfl rfl ?_ ?_
    · intro s x hs
      clear h
      have h := hs
      clear hs
      obtain ⟨v2, v3⟩ := s
      refine Tri.run 1 [] [.keep [0, 3, 4, 10] []] (K' := [.code [(3, 0), (1, 0), (0, 0), (0, 0)] 1, .code [(3, 0), (1, 0), (0, 0)] 1]) (σ' := ⟨[(0, .int .i64 a0), (3, .int .i64 v2), (4, .int .i64 v3), (10, .bool (decide (v3 < a0)))], []⟩) rfl trivial rfl ?_
      rcases bif_some h with ⟨hd3, h⟩ | ⟨hd3, h⟩
      · refine Tri.run 3 [.g true] [.keep [0, 3, 4] []] (K' := []) (σ' := ⟨[(0, .int .i64 a0), (3, .int .i64 (IntKind.i64.wrap (v2 * (2 : Int)))), (4, .int .i64 (IntKind.i64.wrap (v3 + (1 : Int))))], []⟩) rfl ⟨hd3, trivial⟩ rfl ?_
        have h := Option.some.inj h
        subst h
        exact Tri.nil ⟨rfl, rfl⟩
      · refine Tri.run 1 [.g false] [.keep [3] []] (K' := [.code [(3, 0), (1, 0), (0, 0), (0, 0), (1, 1)] 0, .code [(3, 0), (1, 0), (0, 0)] 1]) (σ' := ⟨[(3, .int .i64 v2)], []⟩) rfl ⟨hd3, trivial⟩ rfl ?_
        have h := Option.some.inj h
        subst h
        exact Tri.out 0 rfl ⟨nofun, rfl, rfl⟩
    · intro e σ' hne hq
      obtain ⟨rfl, rfl⟩ := hq
      refine TriX.exit (K' := [.code [] 4]) rfl ?_
      refine Tri.run 1 [] [.keep [2] []] (K' := [.code [] 5]) (σ' := ⟨[(2, .int .i64 v4)], []⟩) rfl trivial rfl ?_
      have h := Option.some.inj h
      subst h
      exact Tri.ret rfl ⟨.inl rfl, rfl, rfl⟩
/-! spec.IsValidGame -/
noncomputable def E65_spec_IsValidGame : Env := ⟨Try.prog, tys, (Try.f65.body).getD .skip, 37, tysOk, mixedOk⟩
abbrev q_spec_IsValidGame (r : Bool) (σ' : ASt) : Prop := resAV E65_spec_IsValidGame.T σ' Try.f65.results.toList = some (.bool r) ∧ keepO σ'.ob (namesO []) = []
noncomputable def l_spec_IsValidGame_0 (a1 : List Int) (v1 : Int) : Option (Int ⊕ (Unit ⊕ Bool)) :=
bif decide (v1 < (a1.length : Int)) then
(grd ((0 : Int) ≤ v1 ∧ v1 < (a1.length : Int)) <|
(m_spec_l1In (a1.getD v1.toNat 0) (-500 : Int) (500 : Int)).bind fun v2 =>
bif !v2 then
(some (.inr (.inr false)))
else
(some (.inl (IntKind.i64.wrap (v1 + (1 : Int))))))
else
(some (.inr (.inl ())))
noncomputable def m_spec_IsValidGame (a0 : Int) (a1 : List Int) : Option Bool :=
(iter (l_spec_IsValidGame_0 a1) (0 : Int)).bind fun
| (.inl _) => (
(m_spec_l1In a0 (1 : Int) (5 : Int)).bind fun v3 =>
bif v3 then
((m_spec_CountCoalitions a0).bind fun v4 =>
bif (a1.length : Int) == v4 then
(grd ((0 : Int) ≤ (0 : Int) ∧ (0 : Int) < (a1.length : Int)) <|
some ((a1.getD ((0 : Int).toNat) 0) == (0 : Int)))
else
(some false))
else
(some false))
| (.inr r) => some r
theorem w_spec_IsValidGame (a0 : Int) (a1 : List Int) (r : Bool) (h : m_spec_IsValidGame a0 a1 = some r) : AM.Spec Try.prog 65 [.agg [.int .i64 a0, .list (.ints a1)]] [] (.bool r) [] := by
  refine spec_of (E := E65_spec_IsValidGame) Try.func65 rfl rfl rfl rfl ?_
  refine Tri.run 2 [] [.keep [1, 3] [1]] (K' := [.code [(1, 0), (1, 0)] 0, .blk 0, .code [] 2]) (σ' := ⟨[(1, .ptr 1 0), (3, .int .i64 (0 : Int))], [(1, .box [.int .i64 a0, .list (.ints a1)])]⟩) rfl trivial rfl ?_
  obtain ⟨x1, hk5, h⟩ := bind_some h
  refine Tri.loop (K1 := [.code [(1, 0), (1, 0), (0, 0)] 0]) (K2 := [.blk 0, .code [] 2]) (fun v1 => ⟨[(1, .ptr 1 0), (3, .int .i64 v1)], [(1, .box [.int .i64 a0, .list (.ints a1)])]⟩) (fun x e σ' => match x with | (.inl _) => e = .exit 0 ∧ σ' = ⟨[(1, .ptr 1 0)], [(1, .box [.int .i64 a0, .list (.ints a1)])]⟩ | (.inr r) => e = .ret ∧ q_spec_IsValidGame r σ') hk5 rfl rfl ?_ ?_
  · intro v1 x hs
    clear h
    have h := hs
    clear hs
    refine Tri.run 1 [] [.keep [1, 3, 8] [1]] (K' := [.code [(1, 0), (1, 0), (0, 0), (0, 0)] 1, .code [(1, 0), (1, 0), (0, 0)] 1]) (σ' := ⟨[(1, .ptr 1 0), (3, .int .i64 v1), (8, .bool (decide (v1 < (a1.length : Int))))], [(1, .box [.int .i64 a0, .list (.ints a1)])]⟩) rfl trivial rfl ?_
    rcases bif_some h with ⟨hd1, h⟩ | ⟨hd1, h⟩
    · obtain ⟨hg2, h⟩ := grd_some h
      obtain ⟨v2, hk3, h⟩ := bind_some h
      refine Tri.run 2 [.g true, .r ⟨[], .bool v2, []⟩] [.keep [1, 3, 17] [1]] (K' := [.code [(1, 0), (1, 0), (0, 0), (1, 0), (0, 0)] 1, .blk 1, .code [(1, 0), (1, 0), (0, 0)] 2]) (σ' := ⟨[(1, .ptr 1 0), (3, .int .i64 v1), (17, .bool (!v2))], [(1, .box [.int .i64 a0, .list (.ints a1)])]⟩) rfl ⟨(w_spec_l1In (a1.getD v1.toNat 0) (-500 : Int) (500 : Int) v2 hk3), hg2, hd1, trivial⟩ rfl ?_
      rcases bif_some h with ⟨hd4, h⟩ | ⟨hd4, h⟩
      · refine Tri.run 2 [.g true] [.keep [2] []] (K' := [.code [(1, 0), (1, 0), (0, 0), (1, 0), (0, 0), (1, 0)] 1, .blk 1, .code [(1, 0), (1, 0), (0, 0)] 2]) (σ' := ⟨[(2, .bool false)], []⟩) rfl ⟨hd4, trivial⟩ rfl ?_
        have h := Option.some.inj h
        subst h
        exact Tri.ret rfl ⟨nofun, rfl, rfl, rfl⟩
      · refine Tri.run 2 [.g false] [.keep [1, 3] [1]] (K' := []) (σ' := ⟨[(1, .ptr 1 0), (3, .int .i64 (IntKind.i64.wrap (v1 + (1 : Int))))], [(1, .box [.int .i64 a0, .list (.ints a1)])]⟩) rfl ⟨hd4, trivial⟩ rfl ?_
        have h := Option.some.inj h
        subst h
        exact Tri.nil ⟨rfl, rfl⟩
    · refine Tri.run 1 [.g false] [.keep [1] [1]] (K' := [.code [(1, 0), (1, 0), (0, 0), (0, 0), (1, 1)] 0, .code [(1, 0), (1, 0), (0, 0)] 1]) (σ' := ⟨[(1, .ptr 1 0)], [(1, .box [.int .i64 a0, .list (.ints a1)])]⟩) rfl ⟨hd1, trivial⟩ rfl ?_
      have h := Option.some.inj h
      subst h
      exact Tri.out 0 rfl ⟨nofun, rfl, rfl⟩
  · intro e σ' hne hq
    rcases x1 with _ | r
    · obtain ⟨rfl, rfl⟩ := hq
      refine TriX.exit (K' := [.code [] 2]) rfl ?_
      obtain ⟨v3, hk6, h⟩ := bind_some h
      rcases bif_some h with ⟨hd7, h⟩ | ⟨hd7, h⟩
      · obtain ⟨v4, hk8, h⟩ := bind_some h
        rcases bif_some h with ⟨hd9, h⟩ | ⟨hd9, h⟩
        · obtain ⟨hg10, h⟩ := grd_some h
          refine Tri.run 1 [.r ⟨[], .bool v3, []⟩, .g true, .r ⟨[], .int .i64 v4, []⟩, .g true] [.keep [2] []] (K' := [.code [] 3]) (σ' := ⟨[(2, .bool ((a1.getD ((0 : Int).toNat) 0) == (0 : Int)))], []⟩) rfl ⟨hg10, hd9, (w_spec_CountCoalitions a0 v4 hk8), hd7, (w_spec_l1In a0 (1 : Int) (5 : Int) v3 hk6), trivial⟩ rfl ?_
          have h := Option.some.inj h
          subst h
          exact Tri.ret rfl ⟨.inl rfl, rfl, rfl⟩
        · refine Tri.run 1 [.r ⟨[], .bool v3, []⟩, .g true, .r ⟨[], .int .i64 v4, []⟩, .g false] [.keep [2] []] (K' := [.code [] 3]) (σ' := ⟨[(2, .bool false)], []⟩) rfl ⟨hd9, (w_spec_CountCoalitions a0 v4 hk8), hd7, (w_spec_l1In a0 (1 : Int) (5 : Int) v3 hk6), trivial⟩ rfl ?_
          have h := Option.some.inj h
          subst h
          exact Tri.ret rfl ⟨.inl rfl, rfl, rfl⟩
      · refine Tri.run 1 [.r ⟨[], .bool v3, []⟩, .g false, .g false] [.keep [2] []] (K' := [.code [] 3]) (σ' := ⟨[(2, .bool false)], []⟩) rfl ⟨rfl, hd7, (w_spec_l1In a0 (1 : Int) (5 : Int) v3 hk6), trivial⟩ rfl ?_
        have h := Option.some.inj h
        subst h
        exact Tri.ret rfl ⟨.inl rfl, rfl, rfl⟩
    · obtain ⟨rfl, hq⟩ := hq
      have h := Option.some.inj h
      subst h
      exact TriX.ret ⟨.inl rfl, hq⟩
/-! spec.l2Good -/
noncomputable def E104_spec_l2Good : Env := ⟨Try.prog, tys, (Try.f104.body).getD .skip, 5, tysOk, mixedOk⟩
abbrev q_spec_l2Good (r : Bool) (σ' : ASt) : Prop := resAV E104_spec_l2Good.T σ' Try.f104.results.toList = some (.bool r) ∧ keepO σ'.ob (namesO []) = []
noncomputable def m_spec_l2Good (a0 : Int) : Option Bool :=
(m_spec_l1In a0 (0 : Int) (31 : Int)).bind fun v1 =>
some v1
theorem w_spec_l2Good (a0 : Int) (r : Bool) (h : m_spec_l2Good a0 = some r) : AM.Spec Try.prog 104 [.int .i64 a0] [] (.bool r) [] := by
  refine spec_of (E := E104_spec_l2Good) Try.func104 rfl rfl rfl rfl ?_
  refine Tri.run 1 [] [.keep [0] []] (K' := [.code [(1, 0)] 0, .code [] 2]) (σ' := ⟨[(0, .int .i64 a0)], []⟩) rfl trivial rfl ?_
  obtain ⟨v1, hk1, h⟩ := bind_some h
  refine Tri.run 1 [.r ⟨[], .bool v1, []⟩] [.keep [2] []] (K' := [.code [] 2]) (σ' := ⟨[(2, .bool v1)], []⟩) rfl ⟨(w_spec_l1In a0 (0 : Int) (31 : Int) v1 hk1), trivial⟩ rfl ?_
  have h := Option.some.inj h
  subst h
  exact Tri.ret rfl ⟨.inl rfl, rfl, rfl⟩
/-! spec.l2Bit -/
noncomputable def E105_spec_l2Bit : Env := ⟨Try.prog, tys, (Try.f105.body).getD .skip, 5, tysOk, mixedOk⟩
abbrev q_spec_l2Bit (r : Int) (σ' : ASt) : Prop := resAV E105_spec_l2Bit.T σ' Try.f105.results.toList = some (.int .i64 r) ∧ keepO σ'.ob (namesO []) = []
noncomputable def m_spec_l2Bit (a0 : Int) : Option Int :=
(m_spec_CountCoalitions a0).bind fun v1 =>
some v1
theorem w_spec_l2Bit (a0 : Int) (r : Int) (h : m_spec_l2Bit a0 = some r) : AM.Spec Try.prog 105 [.int .i64 a0] [] (.int .i64 r) [] := by
  refine spec_of (E := E105_spec_l2Bit) Try.func105 rfl rfl rfl rfl ?_
  refine Tri.run 1 [] [.keep [0] []] (K' := [.code [(1, 0)] 0, .code [] 2]) (σ' := ⟨[(0, .int .i64 a0)], []⟩) rfl trivial rfl ?_
  obtain ⟨v1, hk1, h⟩ := bind_some h
  refine Tri.run 1 [.r ⟨[], .int .i64 v1, []⟩] [.keep [2] []] (K' := [.code [] 2]) (σ' := ⟨[(2, .int .i64 v1)], []⟩) rfl ⟨(w_spec_CountCoalitions a0 v1 hk1), trivial⟩ rfl ?_
  have h := Option.some.inj h
  subst h
  exact Tri.ret rfl ⟨.inl rfl, rfl, rfl⟩
/-! spec.HasPlayer -/
noncomputable def E72_spec_HasPlayer : Env := ⟨Try.prog, tys, (Try.f72.body).getD .skip, 19, tysOk, mixedOk⟩
abbrev q_spec_HasPlayer (r : Bool) (σ' : ASt) : Prop := resAV E72_spec_HasPlayer.T σ' Try.f72.results.toList = some (.bool r) ∧ keepO σ'.ob (namesO []) = []
noncomputable def m_spec_HasPlayer (a0 : Int) (a1 : Int) : Option Bool :=
(m_spec_l1In a1 (0 : Int) (4 : Int)).bind fun v1 =>
bif v1 then
(bif decide (a0 ≥ (0 : Int)) then
((m_spec_l2Bit a1).bind fun v2 =>
grd (v2 ≠ 0) <|
grd ((2 : Int) ≠ 0) <|
some (((IntKind.i64.wrap (a0.tdiv v2)).tmod (2 : Int)) == (1 : Int)))
else
(some false))
else
(some false)
theorem w_spec_HasPlayer (a0 : Int) (a1 : Int) (r : Bool) (h : m_spec_HasPlayer a0 a1 = some r) : AM.Spec Try.prog 72 [.int .i64 a0, .int .i64 a1] [] (.bool r) [] := by
  refine spec_of (E := E72_spec_HasPlayer) Try.func72 rfl rfl rfl rfl ?_
  refine Tri.run 1 [] [.keep [0, 1] []] (K' := [.code [(1, 0)] 0, .code [] 2]) (σ' := ⟨[(0, .int .i64 a0), (1, .int .i64 a1)], []⟩) rfl trivial rfl ?_
  obtain ⟨v1, hk1, h⟩ := bind_some h
  rcases bif_some h with ⟨hd2, h⟩ | ⟨hd2, h⟩
  · rcases bif_some h with ⟨hd3, h⟩ | ⟨hd3, h⟩
    · obtain ⟨v2, hk4, h⟩ := bind_some h
      obtain ⟨hg5, h⟩ := grd_some h
      obtain ⟨hg6, h⟩ := grd_some h
      refine Tri.run 1 [.r ⟨[], .bool v1, []⟩, .g true, .g true, .r ⟨[], .int .i64 v2, []⟩] [.keep [4] []] (K' := [.code [] 2]) (σ' := ⟨[(4, .bool (((IntKind.i64.wrap (a0.tdiv v2)).tmod (2 : Int)) == (1 : Int)))], []⟩) rfl ⟨hg6, hg5, (w_spec_l2Bit a1 v2 hk4), hd3, hd2, (w_spec_l1In a1 (0 : Int) (4 : Int) v1 hk1), trivial⟩ rfl ?_
      have h := Option.some.inj h
      subst h
      exact Tri.ret rfl ⟨.inl rfl, rfl, rfl⟩
    · refine Tri.run 1 [.r ⟨[], .bool v1, []⟩, .g true, .g false] [.keep [4] []] (K' := [.code [] 2]) (σ' := ⟨[(4, .bool false)], []⟩) rfl ⟨hd3, hd2, (w_spec_l1In a1 (0 : Int) (4 : Int) v1 hk1), trivial⟩ rfl ?_
      have h := Option.some.inj h
      subst h
      exact Tri.ret rfl ⟨.inl rfl, rfl, rfl⟩
  · refine Tri.run 1 [.r ⟨[], .bool v1, []⟩, .g false, .g false] [.keep [4] []] (K' := [.code [] 2]) (σ' := ⟨[(4, .bool false)], []⟩) rfl ⟨rfl, hd2, (w_spec_l1In a1 (0 : Int) (4 : Int) v1 hk1), trivial⟩ rfl ?_
    have h := Option.some.inj h
    subst h
    exact Tri.ret rfl ⟨.inl rfl, rfl, rfl⟩
/-! spec.MembersOf -/
noncomputable def E78_spec_MembersOf : Env := ⟨Try.prog, tys, (Try.f78.body).getD .skip, 22, tysOk, mixedOk⟩
abbrev q_spec_MembersOf (r : List Int) (σ' : ASt) : Prop := resAV E78_spec_MembersOf.T σ' Try.f78.results.toList = some (.sl 1000 0) ∧ keepO σ'.ob (namesO [(1000, .arr 3 0 0 (.ints r))]) = [(1000, .arr 3 0 0 (.ints r))]
noncomputable def l_spec_MembersOf_0 (a0 : Int) : (Int × (List Int)) → Option ((Int × (List Int)) ⊕ ((List Int)))
  | (v1, v2) => (
bif decide (v1 < (5 : Int)) then
((m_spec_l2Good a0).bind fun v3 =>
bif v3 then
((m_spec_HasPlayer a0 v1).bind fun v4 =>
bif v4 then
(grd (v2.length + ([v1] : List Int).length ≤ room) <|
some (.inl (IntKind.i64.wrap (v1 + (1 : Int)), v2 ++ [v1])))
else
(some (.inl (IntKind.i64.wrap (v1 + (1 : Int)), v2))))
else
(some (.inr v2)))
else
(some (.inr v2)))
noncomputable def m_spec_MembersOf (a0 : Int) : Option (List Int) :=
(iter (l_spec_MembersOf_0 a0) ((0 : Int), [])).bind fun
| v5 => (
some v5)
theorem w_spec_MembersOf (a0 : Int) (r : List Int) (h : m_spec_MembersOf a0 = some r) : AM.Spec Try.prog 78 [.int .i64 a0] [] (.sl 1000 0) [(1000, .arr 3 0 0 (.ints r))] := by
  refine spec_of (E := E78_spec_MembersOf) Try.func78 rfl rfl rfl rfl ?_
  refine Tri.run 3 [] [.keep [0, 3, 4] [5]] (K' := [.code [(2, 0), (1, 0)] 0, .blk 0, .code [] 3]) (σ' := ⟨[(0, .int .i64 a0), (3, .sl 5 0), (4, .int .i64 (0 : Int))], [(5, .arr 3 0 0 (.ints []))]⟩) rfl trivial rfl ?_
  obtain ⟨v5, hk7, h⟩ := bind_some h
  refine Tri.loop (K1 := [.code [(2, 0), (1, 0), (0, 0)] 0]) (K2 := [.blk 0, .code [] 3]) (fun (v1, v2) => ⟨[(0, .int .i64 a0), (3, .sl 5 0), (4, .int .i64 v1)], [(5, .arr 3 0 0 (.ints v2))]⟩) (fun x e σ' => match x with | v5 => e = .exit 0 ∧ σ' = ⟨[(3, .sl 5 0)], [(5, .arr 3 0 0 (.ints v5))]⟩) hk7 rfl rfl ?_ ?_
  · intro s x hs
    clear h
    have h := hs
    clear hs
    obtain ⟨v1, v2⟩ := s
    rcases bif_some h with ⟨hd1, h⟩ | ⟨hd1, h⟩
    · obtain ⟨v3, hk2, h⟩ := bind_some h
      refine Tri.run 1 [.g true, .r ⟨[], .bool v3, []⟩] [.keep [0, 3, 4, 11] [5]] (K' := [.code [(2, 0), (1, 0), (0, 0), (0, 0)] 1, .code [(2, 0), (1, 0), (0, 0)] 1]) (σ' := ⟨[(0, .int .i64 a0), (3, .sl 5 0), (4, .int .i64 v1), (11, .bool v3)], [(5, .arr 3 0 0 (.ints v2))]⟩) rfl ⟨(w_spec_l2Good a0 v3 hk2), hd1, trivial⟩ rfl ?_
      rcases bif_some h with ⟨hd3, h⟩ | ⟨hd3, h⟩
      · obtain ⟨v4, hk4, h⟩ := bind_some h
        refine Tri.run 2 [.g true, .r ⟨[], .bool v4, []⟩] [.keep [0, 3, 4, 16] [5]] (K' := [.code [(2, 0), (1, 0), (0, 0), (1, 0), (0, 0)] 1, .blk 1, .code [(2, 0), (1, 0), (0, 0)] 2]) (σ' := ⟨[(0, .int .i64 a0), (3, .sl 5 0), (4, .int .i64 v1), (16, .bool v4)], [(5, .arr 3 0 0 (.ints v2))]⟩) rfl ⟨(w_spec_HasPlayer a0 v1 v4 hk4), hd3, trivial⟩ rfl ?_
        rcases bif_some h with ⟨hd5, h⟩ | ⟨hd5, h⟩
        · obtain ⟨hg6, h⟩ := grd_some h
          refine Tri.run 3 [.g true] [.rever 5, .keep [0, 3, 4] [5]] (K' := []) (σ' := ⟨[(0, .int .i64 a0), (3, .sl 5 0), (4, .int .i64 (IntKind.i64.wrap (v1 + (1 : Int))))], [(5, .arr 3 0 0 (.ints (v2 ++ [v1])))]⟩) rfl ⟨hg6, hd5, trivial⟩ rfl ?_
          have h := Option.some.inj h
          subst h
          exact Tri.nil ⟨rfl, rfl⟩
        · refine Tri.run 2 [.g false] [.keep [0, 3, 4] [5]] (K' := []) (σ' := ⟨[(0, .int .i64 a0), (3, .sl 5 0), (4, .int .i64 (IntKind.i64.wrap (v1 + (1 : Int))))], [(5, .arr 3 0 0 (.ints v2))]⟩) rfl ⟨hd5, trivial⟩ rfl ?_
          have h := Option.some.inj h
          subst h
          exact Tri.nil ⟨rfl, rfl⟩
      · refine Tri.run 1 [.g false] [.keep [3] [5]] (K' := [.code [(2, 0), (1, 0), (0, 0), (0, 0), (1, 1)] 0, .code [(2, 0), (1, 0), (0, 0)] 1]) (σ' := ⟨[(3, .sl 5 0)], [(5, .arr 3 0 0 (.ints v2))]⟩) rfl ⟨hd3, trivial⟩ rfl ?_
        have h := Option.some.inj h
        subst h
        exact Tri.out 0 rfl ⟨nofun, rfl, rfl⟩
    · refine Tri.run 1 [.g false] [.keep [0, 3, 4, 11] [5]] (K' := [.code [(2, 0), (1, 0), (0, 0), (0, 0)] 1, .code [(2, 0), (1, 0), (0, 0)] 1]) (σ' := ⟨[(0, .int .i64 a0), (3, .sl 5 0), (4, .int .i64 v1), (11, .bool false)], [(5, .arr 3 0 0 (.ints v2))]⟩) rfl ⟨hd1, trivial⟩ rfl ?_
      refine Tri.run 1 [.g false] [.keep [3] [5]] (K' := [.code [(2, 0), (1, 0), (0, 0), (0, 0), (1, 1)] 0, .code [(2, 0), (1, 0), (0, 0)] 1]) (σ' := ⟨[(3, .sl 5 0)], [(5, .arr 3 0 0 (.ints v2))]⟩) rfl ⟨rfl, trivial⟩ rfl ?_
      have h := Option.some.inj h
      subst h
      exact Tri.out 0 rfl ⟨nofun, rfl, rfl⟩
  · intro e σ' hne hq
    obtain ⟨rfl, rfl⟩ := hq
    refine TriX.exit (K' := [.code [] 3]) rfl ?_
    refine Tri.run 1 [] [.swap 5 1000, .keep [2] [1000]] (K' := [.code [] 4]) (σ' := ⟨[(2, .sl 1000 0)], [(1000, .arr 3 0 0 (.ints v5))]⟩) rfl trivial rfl ?_
    have h := Option.some.inj h
    subst h
    exact Tri.ret rfl ⟨.inl rfl, rfl, rfl⟩
/-! spec.l8Wide -/
noncomputable def E84_spec_l8Wide : Env := ⟨Try.prog, tys, (Try.f84.body).getD .skip, 24, tysOk, mixedOk⟩
abbrev q_spec_l8Wide (r : Int) (σ' : ASt) : Prop := resAV E84_spec_l8Wide.T σ' Try.f84.results.toList = some (.int .i64 r) ∧ keepO σ'.ob (namesO []) = []
noncomputable def l_spec_l8Wide_0 (a0 : List Int) (a1 : Int) : (Int × Int) → Option ((Int × Int) ⊕ Int)
  | (v1, v2) => (
bif decide (v2 < (a0.length : Int)) then
((m_spec_HasPlayer a1 v2).bind fun v3 =>
bif v3 then
(grd ((0 : Int) ≤ v2 ∧ v2 < (a0.length : Int)) <|
(m_spec_l2Bit (a0.getD v2.toNat 0)).bind fun v4 =>
some (.inl (IntKind.i64.wrap (v1 + v4), IntKind.i64.wrap (v2 + (1 : Int)))))
else
(some (.inl (v1, IntKind.i64.wrap (v2 + (1 : Int))))))
else
(some (.inr v1)))
noncomputable def m_spec_l8Wide (a0 : List Int) (a1 : Int) : Option Int :=
(iter (l_spec_l8Wide_0 a0 a1) ((0 : Int), (0 : Int))).bind fun
| v5 => (
some v5)
theorem w_spec_l8Wide (a0 : List Int) (a1 : Int) (r : Int) (h : m_spec_l8Wide a0 a1 = some r) : AM.Spec Try.prog 84 [.list (.ints a0), .int .i64 a1] [] (.int .i64 r) [] := by
  refine spec_of (E := E84_spec_l8Wide) Try.func84 rfl rfl rfl rfl ?_
  refine Tri.run 3 [] [.keep [0, 1, 5, 6] []] (K' := [.code [(2, 0), (1, 0)] 0, .blk 0, .code [] 3]) (σ' := ⟨[(0, .list (.ints a0)), (1, .int .i64 a1), (5, .int .i64 (0 : Int)), (6, .int .i64 (0 : Int))], []⟩) rfl trivial rfl ?_
  obtain ⟨v5, hk6, h⟩ := bind_some h
  refine Tri.loop (K1 := [.code [(2, 0), (1, 0), (0, 0)] 0]) (K2 := [.blk 0, .code [] 3]) (fun (v1, v2) => ⟨[(0, .list (.ints a0)), (1, .int .i64 a1), (5, .int .i64 v1), (6, .int .i64 v2)], []⟩) (fun x e σ' => match x with | v5 => e = .exit 0 ∧ σ' = ⟨[(5, .int .i64 v5)], []⟩) hk6 rfl rfl ?_ ?_
  · intro s x hs
    clear h
    have h := hs
    clear hs
    obtain ⟨v1, v2⟩ := s
    refine Tri.run 1 [] [.keep [0, 1, 5, 6, 10] []] (K' := [.code [(2, 0), (1, 0), (0, 0), (0, 0)] 1, .code [(2, 0), (1, 0), (0, 0)] 1]) (σ' := ⟨[(0, .list (.ints a0)), (1, .int .i64 a1), (5, .int .i64 v1), (6, .int .i64 v2), (10, .bool (decide (v2 < (a0.length : Int))))], []⟩) rfl trivial rfl ?_
    rcases bif_some h with ⟨hd1, h⟩ | ⟨hd1, h⟩
    · obtain ⟨v3, hk2, h⟩ := bind_some h
      refine Tri.run 2 [.g true, .r ⟨[], .bool v3, []⟩] [.keep [0, 1, 5, 6, 15] []] (K' := [.code [(2, 0), (1, 0), (0, 0), (1, 0), (0, 0)] 1, .blk 1, .code [(2, 0), (1, 0), (0, 0)] 2]) (σ' := ⟨[(0, .list (.ints a0)), (1, .int .i64 a1), (5, .int .i64 v1), (6, .int .i64 v2), (15, .bool v3)], []⟩) rfl ⟨(w_spec_HasPlayer a1 v2 v3 hk2), hd1, trivial⟩ rfl ?_
      rcases bif_some h with ⟨hd3, h⟩ | ⟨hd3, h⟩
      · obtain ⟨hg4, h⟩ := grd_some h
        obtain ⟨v4, hk5, h⟩ := bind_some h
        refine Tri.run 3 [.g true, .r ⟨[], .int .i64 v4, []⟩] [.keep [0, 1, 5, 6] []] (K' := []) (σ' := ⟨[(0, .list (.ints a0)), (1, .int .i64 a1), (5, .int .i64 (IntKind.i64.wrap (v1 + v4))), (6, .int .i64 (IntKind.i64.wrap (v2 + (1 : Int))))], []⟩) rfl ⟨(w_spec_l2Bit (a0.getD v2.toNat 0) v4 hk5), hg4, hd3, trivial⟩ rfl ?_
        have h := Option.some.inj h
        subst h
        exact Tri.nil ⟨rfl, rfl⟩
      · refine Tri.run 2 [.g false] [.keep [0, 1, 5, 6] []] (K' := []) (σ' := ⟨[(0, .list (.ints a0)), (1, .int .i64 a1), (5, .int .i64 v1), (6, .int .i64 (IntKind.i64.wrap (v2 + (1 : Int))))], []⟩) rfl ⟨hd3, trivial⟩ rfl ?_
        have h := Option.some.inj h
        subst h
        exact Tri.nil ⟨rfl, rfl⟩
    · refine Tri.run 1 [.g false] [.keep [5] []] (K' := [.code [(2, 0), (1, 0), (0, 0), (0, 0), (1, 1)] 0, .code [(2, 0), (1, 0), (0, 0)] 1]) (σ' := ⟨[(5, .int .i64 v1)], []⟩) rfl ⟨hd1, trivial⟩ rfl ?_
      have h := Option.some.inj h
      subst h
      exact Tri.out 0 rfl ⟨nofun, rfl, rfl⟩
  · intro e σ' hne hq
    obtain ⟨rfl, rfl⟩ := hq
    refine TriX.exit (K' := [.code [] 3]) rfl ?_
    refine Tri.run 1 [] [.keep [4] []] (K' := [.code [] 4]) (σ' := ⟨[(4, .int .i64 v5)], []⟩) rfl trivial rfl ?_
    have h := Option.some.inj h
    subst h
    exact Tri.ret rfl ⟨.inl rfl, rfl, rfl⟩
/-! spec.Restrict -/
noncomputable def E45_spec_Restrict : Env := ⟨Try.prog, tys, (Try.f45.body).getD .skip, 49, tysOk, mixedOk⟩
abbrev q_spec_Restrict (r : Int × Bool × (List Int)) (σ' : ASt) : Prop := resAV E45_spec_Restrict.T σ' Try.f45.results.toList = some (.tuple [.agg [.int .i64 r.1, .sl 1000 0], .bool r.2.1]) ∧ keepO σ'.ob (namesO [(1000, .arr 3 0 0 (.ints r.2.2))]) = [(1000, .arr 3 0 0 (.ints r.2.2))]
noncomputable def l_spec_Restrict_0 (a1 : List Int) (v3 : List Int) (v4 : Int) : (Int × (List Int)) → Option ((Int × (List Int)) ⊕ ((List Int)))
  | (v5, v6) => (
bif decide (v5 < v4) then
((m_spec_l8Wide v3 v5).bind fun v7 =>
grd ((0 : Int) ≤ v7 ∧ v7 < (a1.length : Int)) <|
grd (v6.length + ([a1.getD v7.toNat 0] : List Int).length ≤ room) <|
some (.inl (IntKind.i64.wrap (v5 + (1 : Int)), v6 ++ [a1.getD v7.toNat 0])))
else
(some (.inr v6)))
noncomputable def m_spec_Restrict (a0 : Int) (a1 : List Int) (a2 : Int) : Option (Int × Bool × (List Int)) :=
(m_spec_IsValidGame a0 a1).bind fun v1 =>
bif !v1 then
(some (0, false, []))
else
((m_spec_l1In a2 (1 : Int) (IntKind.i64.wrap ((a1.length : Int) - (1 : Int)))).bind fun v2 =>
bif !v2 then
(some (0, false, []))
else
((m_spec_MembersOf a2).bind fun v3 =>
(m_spec_CountCoalitions (v3.length : Int)).bind fun v4 =>
(iter (l_spec_Restrict_0 a1 v3 v4) ((0 : Int), [])).bind fun
| v8 => (
some ((v3.length : Int), true, v8))))
theorem w_spec_Restrict (a0 : Int) (a1 : List Int) (a2 : Int) (r : Int × Bool × (List Int)) (h : m_spec_Restrict a0 a1 a2 = some r) : AM.Spec Try.prog 45 [.agg [.int .i64 a0, .list (.ints a1)], .int .i64 a2] [] (.tuple [.agg [.int .i64 r.1, .sl 1000 0], .bool r.2.1]) [(1000, .arr 3 0 0 (.ints r.2.2))] := by
  refine spec_of (E := E45_spec_Restrict) Try.func45 rfl rfl rfl rfl ?_
  refine Tri.run 1 [] [.keep [1, 2, 4] [2, 4]] (K' := [.code [(1, 0), (0, 0)] 0, .code [(1, 0)] 1, .code [] 2]) (σ' := ⟨[(1, .int .i64 a2), (2, .ptr 2 0), (4, .ptr 4 0)], [(2, .box [.int .i64 a0, .list (.ints a1)]), (4, .box [.int .i64 0, .nil (.ints [])])]⟩) rfl trivial rfl ?_
  obtain ⟨v1, hk1, h⟩ := bind_some h
  rcases bif_some h with ⟨hd2, h⟩ | ⟨hd2, h⟩
  · refine Tri.run 1 [.r ⟨[], .bool v1, []⟩, .g true] [.keep [1, 2, 4, 21] [2, 4]] (K' := [.code [(1, 0)] 1, .code [] 2]) (σ' := ⟨[(1, .int .i64 a2), (2, .ptr 2 0), (4, .ptr 4 0), (21, .bool true)], [(2, .box [.int .i64 a0, .list (.ints a1)]), (4, .box [.int .i64 0, .nil (.ints [])])]⟩) rfl ⟨hd2, (w_spec_IsValidGame a0 a1 v1 hk1), trivial⟩ rfl ?_
    refine Tri.run 2 [.g true] [.ownc 4 1 1100 3, .swap 1100 1000, .keep [4, 5] [4, 1000]] (K' := [.code [(1, 0), (1, 0)] 1, .code [] 2]) (σ' := ⟨[(4, .ptr 4 0), (5, .bool false)], [(4, .box [.int .i64 0, .sl 1000 0]), (1000, .arr 3 0 0 (.ints []))]⟩) rfl ⟨rfl, trivial⟩ rfl ?_
    have h := Option.some.inj h
    subst h
    exact Tri.ret rfl ⟨.inl rfl, rfl, rfl⟩
  · obtain ⟨v2, hk3, h⟩ := bind_some h
    refine Tri.run 1 [.r ⟨[], .bool v1, []⟩, .g false, .r ⟨[], .bool v2, []⟩] [.keep [1, 2, 4, 21] [2, 4]] (K' := [.code [(1, 0)] 1, .code [] 2]) (σ' := ⟨[(1, .int .i64 a2), (2, .ptr 2 0), (4, .ptr 4 0), (21, .bool (!v2))], [(2, .box [.int .i64 a0, .list (.ints a1)]), (4, .box [.int .i64 0, .nil (.ints [])])]⟩) rfl ⟨(w_spec_l1In a2 (1 : Int) (IntKind.i64.wrap ((a1.length : Int) - (1 : Int))) v2 hk3), hd2, (w_spec_IsValidGame a0 a1 v1 hk1), trivial⟩ rfl ?_
    rcases bif_some h with ⟨hd4, h⟩ | ⟨hd4, h⟩
    · refine Tri.run 2 [.g true] [.ownc 4 1 1101 3, .swap 1101 1000, .keep [4, 5] [4, 1000]] (K' := [.code [(1, 0), (1, 0)] 1, .code [] 2]) (σ' := ⟨[(4, .ptr 4 0), (5, .bool false)], [(4, .box [.int .i64 0, .sl 1000 0]), (1000, .arr 3 0 0 (.ints []))]⟩) rfl ⟨hd4, trivial⟩ rfl ?_
      have h := Option.some.inj h
      subst h
      exact Tri.ret rfl ⟨.inl rfl, rfl, rfl⟩
    · obtain ⟨v3, hk5, h⟩ := bind_some h
      refine Tri.run 3 [.g false, .r ⟨[], .sl 1102 0, [(1102, .arr 3 0 0 (.ints v3))]⟩] [.keep [2, 4, 6, 7] [2, 4, 7, 1102]] (K' := [.code [(4, 0)] 0, .code [] 5]) (σ' := ⟨[(2, .ptr 2 0), (4, .ptr 4 0), (6, .sl 1102 0), (7, .ptr 7 0)], [(2, .box [.int .i64 a0, .list (.ints a1)]), (4, .box [.int .i64 0, .nil (.ints [])]), (7, .box [.int .i64 (v3.length : Int), .nil (.ints [])]), (1102, .arr 3 0 0 (.ints v3))]⟩) rfl ⟨((w_spec_MembersOf a2 v3 hk5).swap 1000 1102), hd4, trivial⟩ rfl ?_
      obtain ⟨v4, hk6, h⟩ := bind_some h
      refine Tri.run 2 [.r ⟨[], .int .i64 v4, []⟩] [.ownc 4 1 1103 3, .ownc 7 1 1104 3, .keep [2, 4, 6, 7, 8, 9] [2, 4, 7, 1102, 1103, 1104]] (K' := [.code [(5, 0), (1, 0)] 0, .blk 0, .code [] 6]) (σ' := ⟨[(2, .ptr 2 0), (4, .ptr 4 0), (6, .sl 1102 0), (7, .ptr 7 0), (8, .int .i64 v4), (9, .int .i64 (0 : Int))], [(2, .box [.int .i64 a0, .list (.ints a1)]), (4, .box [.int .i64 0, .sl 1103 0]), (7, .box [.int .i64 (v3.length : Int), .sl 1104 0]), (1102, .arr 3 0 0 (.ints v3)), (1103, .arr 3 0 0 (.ints [])), (1104, .arr 3 0 0 (.ints []))]⟩) rfl ⟨(w_spec_CountCoalitions (v3.length : Int) v4 hk6), trivial⟩ rfl ?_
      obtain ⟨v8, hk11, h⟩ := bind_some h
      refine Tri.loop (K1 := [.code [(5, 0), (1, 0), (0, 0)] 0]) (K2 := [.blk 0, .code [] 6]) (fun (v5, v6) => ⟨[(2, .ptr 2 0), (4, .ptr 4 0), (6, .sl 1102 0), (7, .ptr 7 0), (8, .int .i64 v4), (9, .int .i64 v5)], [(2, .box [.int .i64 a0, .list (.ints a1)]), (4, .box [.int .i64 0, .sl 1103 0]), (7, .box [.int .i64 (v3.length : Int), .sl 1104 0]), (1102, .arr 3 0 0 (.ints v3)), (1103, .arr 3 0 0 (.ints [])), (1104, .arr 3 0 0 (.ints v6))]⟩) (fun x e σ' => match x with | v8 => e = .exit 0 ∧ σ' = ⟨[(4, .ptr 4 0), (7, .ptr 7 0)], [(4, .box [.int .i64 0, .sl 1103 0]), (7, .box [.int .i64 (v3.length : Int), .sl 1104 0]), (1103, .arr 3 0 0 (.ints [])), (1104, .arr 3 0 0 (.ints v8))]⟩) hk11 rfl rfl ?_ ?_
      · intro s x hs
        clear h
        have h := hs
        clear hs
        obtain ⟨v5, v6⟩ := s
        refine Tri.run 1 [] [.keep [2, 4, 6, 7, 8, 9, 33] [2, 4, 7, 1102, 1103, 1104]] (K' := [.code [(5, 0), (1, 0), (0, 0), (0, 0)] 1, .code [(5, 0), (1, 0), (0, 0)] 1]) (σ' := ⟨[(2, .ptr 2 0), (4, .ptr 4 0), (6, .sl 1102 0), (7, .ptr 7 0), (8, .int .i64 v4), (9, .int .i64 v5), (33, .bool (decide (v5 < v4)))], [(2, .box [.int .i64 a0, .list (.ints a1)]), (4, .box [.int .i64 0, .sl 1103 0]), (7, .box [.int .i64 (v3.length : Int), .sl 1104 0]), (1102, .arr 3 0 0 (.ints v3)), (1103, .arr 3 0 0 (.ints [])), (1104, .arr 3 0 0 (.ints v6))]⟩) rfl trivial rfl ?_
        rcases bif_some h with ⟨hd7, h⟩ | ⟨hd7, h⟩
        · obtain ⟨v7, hk8, h⟩ := bind_some h
          obtain ⟨hg9, h⟩ := grd_some h
          obtain ⟨hg10, h⟩ := grd_some h
          refine Tri.run 3 [.g true, .r ⟨[], .int .i64 v7, []⟩] [.rever 1104, .keep [2, 4, 6, 7, 8, 9] [2, 4, 7, 1102, 1103, 1104]] (K' := []) (σ' := ⟨[(2, .ptr 2 0), (4, .ptr 4 0), (6, .sl 1102 0), (7, .ptr 7 0), (8, .int .i64 v4), (9, .int .i64 (IntKind.i64.wrap (v5 + (1 : Int))))], [(2, .box [.int .i64 a0, .list (.ints a1)]), (4, .box [.int .i64 0, .sl 1103 0]), (7, .box [.int .i64 (v3.length : Int), .sl 1104 0]), (1102, .arr 3 0 0 (.ints v3)), (1103, .arr 3 0 0 (.ints [])), (1104, .arr 3 0 0 (.ints (v6 ++ [a1.getD v7.toNat 0])))]⟩) rfl ⟨hg10, hg9, (w_spec_l8Wide v3 v5 v7 hk8), hd7, trivial⟩ rfl ?_
          have h := Option.some.inj h
          subst h
          exact Tri.nil ⟨rfl, rfl⟩
        · refine Tri.run 1 [.g false] [.keep [4, 7] [4, 7, 1103, 1104]] (K' := [.code [(5, 0), (1, 0), (0, 0), (0, 0), (1, 1)] 0, .code [(5, 0), (1, 0), (0, 0)] 1]) (σ' := ⟨[(4, .ptr 4 0), (7, .ptr 7 0)], [(4, .box [.int .i64 0, .sl 1103 0]), (7, .box [.int .i64 (v3.length : Int), .sl 1104 0]), (1103, .arr 3 0 0 (.ints [])), (1104, .arr 3 0 0 (.ints v6))]⟩) rfl ⟨hd7, trivial⟩ rfl ?_
          have h := Option.some.inj h
          subst h
          exact Tri.out 0 rfl ⟨nofun, rfl, rfl⟩
      · intro e σ' hne hq
        obtain ⟨rfl, rfl⟩ := hq
        refine TriX.exit (K' := [.code [] 6]) rfl ?_
        refine Tri.run 1 [] [.swap 1104 1000, .keep [4, 5] [4, 1000]] (K' := [.code [] 7]) (σ' := ⟨[(4, .ptr 4 0), (5, .bool true)], [(4, .box [.int .i64 (v3.length : Int), .sl 1000 0]), (1000, .arr 3 0 0 (.ints v8))]⟩) rfl trivial rfl ?_
        have h := Option.some.inj h
        subst h
        exact Tri.ret rfl ⟨.inl rfl, rfl, rfl⟩
/-! impl.within -/
noncomputable def E66_impl_within : Env := ⟨Try.prog, tys, (Try.f66.body).getD .skip, 15, tysOk, mixedOk⟩
abbrev q_impl_within (r : Bool) (σ' : ASt) : Prop := resAV E66_impl_within.T σ' Try.f66.results.toList = some (.bool r) ∧ keepO σ'.ob (namesO []) = []
noncomputable def m_impl_within (a0 : Int) (a1 : Int) (a2 : Int) : Option Bool :=
bif decide (a0 ≥ a1) then
(some (decide (a0 ≤ a2)))
else
(some false)
theorem w_impl_within (a0 : Int) (a1 : Int) (a2 : Int) (r : Bool) (h : m_impl_within a0 a1 a2 = some r) : AM.Spec Try.prog 66 [.int .i64 a0, .int .i64 a1, .int .i64 a2] [] (.bool r) [] := by
  refine spec_of (E := E66_impl_within) Try.func66 rfl rfl rfl rfl ?_
  refine Tri.run 1 [] [.keep [0, 1, 2] []] (K' := [.code [(1, 0)] 0, .code [] 2]) (σ' := ⟨[(0, .int .i64 a0), (1, .int .i64 a1), (2, .int .i64 a2)], []⟩) rfl trivial rfl ?_
  rcases bif_some h with ⟨hd1, h⟩ | ⟨hd1, h⟩
  · refine Tri.run 1 [.g true] [.keep [6] []] (K' := [.code [] 2]) (σ' := ⟨[(6, .bool (decide (a0 ≤ a2)))], []⟩) rfl ⟨hd1, trivial⟩ rfl ?_
    have h := Option.some.inj h
    subst h
    exact Tri.ret rfl ⟨.inl rfl, rfl, rfl⟩
  · refine Tri.run 1 [.g false] [.keep [6] []] (K' := [.code [] 2]) (σ' := ⟨[(6, .bool false)], []⟩) rfl ⟨hd1, trivial⟩ rfl ?_
    have h := Option.some.inj h
    subst h
    exact Tri.ret rfl ⟨.inl rfl, rfl, rfl⟩
/-! impl.IsValidGame$1 -/
noncomputable def E103_impl_IsValidGame_1 : Env := ⟨Try.prog, tys, (Try.f103.body).getD .skip, 6, tysOk, mixedOk⟩
abbrev q_impl_IsValidGame_1 (r : Bool) (σ' : ASt) : Prop := resAV E103_impl_IsValidGame_1.T σ' Try.f103.results.toList = some (.bool r) ∧ keepO σ'.ob (namesO []) = []
noncomputable def m_impl_IsValidGame_1 (a0 : Int) : Option Bool :=
(m_impl_within a0 (-500 : Int) (500 : Int)).bind fun v1 =>
some (!v1)
theorem w_impl_IsValidGame_1 (a0 : Int) (r : Bool) (h : m_impl_IsValidGame_1 a0 = some r) : AM.Spec Try.prog 103 [.int .i64 a0] [] (.bool r) [] := by
  refine spec_of (E := E103_impl_IsValidGame_1) Try.func103 rfl rfl rfl rfl ?_
  refine Tri.run 1 [] [.keep [0] []] (K' := [.code [(1, 0)] 0, .code [] 2]) (σ' := ⟨[(0, .int .i64 a0)], []⟩) rfl trivial rfl ?_
  obtain ⟨v1, hk1, h⟩ := bind_some h
  refine Tri.run 1 [.r ⟨[], .bool v1, []⟩] [.keep [2] []] (K' := [.code [] 2]) (σ' := ⟨[(2, .bool (!v1))], []⟩) rfl ⟨(w_impl_within a0 (-500 : Int) (500 : Int) v1 hk1), trivial⟩ rfl ?_
  have h := Option.some.inj h
  subst h
  exact Tri.ret rfl ⟨.inl rfl, rfl, rfl⟩
/-! slices.IndexFunc(()int,int) -/
noncomputable def E106_slices_IndexFunc_int_int : Env := ⟨Try.prog, tys, (Try.f106.body).getD .skip, 19, tysOk, mixedOk⟩
abbrev q_slices_IndexFunc_int_int_impl_IsValidGame_1 (r : Int) (σ' : ASt) : Prop := resAV E106_slices_IndexFunc_int_int.T σ' Try.f106.results.toList = some (.int .i64 r) ∧ keepO σ'.ob (namesO []) = []
noncomputable def l_slices_IndexFunc_int_int_impl_IsValidGame_1_0 (a0 : List Int) (v1 : Int) : Option (Int ⊕ (Unit ⊕ Int)) :=
bif decide (v1 < (a0.length : Int)) then
(grd ((0 : Int) ≤ v1 ∧ v1 < (a0.length : Int)) <|
(m_impl_IsValidGame_1 (a0.getD v1.toNat 0)).bind fun v2 =>
bif v2 then
(some (.inr (.inr v1)))
else
(some (.inl (IntKind.i64.wrap (v1 + (1 : Int))))))
else
(some (.inr (.inl ())))
noncomputable def m_slices_IndexFunc_int_int_impl_IsValidGame_1 (a0 : List Int) : Option Int :=
(iter (l_slices_IndexFunc_int_int_impl_IsValidGame_1_0 a0) (0 : Int)).bind fun
| (.inl _) => (
some (-1 : Int))
| (.inr r) => some r
theorem w_slices_IndexFunc_int_int_impl_IsValidGame_1 (a0 : List Int) (r : Int) (h : m_slices_IndexFunc_int_int_impl_IsValidGame_1 a0 = some r) : AM.Spec Try.prog 106 [.list (.ints a0), .func 103 [] []] [] (.int .i64 r) [] := by
  refine spec_of (E := E106_slices_IndexFunc_int_int) Try.func106 rfl rfl rfl rfl ?_
  refine Tri.run 2 [] [.keep [0, 1, 7, 8] []] (K' := [.code [(1, 0), (1, 0)] 0, .blk 0, .code [] 2]) (σ' := ⟨[(0, .list (.ints a0)), (1, .func 103 [] []), (7, .int .i64 (a0.length : Int)), (8, .int .i64 (0 : Int))], []⟩) rfl trivial rfl ?_
  obtain ⟨x1, hk5, h⟩ := bind_some h
  refine Tri.loop (K1 := [.code [(1, 0), (1, 0), (0, 0)] 0]) (K2 := [.blk 0, .code [] 2]) (fun v1 => ⟨[(0, .list (.ints a0)), (1, .func 103 [] []), (7, .int .i64 (a0.length : Int)), (8, .int .i64 v1)], []⟩) (fun x e σ' => match x with | (.inl _) => e = .exit 0 ∧ σ' = ⟨[], []⟩ | (.inr r) => e = .ret ∧ q_slices_IndexFunc_int_int_impl_IsValidGame_1 r σ') hk5 rfl rfl ?_ ?_
  · intro v1 x hs
    clear h
    have h := hs
    clear hs
    refine Tri.run 1 [] [.keep [0, 1, 7, 8, 9] []] (K' := [.code [(1, 0), (1, 0), (0, 0), (1, 0)] 0, .code [(1, 0), (1, 0), (0, 0)] 2]) (σ' := ⟨[(0, .list (.ints a0)), (1, .func 103 [] []), (7, .int .i64 (a0.length : Int)), (8, .int .i64 v1), (9, .bool (decide (v1 < (a0.length : Int))))], []⟩) rfl trivial rfl ?_
    rcases bif_some h with ⟨hd1, h⟩ | ⟨hd1, h⟩
    · refine Tri.run 2 [.g true] [.keep [0, 1, 5, 7, 8] []] (K' := [.code [(1, 0), (1, 0), (0, 0), (2, 0), (0, 0), (1, 0)] 0, .code [(1, 0), (1, 0), (0, 0), (2, 0), (0, 0)] 2, .blk 1, .code [(1, 0), (1, 0), (0, 0)] 3]) (σ' := ⟨[(0, .list (.ints a0)), (1, .func 103 [] []), (5, .int .i64 v1), (7, .int .i64 (a0.length : Int)), (8, .int .i64 v1)], []⟩) rfl ⟨hd1, trivial⟩ rfl ?_
      obtain ⟨hg2, h⟩ := grd_some h
      obtain ⟨v2, hk3, h⟩ := bind_some h
      refine Tri.run 1 [.r ⟨[], .bool v2, []⟩] [.keep [0, 1, 5, 7, 8, 16] []] (K' := [.code [(1, 0), (1, 0), (0, 0), (2, 0), (0, 0)] 2, .blk 1, .code [(1, 0), (1, 0), (0, 0)] 3]) (σ' := ⟨[(0, .list (.ints a0)), (1, .func 103 [] []), (5, .int .i64 v1), (7, .int .i64 (a0.length : Int)), (8, .int .i64 v1), (16, .bool v2)], []⟩) rfl ⟨(w_impl_IsValidGame_1 (a0.getD v1.toNat 0) v2 hk3), hg2, trivial⟩ rfl ?_
      rcases bif_some h with ⟨hd4, h⟩ | ⟨hd4, h⟩
      · refine Tri.run 2 [.g true] [.keep [4] []] (K' := [.code [(1, 0), (1, 0), (0, 0), (2, 0), (0, 0), (2, 0)] 1, .blk 1, .code [(1, 0), (1, 0), (0, 0)] 3]) (σ' := ⟨[(4, .int .i64 v1)], []⟩) rfl ⟨hd4, trivial⟩ rfl ?_
        have h := Option.some.inj h
        subst h
        exact Tri.ret rfl ⟨nofun, rfl, rfl, rfl⟩
      · refine Tri.run 2 [.g false] [.keep [0, 1, 7, 8] []] (K' := []) (σ' := ⟨[(0, .list (.ints a0)), (1, .func 103 [] []), (7, .int .i64 (a0.length : Int)), (8, .int .i64 (IntKind.i64.wrap (v1 + (1 : Int))))], []⟩) rfl ⟨hd4, trivial⟩ rfl ?_
        have h := Option.some.inj h
        subst h
        exact Tri.nil ⟨rfl, rfl⟩
    · refine Tri.run 1 [.g false] [.keep [] []] (K' := [.code [(1, 0), (1, 0), (0, 0), (1, 0), (0, 1)] 0, .code [(1, 0), (1, 0), (0, 0)] 2]) (σ' := ⟨[], []⟩) rfl ⟨hd1, trivial⟩ rfl ?_
      have h := Option.some.inj h
      subst h
      exact Tri.out 0 rfl ⟨nofun, rfl, rfl⟩
  · intro e σ' hne hq
    rcases x1 with _ | r
    · obtain ⟨rfl, rfl⟩ := hq
      refine TriX.exit (K' := [.code [] 2]) rfl ?_
      refine Tri.run 1 [] [.keep [4] []] (K' := [.code [] 3]) (σ' := ⟨[(4, .int .i64 (-1 : Int))], []⟩) rfl trivial rfl ?_
      have h := Option.some.inj h
      subst h
      exact Tri.ret rfl ⟨.inl rfl, rfl, rfl⟩
    · obtain ⟨rfl, hq⟩ := hq
      have h := Option.some.inj h
      subst h
      exact TriX.ret ⟨.inl rfl, hq⟩
/-! slices.ContainsFunc(()int,int) -/
noncomputable def E74_slices_ContainsFunc_int_int : Env := ⟨Try.prog, tys, (Try.f74.body).getD .skip, 9, tysOk, mixedOk⟩
abbrev q_slices_ContainsFunc_int_int_impl_IsValidGame_1 (r : Bool) (σ' : ASt) : Prop := resAV E74_slices_ContainsFunc_int_int.T σ' Try.f74.results.toList = some (.bool r) ∧ keepO σ'.ob (namesO []) = []
noncomputable def m_slices_ContainsFunc_int_int_impl_IsValidGame_1 (a0 : List Int) : Option Bool :=
(m_slices_IndexFunc_int_int_impl_IsValidGame_1 a0).bind fun v1 =>
some (decide (v1 ≥ (0 : Int)))
theorem w_slices_ContainsFunc_int_int_impl_IsValidGame_1 (a0 : List Int) (r : Bool) (h : m_slices_ContainsFunc_int_int_impl_IsValidGame_1 a0 = some r) : AM.Spec Try.prog 74 [.list (.ints a0), .func 103 [] []] [] (.bool r) [] := by
  refine spec_of (E := E74_slices_ContainsFunc_int_int) Try.func74 rfl rfl rfl rfl ?_
  refine Tri.run 1 [] [.keep [0, 1] []] (K' := [.code [(1, 0)] 0, .code [] 2]) (σ' := ⟨[(0, .list (.ints a0)), (1, .func 103 [] [])], []⟩) rfl trivial rfl ?_
  obtain ⟨v1, hk1, h⟩ := bind_some h
  refine Tri.run 1 [.r ⟨[], .int .i64 v1, []⟩] [.keep [4] []] (K' := [.code [] 2]) (σ' := ⟨[(4, .bool (decide (v1 ≥ (0 : Int))))], []⟩) rfl ⟨(w_slices_IndexFunc_int_int_impl_IsValidGame_1 a0 v1 hk1), trivial⟩ rfl ?_
  have h := Option.some.inj h
  subst h
  exact Tri.ret rfl ⟨.inl rfl, rfl, rfl⟩
/-! impl.IsValidGame -/
noncomputable def E61_impl_IsValidGame : Env := ⟨Try.prog, tys, (Try.f61.body).getD .skip, 27, tysOk, mixedOk⟩
abbrev q_impl_IsValidGame (r : Bool) (σ' : ASt) : Prop := resAV E61_impl_IsValidGame.T σ' Try.f61.results.toList = some (.bool r) ∧ keepO σ'.ob (namesO []) = []
noncomputable def m_impl_IsValidGame (a0 : Int) (a1 : List Int) : Option Bool :=
(m_impl_within a0 (1 : Int) (5 : Int)).bind fun v1 =>
bif !v1 then
(some false)
else
(grd ((0 : Int) ≤ a0) <|
bif (a1.length : Int) != (IntKind.i64.wrap ((1 : Int) * 2 ^ (min a0.toNat 64))) then
(some false)
else
(grd ((0 : Int) ≤ (0 : Int) ∧ (0 : Int) < (a1.length : Int)) <|
bif (a1.getD ((0 : Int).toNat) 0) != (0 : Int) then
(some false)
else
((m_slices_ContainsFunc_int_int_impl_IsValidGame_1 a1).bind fun v2 =>
some (!v2))))
theorem w_impl_IsValidGame (a0 : Int) (a1 : List Int) (r : Bool) (h : m_impl_IsValidGame a0 a1 = some r) : AM.Spec Try.prog 61 [.agg [.int .i64 a0, .list (.ints a1)]] [] (.bool r) [] := by
  refine spec_of (E := E61_impl_IsValidGame) Try.func61 rfl rfl rfl rfl ?_
  refine Tri.run 1 [] [.keep [1] [1]] (K' := [.code [(1, 0), (0, 0)] 0, .code [(1, 0)] 1, .code [] 2]) (σ' := ⟨[(1, .ptr 1 0)], [(1, .box [.int .i64 a0, .list (.ints a1)])]⟩) rfl trivial rfl ?_
  obtain ⟨v1, hk1, h⟩ := bind_some h
  rcases bif_some h with ⟨hd2, h⟩ | ⟨hd2, h⟩
  · refine Tri.run 1 [.r ⟨[], .bool v1, []⟩, .g true, .g true] [.keep [1, 22] [1]] (K' := [.code [(1, 0)] 1, .code [] 2]) (σ' := ⟨[(1, .ptr 1 0), (22, .bool true)], [(1, .box [.int .i64 a0, .list (.ints a1)])]⟩) rfl ⟨rfl, hd2, (w_impl_within a0 (1 : Int) (5 : Int) v1 hk1), trivial⟩ rfl ?_
    refine Tri.run 2 [.g true] [.keep [2] []] (K' := [.code [(1, 0), (1, 0)] 1, .code [] 2]) (σ' := ⟨[(2, .bool false)], []⟩) rfl ⟨rfl, trivial⟩ rfl ?_
    have h := Option.some.inj h
    subst h
    exact Tri.ret rfl ⟨.inl rfl, rfl, rfl⟩
  · obtain ⟨hg3, h⟩ := grd_some h
    rcases bif_some h with ⟨hd4, h⟩ | ⟨hd4, h⟩
    · refine Tri.run 1 [.r ⟨[], .bool v1, []⟩, .g false, .g true] [.keep [1, 22] [1]] (K' := [.code [(1, 0)] 1, .code [] 2]) (σ' := ⟨[(1, .ptr 1 0), (22, .bool true)], [(1, .box [.int .i64 a0, .list (.ints a1)])]⟩) rfl ⟨hd4, hg3, hd2, (w_impl_within a0 (1 : Int) (5 : Int) v1 hk1), trivial⟩ rfl ?_
      refine Tri.run 2 [.g true] [.keep [2] []] (K' := [.code [(1, 0), (1, 0)] 1, .code [] 2]) (σ' := ⟨[(2, .bool false)], []⟩) rfl ⟨rfl, trivial⟩ rfl ?_
      have h := Option.some.inj h
      subst h
      exact Tri.ret rfl ⟨.inl rfl, rfl, rfl⟩
    · obtain ⟨hg5, h⟩ := grd_some h
      refine Tri.run 1 [.r ⟨[], .bool v1, []⟩, .g false, .g false] [.keep [1, 22] [1]] (K' := [.code [(1, 0)] 1, .code [] 2]) (σ' := ⟨[(1, .ptr 1 0), (22, .bool ((a1.getD ((0 : Int).toNat) 0) != (0 : Int)))], [(1, .box [.int .i64 a0, .list (.ints a1)])]⟩) rfl ⟨hg5, hd4, hg3, hd2, (w_impl_within a0 (1 : Int) (5 : Int) v1 hk1), trivial⟩ rfl ?_
      rcases bif_some h with ⟨hd6, h⟩ | ⟨hd6, h⟩
      · refine Tri.run 2 [.g true] [.keep [2] []] (K' := [.code [(1, 0), (1, 0)] 1, .code [] 2]) (σ' := ⟨[(2, .bool false)], []⟩) rfl ⟨hd6, trivial⟩ rfl ?_
        have h := Option.some.inj h
        subst h
        exact Tri.ret rfl ⟨.inl rfl, rfl, rfl⟩
      · obtain ⟨v2, hk7, h⟩ := bind_some h
        refine Tri.run 2 [.g false, .r ⟨[], .bool v2, []⟩] [.keep [2] []] (K' := [.code [] 3]) (σ' := ⟨[(2, .bool (!v2))], []⟩) rfl ⟨(w_slices_ContainsFunc_int_int_impl_IsValidGame_1 a1 v2 hk7), hd6, trivial⟩ rfl ?_
        have h := Option.some.inj h
        subst h
        exact Tri.ret rfl ⟨.inl rfl, rfl, rfl⟩
/-! impl.HasPlayer -/
noncomputable def E109_impl_HasPlayer : Env := ⟨Try.prog, tys, (Try.f109.body).getD .skip, 18, tysOk, mixedOk⟩
abbrev q_impl_HasPlayer (r : Bool) (σ' : ASt) : Prop := resAV E109_impl_HasPlayer.T σ' Try.f109.results.toList = some (.bool r) ∧ keepO σ'.ob (namesO []) = []
noncomputable def m_impl_HasPlayer (a0 : Int) (a1 : Int) : Option Bool :=
bif decide (a0 ≥ (0 : Int)) then
((m_impl_within a1 (0 : Int) (4 : Int)).bind fun v1 =>
bif v1 then
(grd ((0 : Int) ≤ a1) <|
some ((bitsOf .and .i64 (a0.fdiv (2 ^ (min a1.toNat 64))) (1 : Int)) == (1 : Int)))
else
(some false))
else
(some false)
theorem w_impl_HasPlayer (a0 : Int) (a1 : Int) (r : Bool) (h : m_impl_HasPlayer a0 a1 = some r) : AM.Spec Try.prog 109 [.int .i64 a0, .int .i64 a1] [] (.bool r) [] := by
  refine spec_of (E := E109_impl_HasPlayer) Try.func109 rfl rfl rfl rfl ?_
  refine Tri.run 1 [] [.keep [0, 1] []] (K' := [.code [(1, 0)] 0, .code [] 2]) (σ' := ⟨[(0, .int .i64 a0), (1, .int .i64 a1)], []⟩) rfl trivial rfl ?_
  rcases bif_some h with ⟨hd1, h⟩ | ⟨hd1, h⟩
  · obtain ⟨v1, hk2, h⟩ := bind_some h
    rcases bif_some h with ⟨hd3, h⟩ | ⟨hd3, h⟩
    · obtain ⟨hg4, h⟩ := grd_some h
      refine Tri.run 1 [.g true, .r ⟨[], .bool v1, []⟩, .g true] [.keep [4] []] (K' := [.code [] 2]) (σ' := ⟨[(4, .bool ((bitsOf .and .i64 (a0.fdiv (2 ^ (min a1.toNat 64))) (1 : Int)) == (1 : Int)))], []⟩) rfl ⟨hg4, hd3, (w_impl_within a1 (0 : Int) (4 : Int) v1 hk2), hd1, trivial⟩ rfl ?_
      have h := Option.some.inj h
      subst h
      exact Tri.ret rfl ⟨.inl rfl, rfl, rfl⟩
    · refine Tri.run 1 [.g true, .r ⟨[], .bool v1, []⟩, .g false] [.keep [4] []] (K' := [.code [] 2]) (σ' := ⟨[(4, .bool false)], []⟩) rfl ⟨hd3, (w_impl_within a1 (0 : Int) (4 : Int) v1 hk2), hd1, trivial⟩ rfl ?_
      have h := Option.some.inj h
      subst h
      exact Tri.ret rfl ⟨.inl rfl, rfl, rfl⟩
  · refine Tri.run 1 [.g false, .g false] [.keep [4] []] (K' := [.code [] 2]) (σ' := ⟨[(4, .bool false)], []⟩) rfl ⟨rfl, hd1, trivial⟩ rfl ?_
    have h := Option.some.inj h
    subst h
    exact Tri.ret rfl ⟨.inl rfl, rfl, rfl⟩
/-! impl.MembersOf -/
noncomputable def E82_impl_MembersOf : Env := ⟨Try.prog, tys, (Try.f82.body).getD .skip, 21, tysOk, mixedOk⟩
abbrev q_impl_MembersOf (r : List Int) (σ' : ASt) : Prop := resAV E82_impl_MembersOf.T σ' Try.f82.results.toList = some (.sl 1000 0) ∧ keepO σ'.ob (namesO [(1000, .arr 3 0 0 (.ints r))]) = [(1000, .arr 3 0 0 (.ints r))]
noncomputable def l_impl_MembersOf_0 (a0 : Int) : (Int × (List Int)) → Option ((Int × (List Int)) ⊕ ((List Int)))
  | (v2, v3) => (
bif decide (v2 < (5 : Int)) then
((m_impl_HasPlayer a0 v2).bind fun v4 =>
bif v4 then
(grd (v3.length + ([v2] : List Int).length ≤ room) <|
some (.inl (IntKind.i64.wrap (v2 + (1 : Int)), v3 ++ [v2])))
else
(some (.inl (IntKind.i64.wrap (v2 + (1 : Int)), v3))))
else
(some (.inr v3)))
noncomputable def m_impl_MembersOf (a0 : Int) : Option (List Int) :=
(m_impl_within a0 (0 : Int) (31 : Int)).bind fun v1 =>
bif !v1 then
(some [])
else
((iter (l_impl_MembersOf_0 a0) ((0 : Int), [])).bind fun
| v5 => (
some v5))
theorem w_impl_MembersOf (a0 : Int) (r : List Int) (h : m_impl_MembersOf a0 = some r) : AM.Spec Try.prog 82 [.int .i64 a0] [] (.sl 1000 0) [(1000, .arr 3 0 0 (.ints r))] := by
  refine spec_of (E := E82_impl_MembersOf) Try.func82 rfl rfl rfl rfl ?_
  refine Tri.run 1 [] [.keep [0] []] (K' := [.code [(1, 0), (0, 0)] 0, .code [(1, 0)] 1, .code [] 2]) (σ' := ⟨[(0, .int .i64 a0)], []⟩) rfl trivial rfl ?_
  obtain ⟨v1, hk1, h⟩ := bind_some h
  refine Tri.run 1 [.r ⟨[], .bool v1, []⟩] [.keep [0, 7] []] (K' := [.code [(1, 0)] 1, .code [] 2]) (σ' := ⟨[(0, .int .i64 a0), (7, .bool (!v1))], []⟩) rfl ⟨(w_impl_within a0 (0 : Int) (31 : Int) v1 hk1), trivial⟩ rfl ?_
  rcases bif_some h with ⟨hd2, h⟩ | ⟨hd2, h⟩
  · refine Tri.run 2 [.g true] [.own 2 [] 1100 3, .swap 1100 1000, .keep [2] [1000]] (K' := [.code [(1, 0), (1, 0)] 1, .code [] 2]) (σ' := ⟨[(2, .sl 1000 0)], [(1000, .arr 3 0 0 (.ints []))]⟩) rfl ⟨hd2, trivial⟩ rfl ?_
    have h := Option.some.inj h
    subst h
    exact Tri.ret rfl ⟨.inl rfl, rfl, rfl⟩
  · refine Tri.run 3 [.g false] [.keep [0, 3, 9] [8]] (K' := [.code [(3, 0), (1, 0)] 0, .blk 0, .code [] 4]) (σ' := ⟨[(0, .int .i64 a0), (3, .sl 8 0), (9, .int .i64 (0 : Int))], [(8, .arr 3 0 0 (.ints []))]⟩) rfl ⟨hd2, trivial⟩ rfl ?_
    obtain ⟨v5, hk7, h⟩ := bind_some h
    refine Tri.loop (K1 := [.code [(3, 0), (1, 0), (0, 0)] 0]) (K2 := [.blk 0, .code [] 4]) (fun (v2, v3) => ⟨[(0, .int .i64 a0), (3, .sl 8 0), (9, .int .i64 v2)], [(8, .arr 3 0 0 (.ints v3))]⟩) (fun x e σ' => match x with | v5 => e = .exit 0 ∧ σ' = ⟨[(3, .sl 8 0)], [(8, .arr 3 0 0 (.ints v5))]⟩) hk7 rfl rfl ?_ ?_
    · intro s x hs
      clear h
      have h := hs
      clear hs
      obtain ⟨v2, v3⟩ := s
      refine Tri.run 1 [] [.keep [0, 3, 9, 10] [8]] (K' := [.code [(3, 0), (1, 0), (0, 0), (1, 0)] 0, .code [(3, 0), (1, 0), (0, 0)] 2]) (σ' := ⟨[(0, .int .i64 a0), (3, .sl 8 0), (9, .int .i64 v2), (10, .bool (decide (v2 < (5 : Int))))], [(8, .arr 3 0 0 (.ints v3))]⟩) rfl trivial rfl ?_
      rcases bif_some h with ⟨hd3, h⟩ | ⟨hd3, h⟩
      · refine Tri.run 2 [.g true] [.keep [0, 3, 4, 9] [8]] (K' := [.code [(3, 0), (1, 0), (0, 0), (2, 0), (0, 0), (1, 0)] 0, .code [(3, 0), (1, 0), (0, 0), (2, 0), (0, 0)] 2, .blk 1, .code [(3, 0), (1, 0), (0, 0)] 3]) (σ' := ⟨[(0, .int .i64 a0), (3, .sl 8 0), (4, .int .i64 v2), (9, .int .i64 v2)], [(8, .arr 3 0 0 (.ints v3))]⟩) rfl ⟨hd3, trivial⟩ rfl ?_
        obtain ⟨v4, hk4, h⟩ := bind_some h
        refine Tri.run 1 [.r ⟨[], .bool v4, []⟩] [.keep [0, 3, 4, 9, 14] [8]] (K' := [.code [(3, 0), (1, 0), (0, 0), (2, 0), (0, 0)] 2, .blk 1, .code [(3, 0), (1, 0), (0, 0)] 3]) (σ' := ⟨[(0, .int .i64 a0), (3, .sl 8 0), (4, .int .i64 v2), (9, .int .i64 v2), (14, .bool v4)], [(8, .arr 3 0 0 (.ints v3))]⟩) rfl ⟨(w_impl_HasPlayer a0 v2 v4 hk4), trivial⟩ rfl ?_
        rcases bif_some h with ⟨hd5, h⟩ | ⟨hd5, h⟩
        · obtain ⟨hg6, h⟩ := grd_some h
          refine Tri.run 3 [.g true] [.rever 8, .keep [0, 3, 9] [8]] (K' := []) (σ' := ⟨[(0, .int .i64 a0), (3, .sl 8 0), (9, .int .i64 (IntKind.i64.wrap (v2 + (1 : Int))))], [(8, .arr 3 0 0 (.ints (v3 ++ [v2])))]⟩) rfl ⟨hg6, hd5, trivial⟩ rfl ?_
          have h := Option.some.inj h
          subst h
          exact Tri.nil ⟨rfl, rfl⟩
        · refine Tri.run 2 [.g false] [.keep [0, 3, 9] [8]] (K' := []) (σ' := ⟨[(0, .int .i64 a0), (3, .sl 8 0), (9, .int .i64 (IntKind.i64.wrap (v2 + (1 : Int))))], [(8, .arr 3 0 0 (.ints v3))]⟩) rfl ⟨hd5, trivial⟩ rfl ?_
          have h := Option.some.inj h
          subst h
          exact Tri.nil ⟨rfl, rfl⟩
      · refine Tri.run 1 [.g false] [.keep [3] [8]] (K' := [.code [(3, 0), (1, 0), (0, 0), (1, 0), (0, 1)] 0, .code [(3, 0), (1, 0), (0, 0)] 2]) (σ' := ⟨[(3, .sl 8 0)], [(8, .arr 3 0 0 (.ints v3))]⟩) rfl ⟨hd3, trivial⟩ rfl ?_
        have h := Option.some.inj h
        subst h
        exact Tri.out 0 rfl ⟨nofun, rfl, rfl⟩
    · intro e σ' hne hq
      obtain ⟨rfl, rfl⟩ := hq
      refine TriX.exit (K' := [.code [] 4]) rfl ?_
      refine Tri.run 1 [] [.swap 8 1000, .keep [2] [1000]] (K' := [.code [] 5]) (σ' := ⟨[(2, .sl 1000 0)], [(1000, .arr 3 0 0 (.ints v5))]⟩) rfl trivial rfl ?_
      have h := Option.some.inj h
      subst h
      exact Tri.ret rfl ⟨.inl rfl, rfl, rfl⟩
/-! impl.CountCoalitions -/
noncomputable def E67_impl_CountCoalitions : Env := ⟨Try.prog, tys, (Try.f67.body).getD .skip, 8, tysOk, mixedOk⟩
abbrev q_impl_CountCoalitions (r : Int) (σ' : ASt) : Prop := resAV E67_impl_CountCoalitions.T σ' Try.f67.results.toList = some (.int .i64 r) ∧ keepO σ'.ob (namesO []) = []
noncomputable def m_impl_CountCoalitions (a0 : Int) : Option Int :=
(m_impl_within a0 (0 : Int) (5 : Int)).bind fun v1 =>
bif !v1 then
(some (0 : Int))
else
(grd ((0 : Int) ≤ a0) <|
some (IntKind.i64.wrap ((1 : Int) * 2 ^ (min a0.toNat 64))))
theorem w_impl_CountCoalitions (a0 : Int) (r : Int) (h : m_impl_CountCoalitions a0 = some r) : AM.Spec Try.prog 67 [.int .i64 a0] [] (.int .i64 r) [] := by
  refine spec_of (E := E67_impl_CountCoalitions) Try.func67 rfl rfl rfl rfl ?_
  refine Tri.run 1 [] [.keep [0] []] (K' := [.code [(1, 0), (0, 0)] 0, .code [(1, 0)] 1, .code [] 2]) (σ' := ⟨[(0, .int .i64 a0)], []⟩) rfl trivial rfl ?_
  obtain ⟨v1, hk1, h⟩ := bind_some h
  refine Tri.run 1 [.r ⟨[], .bool v1, []⟩] [.keep [0, 5] []] (K' := [.code [(1, 0)] 1, .code [] 2]) (σ' := ⟨[(0, .int .i64 a0), (5, .bool (!v1))], []⟩) rfl ⟨(w_impl_within a0 (0 : Int) (5 : Int) v1 hk1), trivial⟩ rfl ?_
  rcases bif_some h with ⟨hd2, h⟩ | ⟨hd2, h⟩
  · refine Tri.run 2 [.g true] [.keep [2] []] (K' := [.code [(1, 0), (1, 0)] 1, .code [] 2]) (σ' := ⟨[(2, .int .i64 (0 : Int))], []⟩) rfl ⟨hd2, trivial⟩ rfl ?_
    have h := Option.some.inj h
    subst h
    exact Tri.ret rfl ⟨.inl rfl, rfl, rfl⟩
  · obtain ⟨hg3, h⟩ := grd_some h
    refine Tri.run 2 [.g false] [.keep [2] []] (K' := [.code [] 3]) (σ' := ⟨[(2, .int .i64 (IntKind.i64.wrap ((1 : Int) * 2 ^ (min a0.toNat 64))))], []⟩) rfl ⟨hg3, hd2, trivial⟩ rfl ?_
    have h := Option.some.inj h
    subst h
    exact Tri.ret rfl ⟨.inl rfl, rfl, rfl⟩
/-! impl.Restrict$1 -/
noncomputable def E85_impl_Restrict_1 : Env := ⟨Try.prog, tys, (Try.f85.body).getD .skip, 29, tysOk, mixedOk⟩
abbrev q_impl_Restrict_1 (r : Int) (σ' : ASt) : Prop := resAV E85_impl_Restrict_1.T σ' Try.f85.results.toList = some (.int .i64 r) ∧ keepO σ'.ob (namesO []) = []
noncomputable def l_impl_Restrict_1_0 (a0 : Int) (a1 : List Int) : (Int × Int) → Option ((Int × Int) ⊕ Int)
  | (v1, v2) => (
bif decide (v2 < (a1.length : Int)) then
(grd ((0 : Int) ≤ v2 ∧ v2 < (a1.length : Int)) <|
grd ((0 : Int) ≤ v2) <|
grd ((0 : Int) ≤ a1.getD v2.toNat 0) <|
some (.inl (bitsOf .or .i64 v1 (IntKind.i64.wrap ((bitsOf .and .i64 (a0.fdiv (2 ^ (min v2.toNat 64))) (1 : Int)) * 2 ^ (min (a1.getD v2.toNat 0).toNat 64))), IntKind.i64.wrap (v2 + (1 : Int)))))
else
(some (.inr v1)))
noncomputable def m_impl_Restrict_1 (a0 : Int) (a1 : List Int) (_a2 : Int) (a3 : List Int) : Option Int :=
(iter (l_impl_Restrict_1_0 a0 a1) ((0 : Int), (0 : Int))).bind fun
| v3 => (
grd ((0 : Int) ≤ v3 ∧ v3 < (a3.length : Int)) <|
some (a3.getD v3.toNat 0))
theorem w_impl_Restrict_1 (a0 : Int) (a1 : List Int) (a2 : Int) (a3 : List Int) (r : Int) (h : m_impl_Restrict_1 a0 a1 a2 a3 = some r) : AM.Spec Try.prog 85 [.int .i64 a0, .pbox [.list (.ints a1)] 0, .pbox [.int .i64 a2, .list (.ints a3)] 0] [] (.int .i64 r) [] := by
  refine spec_of (E := E85_impl_Restrict_1) Try.func85 rfl rfl rfl rfl ?_
  refine Tri.run 3 [] [.keep [0, 2, 5, 8, 9, 10] []] (K' := [.code [(2, 0), (1, 0)] 0, .blk 0, .code [] 3]) (σ' := ⟨[(0, .int .i64 a0), (2, .pbox [.int .i64 a2, .list (.ints a3)] 0), (5, .int .i64 (0 : Int)), (8, .list (.ints a1)), (9, .int .i64 (a1.length : Int)), (10, .int .i64 (0 : Int))], []⟩) rfl trivial rfl ?_
  obtain ⟨v3, hk5, h⟩ := bind_some h
  refine Tri.loop (K1 := [.code [(2, 0), (1, 0), (0, 0)] 0]) (K2 := [.blk 0, .code [] 3]) (fun (v1, v2) => ⟨[(0, .int .i64 a0), (2, .pbox [.int .i64 a2, .list (.ints a3)] 0), (5, .int .i64 v1), (8, .list (.ints a1)), (9, .int .i64 (a1.length : Int)), (10, .int .i64 v2)], []⟩) (fun x e σ' => match x with | v3 => e = .exit 0 ∧ σ' = ⟨[(2, .pbox [.int .i64 a2, .list (.ints a3)] 0), (5, .int .i64 v3)], []⟩) hk5 rfl rfl ?_ ?_
  · intro s x hs
    clear h
    have h := hs
    clear hs
    obtain ⟨v1, v2⟩ := s
    refine Tri.run 1 [] [.keep [0, 2, 5, 8, 9, 10, 11] []] (K' := [.code [(2, 0), (1, 0), (0, 0), (1, 0)] 0, .code [(2, 0), (1, 0), (0, 0)] 2]) (σ' := ⟨[(0, .int .i64 a0), (2, .pbox [.int .i64 a2, .list (.ints a3)] 0), (5, .int .i64 v1), (8, .list (.ints a1)), (9, .int .i64 (a1.length : Int)), (10, .int .i64 v2), (11, .bool (decide (v2 < (a1.length : Int))))], []⟩) rfl trivial rfl ?_
    rcases bif_some h with ⟨hd1, h⟩ | ⟨hd1, h⟩
    · obtain ⟨hg2, h⟩ := grd_some h
      obtain ⟨hg3, h⟩ := grd_some h
      obtain ⟨hg4, h⟩ := grd_some h
      refine Tri.run 3 [.g true] [.keep [0, 2, 5, 8, 9, 10] []] (K' := [.code [(2, 0), (1, 0), (0, 0)] 3]) (σ' := ⟨[(0, .int .i64 a0), (2, .pbox [.int .i64 a2, .list (.ints a3)] 0), (5, .int .i64 (bitsOf .or .i64 v1 (IntKind.i64.wrap ((bitsOf .and .i64 (a0.fdiv (2 ^ (min v2.toNat 64))) (1 : Int)) * 2 ^ (min (a1.getD v2.toNat 0).toNat 64))))), (8, .list (.ints a1)), (9, .int .i64 (a1.length : Int)), (10, .int .i64 v2)], []⟩) rfl ⟨hg4, hg3, hg2, hd1, trivial⟩ rfl ?_
      refine Tri.run 1 [] [.keep [0, 2, 5, 8, 9, 10] []] (K' := []) (σ' := ⟨[(0, .int .i64 a0), (2, .pbox [.int .i64 a2, .list (.ints a3)] 0), (5, .int .i64 (bitsOf .or .i64 v1 (IntKind.i64.wrap ((bitsOf .and .i64 (a0.fdiv (2 ^ (min v2.toNat 64))) (1 : Int)) * 2 ^ (min (a1.getD v2.toNat 0).toNat 64))))), (8, .list (.ints a1)), (9, .int .i64 (a1.length : Int)), (10, .int .i64 (IntKind.i64.wrap (v2 + (1 : Int))))], []⟩) rfl trivial rfl ?_
      have h := Option.some.inj h
      subst h
      exact Tri.nil ⟨rfl, rfl⟩
    · refine Tri.run 1 [.g false] [.keep [2, 5] []] (K' := [.code [(2, 0), (1, 0), (0, 0), (1, 0), (0, 1)] 0, .code [(2, 0), (1, 0), (0, 0)] 2]) (σ' := ⟨[(2, .pbox [.int .i64 a2, .list (.ints a3)] 0), (5, .int .i64 v1)], []⟩) rfl ⟨hd1, trivial⟩ rfl ?_
      have h := Option.some.inj h
      subst h
      exact Tri.out 0 rfl ⟨nofun, rfl, rfl⟩
  · intro e σ' hne hq
    obtain ⟨rfl, rfl⟩ := hq
    refine TriX.exit (K' := [.code [] 3]) rfl ?_
    obtain ⟨hg6, h⟩ := grd_some h
    refine Tri.run 1 [] [.keep [4] []] (K' := [.code [] 4]) (σ' := ⟨[(4, .int .i64 (a3.getD v3.toNat 0))], []⟩) rfl ⟨hg6, trivial⟩ rfl ?_
    have h := Option.some.inj h
    subst h
    exact Tri.ret rfl ⟨.inl rfl, rfl, rfl⟩
/-! impl.made -/
noncomputable def E68_impl_made : Env := ⟨Try.prog, tys, (Try.f68.body).getD .skip, 29, tysOk, mixedOk⟩
abbrev q_impl_made_impl_Restrict_1 (r : Int × Bool × (List Int)) (σ' : ASt) : Prop := resAV E68_impl_made.T σ' Try.f68.results.toList = some (.tuple [.agg [.int .i64 r.1, .sl 1000 0], .bool r.2.1]) ∧ keepO σ'.ob (namesO [(1000, .arr 3 0 0 (.ints r.2.2))]) = [(1000, .arr 3 0 0 (.ints r.2.2))]
noncomputable def l_impl_made_impl_Restrict_1_0 (a1 : List Int) (a2 : Int) (a3 : List Int) (v1 : Int) : (Int × (List Int)) → Option ((Int × (List Int)) ⊕ ((List Int)))
  | (v2, v3) => (
bif decide (v2 < v1) then
((m_impl_Restrict_1 v2 a1 a2 a3).bind fun v4 =>
grd (v3.length + ([v4] : List Int).length ≤ room) <|
some (.inl (IntKind.i64.wrap (v2 + (1 : Int)), v3 ++ [v4])))
else
(some (.inr v3)))
noncomputable def m_impl_made_impl_Restrict_1 (a0 : Int) (a1 : List Int) (a2 : Int) (a3 : List Int) : Option (Int × Bool × (List Int)) :=
(m_impl_CountCoalitions a0).bind fun v1 =>
(iter (l_impl_made_impl_Restrict_1_0 a1 a2 a3 v1) ((0 : Int), [])).bind fun
| v5 => (
(m_impl_IsValidGame a0 v5).bind fun v6 =>
bif !v6 then
(some (0, false, []))
else
(some (a0, true, v5)))
theorem w_impl_made_impl_Restrict_1 (a0 : Int) (a1 : List Int) (a2 : Int) (a3 : List Int) (r : Int × Bool × (List Int)) (h : m_impl_made_impl_Restrict_1 a0 a1 a2 a3 = some r) : AM.Spec Try.prog 68 [.int .i64 a0, .func 85 [] [.pbox [.list (.ints a1)] 0, .pbox [.int .i64 a2, .list (.ints a3)] 0]] [] (.tuple [.agg [.int .i64 r.1, .sl 1000 0], .bool r.2.1]) [(1000, .arr 3 0 0 (.ints r.2.2))] := by
  refine spec_of (E := E68_impl_made) Try.func68 rfl rfl rfl rfl ?_
  refine Tri.run 2 [] [.keep [0, 1, 4, 6] [4, 6]] (K' := [.code [(2, 0), (0, 0)] 0, .code [(2, 0)] 1, .code [] 3]) (σ' := ⟨[(0, .int .i64 a0), (1, .func 85 [] [.pbox [.list (.ints a1)] 0, .pbox [.int .i64 a2, .list (.ints a3)] 0]), (4, .ptr 4 0), (6, .ptr 6 0)], [(4, .box [.int .i64 0, .nil (.ints [])]), (6, .box [.int .i64 a0, .nil (.ints [])])]⟩) rfl trivial rfl ?_
  obtain ⟨v1, hk1, h⟩ := bind_some h
  refine Tri.run 1 [.r ⟨[], .int .i64 v1, []⟩] [.ownc 4 1 1100 3, .ownc 6 1 1101 3, .keep [1, 4, 6, 11, 12] [4, 6, 1100, 1101]] (K' := [.code [(2, 0), (1, 0)] 0, .blk 0, .code [] 3]) (σ' := ⟨[(1, .func 85 [] [.pbox [.list (.ints a1)] 0, .pbox [.int .i64 a2, .list (.ints a3)] 0]), (4, .ptr 4 0), (6, .ptr 6 0), (11, .int .i64 v1), (12, .int .i64 (0 : Int))], [(4, .box [.int .i64 0, .sl 1100 0]), (6, .box [.int .i64 a0, .sl 1101 0]), (1100, .arr 3 0 0 (.ints [])), (1101, .arr 3 0 0 (.ints []))]⟩) rfl ⟨(w_impl_CountCoalitions a0 v1 hk1), trivial⟩ rfl ?_
  obtain ⟨v5, hk5, h⟩ := bind_some h
  refine Tri.loop (K1 := [.code [(2, 0), (1, 0), (0, 0)] 0]) (K2 := [.blk 0, .code [] 3]) (fun (v2, v3) => ⟨[(1, .func 85 [] [.pbox [.list (.ints a1)] 0, .pbox [.int .i64 a2, .list (.ints a3)] 0]), (4, .ptr 4 0), (6, .ptr 6 0), (11, .int .i64 v1), (12, .int .i64 v2)], [(4, .box [.int .i64 0, .sl 1100 0]), (6, .box [.int .i64 a0, .sl 1101 0]), (1100, .arr 3 0 0 (.ints [])), (1101, .arr 3 0 0 (.ints v3))]⟩) (fun x e σ' => match x with | v5 => e = .exit 0 ∧ σ' = ⟨[(4, .ptr 4 0), (6, .ptr 6 0)], [(4, .box [.int .i64 0, .sl 1100 0]), (6, .box [.int .i64 a0, .sl 1101 0]), (1100, .arr 3 0 0 (.ints [])), (1101, .arr 3 0 0 (.ints v5))]⟩) hk5 rfl rfl ?_ ?_
  · intro s x hs
    clear h
    have h := hs
    clear hs
    obtain ⟨v2, v3⟩ := s
    refine Tri.run 1 [] [.keep [1, 4, 6, 11, 12, 13] [4, 6, 1100, 1101]] (K' := [.code [(2, 0), (1, 0), (0, 0), (1, 0)] 0, .code [(2, 0), (1, 0), (0, 0)] 2]) (σ' := ⟨[(1, .func 85 [] [.pbox [.list (.ints a1)] 0, .pbox [.int .i64 a2, .list (.ints a3)] 0]), (4, .ptr 4 0), (6, .ptr 6 0), (11, .int .i64 v1), (12, .int .i64 v2), (13, .bool (decide (v2 < v1)))], [(4, .box [.int .i64 0, .sl 1100 0]), (6, .box [.int .i64 a0, .sl 1101 0]), (1100, .arr 3 0 0 (.ints [])), (1101, .arr 3 0 0 (.ints v3))]⟩) rfl trivial rfl ?_
    rcases bif_some h with ⟨hd2, h⟩ | ⟨hd2, h⟩
    · refine Tri.run 2 [.g true] [.keep [1, 4, 6, 7, 11, 12] [4, 6, 1100, 1101]] (K' := [.code [(2, 0), (1, 0), (0, 0), (2, 0), (0, 0)] 1, .blk 1, .code [(2, 0), (1, 0), (0, 0)] 3]) (σ' := ⟨[(1, .func 85 [] [.pbox [.list (.ints a1)] 0, .pbox [.int .i64 a2, .list (.ints a3)] 0]), (4, .ptr 4 0), (6, .ptr 6 0), (7, .int .i64 v2), (11, .int .i64 v1), (12, .int .i64 v2)], [(4, .box [.int .i64 0, .sl 1100 0]), (6, .box [.int .i64 a0, .sl 1101 0]), (1100, .arr 3 0 0 (.ints [])), (1101, .arr 3 0 0 (.ints v3))]⟩) rfl ⟨hd2, trivial⟩ rfl ?_
      obtain ⟨v4, hk3, h⟩ := bind_some h
      obtain ⟨hg4, h⟩ := grd_some h
      refine Tri.run 2 [.r ⟨[], .int .i64 v4, []⟩] [.rever 1101, .keep [1, 4, 6, 11, 12] [4, 6, 1100, 1101]] (K' := []) (σ' := ⟨[(1, .func 85 [] [.pbox [.list (.ints a1)] 0, .pbox [.int .i64 a2, .list (.ints a3)] 0]), (4, .ptr 4 0), (6, .ptr 6 0), (11, .int .i64 v1), (12, .int .i64 (IntKind.i64.wrap (v2 + (1 : Int))))], [(4, .box [.int .i64 0, .sl 1100 0]), (6, .box [.int .i64 a0, .sl 1101 0]), (1100, .arr 3 0 0 (.ints [])), (1101, .arr 3 0 0 (.ints (v3 ++ [v4])))]⟩) rfl ⟨hg4, (w_impl_Restrict_1 v2 a1 a2 a3 v4 hk3), trivial⟩ rfl ?_
      have h := Option.some.inj h
      subst h
      exact Tri.nil ⟨rfl, rfl⟩
    · refine Tri.run 1 [.g false] [.keep [4, 6] [4, 6, 1100, 1101]] (K' := [.code [(2, 0), (1, 0), (0, 0), (1, 0), (0, 1)] 0, .code [(2, 0), (1, 0), (0, 0)] 2]) (σ' := ⟨[(4, .ptr 4 0), (6, .ptr 6 0)], [(4, .box [.int .i64 0, .sl 1100 0]), (6, .box [.int .i64 a0, .sl 1101 0]), (1100, .arr 3 0 0 (.ints [])), (1101, .arr 3 0 0 (.ints v3))]⟩) rfl ⟨hd2, trivial⟩ rfl ?_
      have h := Option.some.inj h
      subst h
      exact Tri.out 0 rfl ⟨nofun, rfl, rfl⟩
  · intro e σ' hne hq
    obtain ⟨rfl, rfl⟩ := hq
    refine TriX.exit (K' := [.code [] 3]) rfl ?_
    obtain ⟨v6, hk6, h⟩ := bind_some h
    refine Tri.run 1 [.r ⟨[], .bool v6, []⟩] [.keep [4, 6, 26] [4, 6, 1100, 1101]] (K' := [.code [(3, 0)] 1, .code [] 4]) (σ' := ⟨[(4, .ptr 4 0), (6, .ptr 6 0), (26, .bool (!v6))], [(4, .box [.int .i64 0, .sl 1100 0]), (6, .box [.int .i64 a0, .sl 1101 0]), (1100, .arr 3 0 0 (.ints [])), (1101, .arr 3 0 0 (.ints v5))]⟩) rfl ⟨(w_impl_IsValidGame a0 v5 v6 hk6), trivial⟩ rfl ?_
    rcases bif_some h with ⟨hd7, h⟩ | ⟨hd7, h⟩
    · refine Tri.run 2 [.g true] [.ownc 4 1 1102 3, .swap 1102 1000, .keep [4, 5] [4, 1000]] (K' := [.code [(3, 0), (1, 0)] 1, .code [] 4]) (σ' := ⟨[(4, .ptr 4 0), (5, .bool false)], [(4, .box [.int .i64 0, .sl 1000 0]), (1000, .arr 3 0 0 (.ints []))]⟩) rfl ⟨hd7, trivial⟩ rfl ?_
      have h := Option.some.inj h
      subst h
      exact Tri.ret rfl ⟨.inl rfl, rfl, rfl⟩
    · refine Tri.run 2 [.g false] [.swap 1101 1000, .keep [4, 5] [4, 1000]] (K' := [.code [] 5]) (σ' := ⟨[(4, .ptr 4 0), (5, .bool true)], [(4, .box [.int .i64 a0, .sl 1000 0]), (1000, .arr 3 0 0 (.ints v5))]⟩) rfl ⟨hd7, trivial⟩ rfl ?_
      have h := Option.some.inj h
      subst h
      exact Tri.ret rfl ⟨.inl rfl, rfl, rfl⟩
/-! impl.Restrict -/
noncomputable def E46_impl_Restrict : Env := ⟨Try.prog, tys, (Try.f46.body).getD .skip, 28, tysOk, mixedOk⟩
abbrev q_impl_Restrict (r : Int × Bool × (List Int)) (σ' : ASt) : Prop := resAV E46_impl_Restrict.T σ' Try.f46.results.toList = some (.tuple [.agg [.int .i64 r.1, .sl 1000 0], .bool r.2.1]) ∧ keepO σ'.ob (namesO [(1000, .arr 3 0 0 (.ints r.2.2))]) = [(1000, .arr 3 0 0 (.ints r.2.2))]
noncomputable def m_impl_Restrict (a0 : Int) (a1 : List Int) (a2 : Int) : Option (Int × Bool × (List Int)) :=
(m_impl_IsValidGame a0 a1).bind fun v1 =>
bif !v1 then
(some (0, false, []))
else
((m_impl_within a2 (1 : Int) (IntKind.i64.wrap ((a1.length : Int) - (1 : Int)))).bind fun v2 =>
bif !v2 then
(some (0, false, []))
else
((m_impl_MembersOf a2).bind fun v3 =>
(m_impl_made_impl_Restrict_1 (v3.length : Int) v3 a0 a1).bind fun (v4, v5, v6) =>
some (v4, v5, v6)))
theorem w_impl_Restrict (a0 : Int) (a1 : List Int) (a2 : Int) (r : Int × Bool × (List Int)) (h : m_impl_Restrict a0 a1 a2 = some r) : AM.Spec Try.prog 46 [.agg [.int .i64 a0, .list (.ints a1)], .int .i64 a2] [] (.tuple [.agg [.int .i64 r.1, .sl 1000 0], .bool r.2.1]) [(1000, .arr 3 0 0 (.ints r.2.2))] := by
  refine spec_of (E := E46_impl_Restrict) Try.func46 rfl rfl rfl rfl ?_
  refine Tri.run 1 [] [.keep [1, 2, 4] [2, 4]] (K' := [.code [(1, 0), (0, 0)] 0, .code [(1, 0)] 1, .code [] 2]) (σ' := ⟨[(1, .int .i64 a2), (2, .ptr 2 0), (4, .ptr 4 0)], [(2, .box [.int .i64 a0, .list (.ints a1)]), (4, .box [.int .i64 0, .nil (.ints [])])]⟩) rfl trivial rfl ?_
  obtain ⟨v1, hk1, h⟩ := bind_some h
  rcases bif_some h with ⟨hd2, h⟩ | ⟨hd2, h⟩
  · refine Tri.run 1 [.r ⟨[], .bool v1, []⟩, .g true] [.keep [1, 2, 4, 18] [2, 4]] (K' := [.code [(1, 0)] 1, .code [] 2]) (σ' := ⟨[(1, .int .i64 a2), (2, .ptr 2 0), (4, .ptr 4 0), (18, .bool true)], [(2, .box [.int .i64 a0, .list (.ints a1)]), (4, .box [.int .i64 0, .nil (.ints [])])]⟩) rfl ⟨hd2, (w_impl_IsValidGame a0 a1 v1 hk1), trivial⟩ rfl ?_
    refine Tri.run 2 [.g true] [.ownc 4 1 1100 3, .swap 1100 1000, .keep [4, 5] [4, 1000]] (K' := [.code [(1, 0), (1, 0)] 1, .code [] 2]) (σ' := ⟨[(4, .ptr 4 0), (5, .bool false)], [(4, .box [.int .i64 0, .sl 1000 0]), (1000, .arr 3 0 0 (.ints []))]⟩) rfl ⟨rfl, trivial⟩ rfl ?_
    have h := Option.some.inj h
    subst h
    exact Tri.ret rfl ⟨.inl rfl, rfl, rfl⟩
  · obtain ⟨v2, hk3, h⟩ := bind_some h
    refine Tri.run 1 [.r ⟨[], .bool v1, []⟩, .g false, .r ⟨[], .bool v2, []⟩] [.keep [1, 2, 4, 18] [2, 4]] (K' := [.code [(1, 0)] 1, .code [] 2]) (σ' := ⟨[(1, .int .i64 a2), (2, .ptr 2 0), (4, .ptr 4 0), (18, .bool (!v2))], [(2, .box [.int .i64 a0, .list (.ints a1)]), (4, .box [.int .i64 0, .nil (.ints [])])]⟩) rfl ⟨(w_impl_within a2 (1 : Int) (IntKind.i64.wrap ((a1.length : Int) - (1 : Int))) v2 hk3), hd2, (w_impl_IsValidGame a0 a1 v1 hk1), trivial⟩ rfl ?_
    rcases bif_some h with ⟨hd4, h⟩ | ⟨hd4, h⟩
    · refine Tri.run 2 [.g true] [.ownc 4 1 1101 3, .swap 1101 1000, .keep [4, 5] [4, 1000]] (K' := [.code [(1, 0), (1, 0)] 1, .code [] 2]) (σ' := ⟨[(4, .ptr 4 0), (5, .bool false)], [(4, .box [.int .i64 0, .sl 1000 0]), (1000, .arr 3 0 0 (.ints []))]⟩) rfl ⟨hd4, trivial⟩ rfl ?_
      have h := Option.some.inj h
      subst h
      exact Tri.ret rfl ⟨.inl rfl, rfl, rfl⟩
    · obtain ⟨v3, hk5, h⟩ := bind_some h
      refine Tri.run 2 [.g false, .r ⟨[], .sl 1102 0, [(1102, .arr 3 0 0 (.ints v3))]⟩] [.keep [2, 4, 6] [2, 4, 6, 1102]] (K' := [.code [(3, 0)] 0, .code [] 4]) (σ' := ⟨[(2, .ptr 2 0), (4, .ptr 4 0), (6, .ptr 6 0)], [(2, .box [.int .i64 a0, .list (.ints a1)]), (4, .box [.int .i64 0, .nil (.ints [])]), (6, .box [.sl 1102 0]), (1102, .arr 3 0 0 (.ints v3))]⟩) rfl ⟨((w_impl_MembersOf a2 v3 hk5).swap 1000 1102), hd4, trivial⟩ rfl ?_
      obtain ⟨⟨v4, v5, v6⟩, hk6, h⟩ := bind_some h
      refine Tri.run 1 [.r ⟨[], .tuple [.agg [.int .i64 v4, .sl 1103 0], .bool v5], [(1103, .arr 3 0 0 (.ints v6))]⟩] [.swap 1103 1000, .keep [4, 5] [4, 1000]] (K' := [.code [] 4]) (σ' := ⟨[(4, .ptr 4 0), (5, .bool v5)], [(4, .box [.int .i64 v4, .sl 1000 0]), (1000, .arr 3 0 0 (.ints v6))]⟩) rfl ⟨((w_impl_made_impl_Restrict_1 (v3.length : Int) v3 a0 a1 (v4, v5, v6) hk6).swap 1000 1103), trivial⟩ rfl ?_
      have h := Option.some.inj h
      subst h
      exact Tri.ret rfl ⟨.inl rfl, rfl, rfl⟩
/-! laws.eqIntS -/
noncomputable def E33_laws_eqIntS : Env := ⟨Try.prog, tys, (Try.f33.body).getD .skip, 26, tysOk, mixedOk⟩
abbrev q_laws_eqIntS (r : Bool) (σ' : ASt) : Prop := resAV E33_laws_eqIntS.T σ' Try.f33.results.toList = some (.bool r) ∧ keepO σ'.ob (namesO []) = []
noncomputable def l_laws_eqIntS_0 (a0 : List Int) (a1 : List Int) (v1 : Int) : Option (Int ⊕ (Unit ⊕ Bool)) :=
bif decide (v1 < (a0.length : Int)) then
(grd ((0 : Int) ≤ v1 ∧ v1 < (a0.length : Int)) <|
grd ((0 : Int) ≤ v1 ∧ v1 < (a1.length : Int)) <|
bif (a0.getD v1.toNat 0) != (a1.getD v1.toNat 0) then
(some (.inr (.inr false)))
else
(some (.inl (IntKind.i64.wrap (v1 + (1 : Int))))))
else
(some (.inr (.inl ())))
noncomputable def m_laws_eqIntS (a0 : List Int) (a1 : List Int) : Option Bool :=
bif (a0.length : Int) != (a1.length : Int) then
(some false)
else
((iter (l_laws_eqIntS_0 a0 a1) (0 : Int)).bind fun
| (.inl _) => (
some true)
| (.inr r) => some r)
theorem w_laws_eqIntS (a0 : List Int) (a1 : List Int) (r : Bool) (h : m_laws_eqIntS a0 a1 = some r) : AM.Spec Try.prog 33 [.list (.ints a0), .list (.ints a1)] [] (.bool r) [] := by
  refine spec_of (E := E33_laws_eqIntS) Try.func33 rfl rfl rfl rfl ?_
  refine Tri.run 2 [] [.keep [0, 1, 10] []] (K' := [.code [(1, 0)] 1, .code [] 2]) (σ' := ⟨[(0, .list (.ints a0)), (1, .list (.ints a1)), (10, .bool ((a0.length : Int) != (a1.length : Int)))], []⟩) rfl trivial rfl ?_
  rcases bif_some h with ⟨hd1, h⟩ | ⟨hd1, h⟩
  · refine Tri.run 2 [.g true] [.keep [4] []] (K' := [.code [(1, 0), (1, 0)] 1, .code [] 2]) (σ' := ⟨[(4, .bool false)], []⟩) rfl ⟨hd1, trivial⟩ rfl ?_
    have h := Option.some.inj h
    subst h
    exact Tri.ret rfl ⟨.inl rfl, rfl, rfl⟩
  · refine Tri.run 2 [.g false] [.keep [0, 1, 5] []] (K' := [.code [(2, 0), (1, 0)] 0, .blk 0, .code [] 3]) (σ' := ⟨[(0, .list (.ints a0)), (1, .list (.ints a1)), (5, .int .i64 (0 : Int))], []⟩) rfl ⟨hd1, trivial⟩ rfl ?_
    obtain ⟨x1, hk6, h⟩ := bind_some h
    refine Tri.loop (K1 := [.code [(2, 0), (1, 0), (0, 0)] 0]) (K2 := [.blk 0, .code [] 3]) (fun v1 => ⟨[(0, .list (.ints a0)), (1, .list (.ints a1)), (5, .int .i64 v1)], []⟩) (fun x e σ' => match x with | (.inl _) => e = .exit 0 ∧ σ' = ⟨[], []⟩ | (.inr r) => e = .ret ∧ q_laws_eqIntS r σ') hk6 rfl rfl ?_ ?_
    · intro v1 x hs
      clear h
      have h := hs
      clear hs
      refine Tri.run 1 [] [.keep [0, 1, 5, 14] []] (K' := [.code [(2, 0), (1, 0), (0, 0), (0, 0)] 1, .code [(2, 0), (1, 0), (0, 0)] 1]) (σ' := ⟨[(0, .list (.ints a0)), (1, .list (.ints a1)), (5, .int .i64 v1), (14, .bool (decide (v1 < (a0.length : Int))))], []⟩) rfl trivial rfl ?_
      rcases bif_some h with ⟨hd2, h⟩ | ⟨hd2, h⟩
      · obtain ⟨hg3, h⟩ := grd_some h
        obtain ⟨hg4, h⟩ := grd_some h
        refine Tri.run 2 [.g true] [.keep [0, 1, 5, 25] []] (K' := [.code [(2, 0), (1, 0), (0, 0), (1, 0), (0, 0)] 1, .blk 1, .code [(2, 0), (1, 0), (0, 0)] 2]) (σ' := ⟨[(0, .list (.ints a0)), (1, .list (.ints a1)), (5, .int .i64 v1), (25, .bool ((a0.getD v1.toNat 0) != (a1.getD v1.toNat 0)))], []⟩) rfl ⟨hg4, hg3, hd2, trivial⟩ rfl ?_
        rcases bif_some h with ⟨hd5, h⟩ | ⟨hd5, h⟩
        · refine Tri.run 2 [.g true] [.keep [4] []] (K' := [.code [(2, 0), (1, 0), (0, 0), (1, 0), (0, 0), (1, 0)] 1, .blk 1, .code [(2, 0), (1, 0), (0, 0)] 2]) (σ' := ⟨[(4, .bool false)], []⟩) rfl ⟨hd5, trivial⟩ rfl ?_
          have h := Option.some.inj h
          subst h
          exact Tri.ret rfl ⟨nofun, rfl, rfl, rfl⟩
        · refine Tri.run 2 [.g false] [.keep [0, 1, 5] []] (K' := []) (σ' := ⟨[(0, .list (.ints a0)), (1, .list (.ints a1)), (5, .int .i64 (IntKind.i64.wrap (v1 + (1 : Int))))], []⟩) rfl ⟨hd5, trivial⟩ rfl ?_
          have h := Option.some.inj h
          subst h
          exact Tri.nil ⟨rfl, rfl⟩
      · refine Tri.run 1 [.g false] [.keep [] []] (K' := [.code [(2, 0), (1, 0), (0, 0), (0, 0), (1, 1)] 0, .code [(2, 0), (1, 0), (0, 0)] 1]) (σ' := ⟨[], []⟩) rfl ⟨hd2, trivial⟩ rfl ?_
        have h := Option.some.inj h
        subst h
        exact Tri.out 0 rfl ⟨nofun, rfl, rfl⟩
    · intro e σ' hne hq
      rcases x1 with _ | r
      · obtain ⟨rfl, rfl⟩ := hq
        refine TriX.exit (K' := [.code [] 3]) rfl ?_
        refine Tri.run 1 [] [.keep [4] []] (K' := [.code [] 4]) (σ' := ⟨[(4, .bool true)], []⟩) rfl trivial rfl ?_
        have h := Option.some.inj h
        subst h
        exact Tri.ret rfl ⟨.inl rfl, rfl, rfl⟩
      · obtain ⟨rfl, hq⟩ := hq
        have h := Option.some.inj h
        subst h
        exact TriX.ret ⟨.inl rfl, hq⟩
/-! laws.eqGame -/
noncomputable def E19_laws_eqGame : Env := ⟨Try.prog, tys, (Try.f19.body).getD .skip, 16, tysOk, mixedOk⟩
abbrev q_laws_eqGame (r : Bool) (σ' : ASt) : Prop := resAV E19_laws_eqGame.T σ' Try.f19.results.toList = some (.bool r) ∧ keepO σ'.ob (namesO []) = []
noncomputable def m_laws_eqGame (a0 : Int) (a1 : List Int) (a2 : Int) (a3 : List Int) : Option Bool :=
bif a0 != a2 then
(some false)
else
((m_laws_eqIntS a1 a3).bind fun v1 =>
bif !v1 then
(some false)
else
(some true))
theorem w_laws_eqGame (a0 : Int) (a1 : List Int) (a2 : Int) (a3 : List Int) (r : Bool) (h : m_laws_eqGame a0 a1 a2 a3 = some r) : AM.Spec Try.prog 19 [.agg [.int .i64 a0, .list (.ints a1)], .agg [.int .i64 a2, .list (.ints a3)]] [] (.bool r) [] := by
  refine spec_of (E := E19_laws_eqGame) Try.func19 rfl rfl rfl rfl ?_
  refine Tri.run 2 [] [.keep [2, 3, 9] [2, 3]] (K' := [.code [(1, 0)] 1, .code [] 2]) (σ' := ⟨[(2, .ptr 2 0), (3, .ptr 3 0), (9, .bool (a0 != a2))], [(2, .box [.int .i64 a0, .list (.ints a1)]), (3, .box [.int .i64 a2, .list (.ints a3)])]⟩) rfl trivial rfl ?_
  rcases bif_some h with ⟨hd1, h⟩ | ⟨hd1, h⟩
  · refine Tri.run 2 [.g true] [.keep [4] []] (K' := [.code [(1, 0), (1, 0)] 1, .code [] 2]) (σ' := ⟨[(4, .bool false)], []⟩) rfl ⟨hd1, trivial⟩ rfl ?_
    have h := Option.some.inj h
    subst h
    exact Tri.ret rfl ⟨.inl rfl, rfl, rfl⟩
  · obtain ⟨v1, hk2, h⟩ := bind_some h
    refine Tri.run 2 [.g false, .r ⟨[], .bool v1, []⟩] [.keep [15] []] (K' := [.code [(2, 0)] 1, .code [] 3]) (σ' := ⟨[(15, .bool (!v1))], []⟩) rfl ⟨(w_laws_eqIntS a1 a3 v1 hk2), hd1, trivial⟩ rfl ?_
    rcases bif_some h with ⟨hd3, h⟩ | ⟨hd3, h⟩
    · refine Tri.run 2 [.g true] [.keep [4] []] (K' := [.code [(2, 0), (1, 0)] 1, .code [] 3]) (σ' := ⟨[(4, .bool false)], []⟩) rfl ⟨hd3, trivial⟩ rfl ?_
      have h := Option.some.inj h
      subst h
      exact Tri.ret rfl ⟨.inl rfl, rfl, rfl⟩
    · refine Tri.run 2 [.g false] [.keep [4] []] (K' := [.code [] 4]) (σ' := ⟨[(4, .bool true)], []⟩) rfl ⟨hd3, trivial⟩ rfl ?_
      have h := Option.some.inj h
      subst h
      exact Tri.ret rfl ⟨.inl rfl, rfl, rfl⟩
/-! laws.markIntS -/
noncomputable def E34_laws_markIntS : Env := ⟨Try.prog, tys, (Try.f34.body).getD .skip, 19, tysOk, mixedOk⟩
abbrev q_laws_markIntS_io1 (r : Int × (List Int)) (σ' : ASt) : Prop := resAV E34_laws_markIntS.T σ' Try.f34.results.toList = some (.int .i64 r.1) ∧ keepO σ'.ob (namesO [(2020, .arr 3 0 0 (.ints r.2))]) = [(2020, .arr 3 0 0 (.ints r.2))]
noncomputable def l_laws_markIntS_io1_0 : (Int × Int × (List Int)) → Option ((Int × Int × (List Int)) ⊕ ((Int × (List Int))))
  | (v1, v2, v3) => (
bif decide (v2 < (v3.length : Int)) then
(grd ((0 : Int) ≤ v2 ∧ v2 < (v3.length : Int)) <|
some (.inl (IntKind.i64.wrap (v1 + (1 : Int)), IntKind.i64.wrap (v2 + (1 : Int)), v3.set v2.toNat v1)))
else
(some (.inr (v1, v3))))
noncomputable def m_laws_markIntS_io1 (a0 : List Int) (a1 : Int) : Option (Int × (List Int)) :=
(iter (l_laws_markIntS_io1_0) (a1, (0 : Int), a0)).bind fun
| (v4, v5) => (
some (v4, v5))
theorem w_laws_markIntS_io1 (a0 : List Int) (a1 : Int) (r : Int × (List Int)) (h : m_laws_markIntS_io1 a0 a1 = some r) : AM.Spec Try.prog 34 [.sl 2020 0, .int .i64 a1] [(2020, .arr 3 0 0 (.ints a0))] (.int .i64 r.1) [(2020, .arr 3 0 0 (.ints r.2))] := by
  refine spec_of (E := E34_laws_markIntS) Try.func34 rfl rfl rfl rfl ?_
  refine Tri.run 2 [] [.keep [0, 1, 5] [2020]] (K' := [.code [(1, 0), (1, 0)] 0, .blk 0, .code [] 2]) (σ' := ⟨[(0, .sl 2020 0), (1, .int .i64 a1), (5, .int .i64 (0 : Int))], [(2020, .arr 3 0 0 (.ints a0))]⟩) rfl trivial rfl ?_
  obtain ⟨x1, hk3, h⟩ := bind_some h
  refine Tri.loop (K1 := [.code [(1, 0), (1, 0), (0, 0)] 0]) (K2 := [.blk 0, .code [] 2]) (fun (v1, v2, v3) => ⟨[(0, .sl 2020 0), (1, .int .i64 v1), (5, .int .i64 v2)], [(2020, .arr 3 0 0 (.ints v3))]⟩) (fun x e σ' => match x with | (v4, v5) => e = .exit 0 ∧ σ' = ⟨[(1, .int .i64 v4)], [(2020, .arr 3 0 0 (.ints v5))]⟩) hk3 rfl rfl ?_ ?_
  · intro s x hs
    clear h
    have h := hs
    clear hs
    obtain ⟨v1, v2, v3⟩ := s
    refine Tri.run 1 [] [.keep [0, 1, 5, 9] [2020]] (K' := [.code [(1, 0), (1, 0), (0, 0), (0, 0)] 1, .code [(1, 0), (1, 0), (0, 0)] 1]) (σ' := ⟨[(0, .sl 2020 0), (1, .int .i64 v1), (5, .int .i64 v2), (9, .bool (decide (v2 < (v3.length : Int))))], [(2020, .arr 3 0 0 (.ints v3))]⟩) rfl trivial rfl ?_
    rcases bif_some h with ⟨hd1, h⟩ | ⟨hd1, h⟩
    · obtain ⟨hg2, h⟩ := grd_some h
      refine Tri.run 3 [.g true] [.keep [0, 1, 5] [2020]] (K' := [.code [(1, 0), (1, 0), (0, 0)] 2]) (σ' := ⟨[(0, .sl 2020 0), (1, .int .i64 (IntKind.i64.wrap (v1 + (1 : Int)))), (5, .int .i64 v2)], [(2020, .arr 3 0 0 (.ints (v3.set v2.toNat v1)))]⟩) rfl ⟨hg2, hd1, trivial⟩ rfl ?_
      refine Tri.run 1 [] [.keep [0, 1, 5] [2020]] (K' := []) (σ' := ⟨[(0, .sl 2020 0), (1, .int .i64 (IntKind.i64.wrap (v1 + (1 : Int)))), (5, .int .i64 (IntKind.i64.wrap (v2 + (1 : Int))))], [(2020, .arr 3 0 0 (.ints (v3.set v2.toNat v1)))]⟩) rfl trivial rfl ?_
      have h := Option.some.inj h
      subst h
      exact Tri.nil ⟨rfl, rfl⟩
    · refine Tri.run 1 [.g false] [.keep [1] [2020]] (K' := [.code [(1, 0), (1, 0), (0, 0), (0, 0), (1, 1)] 0, .code [(1, 0), (1, 0), (0, 0)] 1]) (σ' := ⟨[(1, .int .i64 v1)], [(2020, .arr 3 0 0 (.ints v3))]⟩) rfl ⟨hd1, trivial⟩ rfl ?_
      have h := Option.some.inj h
      subst h
      exact Tri.out 0 rfl ⟨nofun, rfl, rfl⟩
  · intro e σ' hne hq
    obtain ⟨v4, v5⟩ := x1
    obtain ⟨rfl, rfl⟩ := hq
    refine TriX.exit (K' := [.code [] 2]) rfl ?_
    refine Tri.run 1 [] [.keep [4] [2020]] (K' := [.code [] 3]) (σ' := ⟨[(4, .int .i64 v4)], [(2020, .arr 3 0 0 (.ints v5))]⟩) rfl trivial rfl ?_
    have h := Option.some.inj h
    subst h
    exact Tri.ret rfl ⟨.inl rfl, rfl, rfl⟩
/-! laws.markGame -/
noncomputable def E35_laws_markGame : Env := ⟨Try.prog, tys, (Try.f35.body).getD .skip, 10, tysOk, mixedOk⟩
abbrev q_laws_markGame_io1 (r : Int × (List Int)) (σ' : ASt) : Prop := resAV E35_laws_markGame.T σ' Try.f35.results.toList = some (.int .i64 r.1) ∧ keepO σ'.ob (namesO [(2000, .arr 3 0 0 (.ints r.2))]) = [(2000, .arr 3 0 0 (.ints r.2))]
noncomputable def m_laws_markGame_io1 (_a0 : Int) (a1 : List Int) (a2 : Int) : Option (Int × (List Int)) :=
(m_laws_markIntS_io1 a1 a2).bind fun (v1, v2) =>
some (v1, v2)
theorem w_laws_markGame_io1 (a0 : Int) (a1 : List Int) (a2 : Int) (r : Int × (List Int)) (h : m_laws_markGame_io1 a0 a1 a2 = some r) : AM.Spec Try.prog 35 [.agg [.int .i64 a0, .sl 2000 0], .int .i64 a2] [(2000, .arr 3 0 0 (.ints a1))] (.int .i64 r.1) [(2000, .arr 3 0 0 (.ints r.2))] := by
  refine spec_of (E := E35_laws_markGame) Try.func35 rfl rfl rfl rfl ?_
  refine Tri.run 1 [] [.keep [1, 2] [2, 2000]] (K' := [.code [(1, 0)] 0, .code [] 2]) (σ' := ⟨[(1, .int .i64 a2), (2, .ptr 2 0)], [(2, .box [.int .i64 a0, .sl 2000 0]), (2000, .arr 3 0 0 (.ints a1))]⟩) rfl trivial rfl ?_
  obtain ⟨⟨v1, v2⟩, hk1, h⟩ := bind_some h
  refine Tri.run 2 [.r ⟨[2000], .int .i64 v1, [(2000, .arr 3 0 0 (.ints v2))]⟩] [.keep [4] [2000]] (K' := [.code [] 3]) (σ' := ⟨[(4, .int .i64 v1)], [(2000, .arr 3 0 0 (.ints v2))]⟩) rfl ⟨((w_laws_markIntS_io1 a1 a2 (v1, v2) hk1).swap 2020 2000), trivial⟩ rfl ?_
  have h := Option.some.inj h
  subst h
  exact Tri.ret rfl ⟨.inl rfl, rfl, rfl⟩
/-! laws.heldIntS -/
noncomputable def E70_laws_heldIntS : Env := ⟨Try.prog, tys, (Try.f70.body).getD .skip, 21, tysOk, mixedOk⟩
abbrev q_laws_heldIntS (r : Int) (σ' : ASt) : Prop := resAV E70_laws_heldIntS.T σ' Try.f70.results.toList = some (.int .i64 r) ∧ keepO σ'.ob (namesO []) = []
noncomputable def l_laws_heldIntS_0 (a0 : List Int) : (Int × Int) → Option ((Int × Int) ⊕ (Int ⊕ Int))
  | (v1, v2) => (
bif decide (v2 < (a0.length : Int)) then
(grd ((0 : Int) ≤ v2 ∧ v2 < (a0.length : Int)) <|
bif (a0.getD v2.toNat 0) != v1 then
(some (.inr (.inr (-1 : Int))))
else
(some (.inl (IntKind.i64.wrap (v1 + (1 : Int)), IntKind.i64.wrap (v2 + (1 : Int))))))
else
(some (.inr (.inl v1))))
noncomputable def m_laws_heldIntS (a0 : List Int) (a1 : Int) : Option Int :=
(iter (l_laws_heldIntS_0 a0) (a1, (0 : Int))).bind fun
| (.inl v3) => (
some v3)
| (.inr r) => some r
theorem w_laws_heldIntS (a0 : List Int) (a1 : Int) (r : Int) (h : m_laws_heldIntS a0 a1 = some r) : AM.Spec Try.prog 70 [.list (.ints a0), .int .i64 a1] [] (.int .i64 r) [] := by
  refine spec_of (E := E70_laws_heldIntS) Try.func70 rfl rfl rfl rfl ?_
  refine Tri.run 2 [] [.keep [0, 1, 5] []] (K' := [.code [(1, 0), (1, 0)] 0, .blk 0, .code [] 2]) (σ' := ⟨[(0, .list (.ints a0)), (1, .int .i64 a1), (5, .int .i64 (0 : Int))], []⟩) rfl trivial rfl ?_
  obtain ⟨x1, hk4, h⟩ := bind_some h
  refine Tri.loop (K1 := [.code [(1, 0), (1, 0), (0, 0)] 0]) (K2 := [.blk 0, .code [] 2]) (fun (v1, v2) => ⟨[(0, .list (.ints a0)), (1, .int .i64 v1), (5, .int .i64 v2)], []⟩) (fun x e σ' => match x with | (.inl v3) => e = .exit 0 ∧ σ' = ⟨[(1, .int .i64 v3)], []⟩ | (.inr r) => e = .ret ∧ q_laws_heldIntS r σ') hk4 rfl rfl ?_ ?_
  · intro s x hs
    clear h
    have h := hs
    clear hs
    obtain ⟨v1, v2⟩ := s
    refine Tri.run 1 [] [.keep [0, 1, 5, 9] []] (K' := [.code [(1, 0), (1, 0), (0, 0), (0, 0)] 1, .code [(1, 0), (1, 0), (0, 0)] 1]) (σ' := ⟨[(0, .list (.ints a0)), (1, .int .i64 v1), (5, .int .i64 v2), (9, .bool (decide (v2 < (a0.length : Int))))], []⟩) rfl trivial rfl ?_
    rcases bif_some h with ⟨hd1, h⟩ | ⟨hd1, h⟩
    · obtain ⟨hg2, h⟩ := grd_some h
      refine Tri.run 2 [.g true] [.keep [0, 1, 5, 17] []] (K' := [.code [(1, 0), (1, 0), (0, 0), (1, 0), (0, 0), (0, 0)] 1, .code [(1, 0), (1, 0), (0, 0), (1, 0), (0, 0)] 1, .blk 1, .code [(1, 0), (1, 0), (0, 0)] 2]) (σ' := ⟨[(0, .list (.ints a0)), (1, .int .i64 v1), (5, .int .i64 v2), (17, .bool ((a0.getD v2.toNat 0) != v1))], []⟩) rfl ⟨hg2, hd1, trivial⟩ rfl ?_
      rcases bif_some h with ⟨hd3, h⟩ | ⟨hd3, h⟩
      · refine Tri.run 2 [.g true] [.keep [4] []] (K' := [.code [(1, 0), (1, 0), (0, 0), (1, 0), (0, 0), (0, 0), (1, 0)] 1, .code [(1, 0), (1, 0), (0, 0), (1, 0), (0, 0)] 1, .blk 1, .code [(1, 0), (1, 0), (0, 0)] 2]) (σ' := ⟨[(4, .int .i64 (-1 : Int))], []⟩) rfl ⟨hd3, trivial⟩ rfl ?_
        have h := Option.some.inj h
        subst h
        exact Tri.ret rfl ⟨nofun, rfl, rfl, rfl⟩
      · refine Tri.run 3 [.g false] [.keep [0, 1, 5] []] (K' := []) (σ' := ⟨[(0, .list (.ints a0)), (1, .int .i64 (IntKind.i64.wrap (v1 + (1 : Int)))), (5, .int .i64 (IntKind.i64.wrap (v2 + (1 : Int))))], []⟩) rfl ⟨hd3, trivial⟩ rfl ?_
        have h := Option.some.inj h
        subst h
        exact Tri.nil ⟨rfl, rfl⟩
    · refine Tri.run 1 [.g false] [.keep [1] []] (K' := [.code [(1, 0), (1, 0), (0, 0), (0, 0), (1, 1)] 0, .code [(1, 0), (1, 0), (0, 0)] 1]) (σ' := ⟨[(1, .int .i64 v1)], []⟩) rfl ⟨hd1, trivial⟩ rfl ?_
      have h := Option.some.inj h
      subst h
      exact Tri.out 0 rfl ⟨nofun, rfl, rfl⟩
  · intro e σ' hne hq
    rcases x1 with v3 | r
    · obtain ⟨rfl, rfl⟩ := hq
      refine TriX.exit (K' := [.code [] 2]) rfl ?_
      refine Tri.run 1 [] [.keep [4] []] (K' := [.code [] 3]) (σ' := ⟨[(4, .int .i64 v3)], []⟩) rfl trivial rfl ?_
      have h := Option.some.inj h
      subst h
      exact Tri.ret rfl ⟨.inl rfl, rfl, rfl⟩
    · obtain ⟨rfl, hq⟩ := hq
      have h := Option.some.inj h
      subst h
      exact TriX.ret ⟨.inl rfl, hq⟩
/-! laws.heldGame -/
noncomputable def E36_laws_heldGame : Env := ⟨Try.prog, tys, (Try.f36.body).getD .skip, 12, tysOk, mixedOk⟩
abbrev q_laws_heldGame (r : Int) (σ' : ASt) : Prop := resAV E36_laws_heldGame.T σ' Try.f36.results.toList = some (.int .i64 r) ∧ keepO σ'.ob (namesO []) = []
noncomputable def m_laws_heldGame (_a0 : Int) (a1 : List Int) (a2 : Int) : Option Int :=
(m_laws_heldIntS a1 a2).bind fun v1 =>
bif decide (v1 < (0 : Int)) then
(some (-1 : Int))
else
(some v1)
theorem w_laws_heldGame (a0 : Int) (a1 : List Int) (a2 : Int) (r : Int) (h : m_laws_heldGame a0 a1 a2 = some r) : AM.Spec Try.prog 36 [.agg [.int .i64 a0, .list (.ints a1)], .int .i64 a2] [] (.int .i64 r) [] := by
  refine spec_of (E := E36_laws_heldGame) Try.func36 rfl rfl rfl rfl ?_
  refine Tri.run 1 [] [.keep [1, 2] [2]] (K' := [.code [(1, 0)] 0, .code [] 2]) (σ' := ⟨[(1, .int .i64 a2), (2, .ptr 2 0)], [(2, .box [.int .i64 a0, .list (.ints a1)])]⟩) rfl trivial rfl ?_
  obtain ⟨v1, hk1, h⟩ := bind_some h
  refine Tri.run 2 [.r ⟨[], .int .i64 v1, []⟩] [.keep [1, 10] []] (K' := [.code [(2, 0)] 1, .code [] 3]) (σ' := ⟨[(1, .int .i64 v1), (10, .bool (decide (v1 < (0 : Int))))], []⟩) rfl ⟨(w_laws_heldIntS a1 a2 v1 hk1), trivial⟩ rfl ?_
  rcases bif_some h with ⟨hd2, h⟩ | ⟨hd2, h⟩
  · refine Tri.run 2 [.g true] [.keep [4] []] (K' := [.code [(2, 0), (1, 0)] 1, .code [] 3]) (σ' := ⟨[(4, .int .i64 (-1 : Int))], []⟩) rfl ⟨hd2, trivial⟩ rfl ?_
    have h := Option.some.inj h
    subst h
    exact Tri.ret rfl ⟨.inl rfl, rfl, rfl⟩
  · refine Tri.run 2 [.g false] [.keep [4] []] (K' := [.code [] 4]) (σ' := ⟨[(4, .int .i64 v1)], []⟩) rfl ⟨hd2, trivial⟩ rfl ?_
    have h := Option.some.inj h
    subst h
    exact Tri.ret rfl ⟨.inl rfl, rfl, rfl⟩
/-! laws.FnExactRestrict -/
noncomputable def E12_laws_FnExactRestrict : Env := ⟨Try.prog, tys, (Try.f12.body).getD .skip, 101, tysOk, mixedOk⟩
abbrev q_laws_FnExactRestrict (r : Bool) (σ' : ASt) : Prop := resAV E12_laws_FnExactRestrict.T σ' Try.f12.results.toList = some (.bool r) ∧ keepO σ'.ob (namesO []) = []
noncomputable def m_laws_FnExactRestrict (a0 : Int) (a1 : List Int) (a2 : Int) : Option Bool :=
(m_laws_szGame a0 a1 (1048576 : Int)).bind fun v1 =>
bif decide (v1 < (0 : Int)) then
(some true)
else
((m_laws_toGame a0 a1).bind fun (v2, v3) =>
(m_spec_Restrict v2 v3 a2).bind fun (v4, v5, v6) =>
(m_laws_toGame a0 a1).bind fun (v7, v8) =>
(m_impl_Restrict v7 v8 a2).bind fun (v9, v10, v11) =>
(m_laws_eqGame v9 v11 v4 v6).bind fun v12 =>
bif !v12 then
(some false)
else
(bif v10 != v5 then
(some false)
else
((m_laws_toGame a0 a1).bind fun (v13, v14) =>
(m_laws_eqGame v7 v8 v13 v14).bind fun v15 =>
bif !v15 then
(some false)
else
((m_laws_markGame_io1 v7 v8 (1 : Int)).bind fun (v16, _) =>
bif decide (v16 < (0 : Int)) then
(some false)
else
((m_laws_eqGame v9 v11 v4 v6).bind fun v18 =>
bif !v18 then
(some false)
else
(bif v10 != v5 then
(some false)
else
((m_laws_markGame_io1 v9 v11 (1 : Int)).bind fun (v19, v20) =>
(m_laws_heldGame v9 v20 (1 : Int)).bind fun v21 =>
bif decide (v21 < (0 : Int)) then
(some false)
else
(bif v21 != v19 then
(some false)
else
((m_laws_toGame a0 a1).bind fun (v22, v23) =>
(m_impl_Restrict v22 v23 a2).bind fun (v24, v25, v26) =>
(m_laws_eqGame v24 v26 v4 v6).bind fun v27 =>
bif !v27 then
(some false)
else
(bif v25 != v5 then
(some false)
else
((m_laws_heldGame v9 v20 (1 : Int)).bind fun v28 =>
bif decide (v28 < (0 : Int)) then
(some false)
else
(bif v28 != v19 then
(some false)
else
(some true)))))))))))))
theorem w_laws_FnExactRestrict (a0 : Int) (a1 : List Int) (a2 : Int) (r : Bool) (h : m_laws_FnExactRestrict a0 a1 a2 = some r) : AM.Spec Try.prog 12 [.agg [.int .i64 a0, .list (.ints a1)], .int .i64 a2] [] (.bool r) [] := by
  refine spec_of (E := E12_laws_FnExactRestrict) Try.func12 rfl rfl rfl rfl ?_
  refine Tri.run 2 [] [.keep [1, 2, 5] [2]] (K' := [.code [(2, 0)] 0, .code [] 3]) (σ' := ⟨[(1, .int .i64 a2), (2, .ptr 2 0), (5, .int .i64 (1048576 : Int))], [(2, .box [.int .i64 a0, .list (.ints a1)])]⟩) rfl trivial rfl ?_
  obtain ⟨v1, hk1, h⟩ := bind_some h
  refine Tri.run 2 [.r ⟨[], .int .i64 v1, []⟩] [.keep [1, 2, 20] [2]] (K' := [.code [(3, 0)] 1, .code [] 4]) (σ' := ⟨[(1, .int .i64 a2), (2, .ptr 2 0), (20, .bool (decide (v1 < (0 : Int))))], [(2, .box [.int .i64 a0, .list (.ints a1)])]⟩) rfl ⟨(w_laws_szGame a0 a1 (1048576 : Int) v1 hk1), trivial⟩ rfl ?_
  rcases bif_some h with ⟨hd2, h⟩ | ⟨hd2, h⟩
  · refine Tri.run 2 [.g true] [.keep [4] []] (K' := [.code [(3, 0), (1, 0)] 1, .code [] 4]) (σ' := ⟨[(4, .bool true)], []⟩) rfl ⟨hd2, trivial⟩ rfl ?_
    have h := Option.some.inj h
    subst h
    exact Tri.ret rfl ⟨.inl rfl, rfl, rfl⟩
  · obtain ⟨⟨v2, v3⟩, hk3, h⟩ := bind_some h
    obtain ⟨⟨v4, v5, v6⟩, hk4, h⟩ := bind_some h
    refine Tri.run 2 [.g false, .r ⟨[], .agg [.int .i64 v2, .sl 1100 0], [(1100, .arr 3 0 0 (.ints v3))]⟩, .r ⟨[], .tuple [.agg [.int .i64 v4, .sl 1101 0], .bool v5], [(1101, .arr 3 0 0 (.ints v6))]⟩] [.keep [1, 2, 6, 7] [2, 6, 1101]] (K' := [.code [(5, 0)] 0, .code [] 6]) (σ' := ⟨[(1, .int .i64 a2), (2, .ptr 2 0), (6, .ptr 6 0), (7, .bool v5)], [(2, .box [.int .i64 a0, .list (.ints a1)]), (6, .box [.int .i64 v4, .sl 1101 0]), (1101, .arr 3 0 0 (.ints v6))]⟩) rfl ⟨((w_spec_Restrict v2 v3 a2 (v4, v5, v6) hk4).swap 1000 1101), ((w_laws_toGame a0 a1 (v2, v3) hk3).swap 1000 1100), hd2, trivial⟩ rfl ?_
    obtain ⟨⟨v7, v8⟩, hk5, h⟩ := bind_some h
    obtain ⟨⟨v9, v10, v11⟩, hk6, h⟩ := bind_some h
    refine Tri.run 2 [.r ⟨[], .agg [.int .i64 v7, .sl 1102 0], [(1102, .arr 3 0 0 (.ints v8))]⟩, .r ⟨[], .tuple [.agg [.int .i64 v9, .sl 1103 0], .bool v10], [(1103, .arr 3 0 0 (.ints v11))]⟩] [.keep [1, 2, 6, 7, 8, 9, 10] [2, 6, 8, 9, 1101, 1102, 1103]] (K' := [.code [(7, 0), (0, 0)] 0, .code [(7, 0)] 1, .code [] 8]) (σ' := ⟨[(1, .int .i64 a2), (2, .ptr 2 0), (6, .ptr 6 0), (7, .bool v5), (8, .ptr 8 0), (9, .ptr 9 0), (10, .bool v10)], [(2, .box [.int .i64 a0, .list (.ints a1)]), (6, .box [.int .i64 v4, .sl 1101 0]), (8, .box [.int .i64 v7, .sl 1102 0]), (9, .box [.int .i64 v9, .sl 1103 0]), (1101, .arr 3 0 0 (.ints v6)), (1102, .arr 3 0 0 (.ints v8)), (1103, .arr 3 0 0 (.ints v11))]⟩) rfl ⟨((w_impl_Restrict v7 v8 a2 (v9, v10, v11) hk6).swap 1000 1103), ((w_laws_toGame a0 a1 (v7, v8) hk5).swap 1000 1102), trivial⟩ rfl ?_
    obtain ⟨v12, hk7, h⟩ := bind_some h
    rcases bif_some h with ⟨hd8, h⟩ | ⟨hd8, h⟩
    · refine Tri.run 1 [.r ⟨[], .bool v12, []⟩, .g true] [.keep [1, 2, 6, 7, 8, 9, 10, 44] [2, 6, 8, 9, 1101, 1102, 1103]] (K' := [.code [(7, 0)] 1, .code [] 8]) (σ' := ⟨[(1, .int .i64 a2), (2, .ptr 2 0), (6, .ptr 6 0), (7, .bool v5), (8, .ptr 8 0), (9, .ptr 9 0), (10, .bool v10), (44, .bool true)], [(2, .box [.int .i64 a0, .list (.ints a1)]), (6, .box [.int .i64 v4, .sl 1101 0]), (8, .box [.int .i64 v7, .sl 1102 0]), (9, .box [.int .i64 v9, .sl 1103 0]), (1101, .arr 3 0 0 (.ints v6)), (1102, .arr 3 0 0 (.ints v8)), (1103, .arr 3 0 0 (.ints v11))]⟩) rfl ⟨hd8, (w_laws_eqGame v9 v11 v4 v6 v12 hk7), trivial⟩ rfl ?_
      refine Tri.run 2 [.g true] [.keep [4] []] (K' := [.code [(7, 0), (1, 0)] 1, .code [] 8]) (σ' := ⟨[(4, .bool false)], []⟩) rfl ⟨rfl, trivial⟩ rfl ?_
      have h := Option.some.inj h
      subst h
      exact Tri.ret rfl ⟨.inl rfl, rfl, rfl⟩
    · refine Tri.run 1 [.r ⟨[], .bool v12, []⟩, .g false] [.keep [1, 2, 6, 7, 8, 9, 10, 44] [2, 6, 8, 9, 1101, 1102, 1103]] (K' := [.code [(7, 0)] 1, .code [] 8]) (σ' := ⟨[(1, .int .i64 a2), (2, .ptr 2 0), (6, .ptr 6 0), (7, .bool v5), (8, .ptr 8 0), (9, .ptr 9 0), (10, .bool v10), (44, .bool (v10 != v5))], [(2, .box [.int .i64 a0, .list (.ints a1)]), (6, .box [.int .i64 v4, .sl 1101 0]), (8, .box [.int .i64 v7, .sl 1102 0]), (9, .box [.int .i64 v9, .sl 1103 0]), (1101, .arr 3 0 0 (.ints v6)), (1102, .arr 3 0 0 (.ints v8)), (1103, .arr 3 0 0 (.ints v11))]⟩) rfl ⟨hd8, (w_laws_eqGame v9 v11 v4 v6 v12 hk7), trivial⟩ rfl ?_
      rcases bif_some h with ⟨hd9, h⟩ | ⟨hd9, h⟩
      · refine Tri.run 2 [.g true] [.keep [4] []] (K' := [.code [(7, 0), (1, 0)] 1, .code [] 8]) (σ' := ⟨[(4, .bool false)], []⟩) rfl ⟨hd9, trivial⟩ rfl ?_
        have h := Option.some.inj h
        subst h
        exact Tri.ret rfl ⟨.inl rfl, rfl, rfl⟩
      · obtain ⟨⟨v13, v14⟩, hk10, h⟩ := bind_some h
        obtain ⟨v15, hk11, h⟩ := bind_some h
        refine Tri.run 2 [.g false, .r ⟨[], .agg [.int .i64 v13, .sl 1104 0], [(1104, .arr 3 0 0 (.ints v14))]⟩, .r ⟨[], .bool v15, []⟩] [.keep [1, 2, 6, 7, 8, 9, 10, 49] [2, 6, 8, 9, 1101, 1102, 1103]] (K' := [.code [(8, 0)] 1, .code [] 9]) (σ' := ⟨[(1, .int .i64 a2), (2, .ptr 2 0), (6, .ptr 6 0), (7, .bool v5), (8, .ptr 8 0), (9, .ptr 9 0), (10, .bool v10), (49, .bool (!v15))], [(2, .box [.int .i64 a0, .list (.ints a1)]), (6, .box [.int .i64 v4, .sl 1101 0]), (8, .box [.int .i64 v7, .sl 1102 0]), (9, .box [.int .i64 v9, .sl 1103 0]), (1101, .arr 3 0 0 (.ints v6)), (1102, .arr 3 0 0 (.ints v8)), (1103, .arr 3 0 0 (.ints v11))]⟩) rfl ⟨(w_laws_eqGame v7 v8 v13 v14 v15 hk11), ((w_laws_toGame a0 a1 (v13, v14) hk10).swap 1000 1104), hd9, trivial⟩ rfl ?_
        rcases bif_some h with ⟨hd12, h⟩ | ⟨hd12, h⟩
        · refine Tri.run 2 [.g true] [.keep [4] []] (K' := [.code [(8, 0), (1, 0)] 1, .code [] 9]) (σ' := ⟨[(4, .bool false)], []⟩) rfl ⟨hd12, trivial⟩ rfl ?_
          have h := Option.some.inj h
          subst h
          exact Tri.ret rfl ⟨.inl rfl, rfl, rfl⟩
        · refine Tri.run 2 [.g false] [.keep [1, 2, 6, 7, 8, 9, 10, 11] [2, 6, 8, 9, 1101, 1102, 1103]] (K' := [.code [(10, 0)] 0, .code [] 11]) (σ' := ⟨[(1, .int .i64 a2), (2, .ptr 2 0), (6, .ptr 6 0), (7, .bool v5), (8, .ptr 8 0), (9, .ptr 9 0), (10, .bool v10), (11, .int .i64 (1 : Int))], [(2, .box [.int .i64 a0, .list (.ints a1)]), (6, .box [.int .i64 v4, .sl 1101 0]), (8, .box [.int .i64 v7, .sl 1102 0]), (9, .box [.int .i64 v9, .sl 1103 0]), (1101, .arr 3 0 0 (.ints v6)), (1102, .arr 3 0 0 (.ints v8)), (1103, .arr 3 0 0 (.ints v11))]⟩) rfl ⟨hd12, trivial⟩ rfl ?_
          obtain ⟨⟨v16, v17⟩, hk13, h⟩ := bind_some h
          rcases bif_some h with ⟨hd14, h⟩ | ⟨hd14, h⟩
          · refine Tri.run 2 [.r ⟨[1102], .int .i64 v16, [(1102, .arr 3 0 0 (.ints v17))]⟩, .g true, .g true] [.keep [1, 2, 6, 7, 9, 65] [2, 6, 9, 1101, 1103]] (K' := [.code [(11, 0)] 1, .code [] 12]) (σ' := ⟨[(1, .int .i64 a2), (2, .ptr 2 0), (6, .ptr 6 0), (7, .bool v5), (9, .ptr 9 0), (65, .bool true)], [(2, .box [.int .i64 a0, .list (.ints a1)]), (6, .box [.int .i64 v4, .sl 1101 0]), (9, .box [.int .i64 v9, .sl 1103 0]), (1101, .arr 3 0 0 (.ints v6)), (1103, .arr 3 0 0 (.ints v11))]⟩) rfl ⟨rfl, hd14, ((w_laws_markGame_io1 v7 v8 (1 : Int) (v16, v17) hk13).swap 2000 1102), trivial⟩ rfl ?_
            refine Tri.run 2 [.g true] [.keep [4] []] (K' := [.code [(11, 0), (1, 0)] 1, .code [] 12]) (σ' := ⟨[(4, .bool false)], []⟩) rfl ⟨rfl, trivial⟩ rfl ?_
            have h := Option.some.inj h
            subst h
            exact Tri.ret rfl ⟨.inl rfl, rfl, rfl⟩
          · obtain ⟨v18, hk15, h⟩ := bind_some h
            rcases bif_some h with ⟨hd16, h⟩ | ⟨hd16, h⟩
            · refine Tri.run 2 [.r ⟨[1102], .int .i64 v16, [(1102, .arr 3 0 0 (.ints v17))]⟩, .g false, .r ⟨[], .bool v18, []⟩, .g true] [.keep [1, 2, 6, 7, 9, 65] [2, 6, 9, 1101, 1103]] (K' := [.code [(11, 0)] 1, .code [] 12]) (σ' := ⟨[(1, .int .i64 a2), (2, .ptr 2 0), (6, .ptr 6 0), (7, .bool v5), (9, .ptr 9 0), (65, .bool true)], [(2, .box [.int .i64 a0, .list (.ints a1)]), (6, .box [.int .i64 v4, .sl 1101 0]), (9, .box [.int .i64 v9, .sl 1103 0]), (1101, .arr 3 0 0 (.ints v6)), (1103, .arr 3 0 0 (.ints v11))]⟩) rfl ⟨hd16, (w_laws_eqGame v9 v11 v4 v6 v18 hk15), hd14, ((w_laws_markGame_io1 v7 v8 (1 : Int) (v16, v17) hk13).swap 2000 1102), trivial⟩ rfl ?_
              refine Tri.run 2 [.g true] [.keep [4] []] (K' := [.code [(11, 0), (1, 0)] 1, .code [] 12]) (σ' := ⟨[(4, .bool false)], []⟩) rfl ⟨rfl, trivial⟩ rfl ?_
              have h := Option.some.inj h
              subst h
              exact Tri.ret rfl ⟨.inl rfl, rfl, rfl⟩
            · refine Tri.run 2 [.r ⟨[1102], .int .i64 v16, [(1102, .arr 3 0 0 (.ints v17))]⟩, .g false, .r ⟨[], .bool v18, []⟩, .g false] [.keep [1, 2, 6, 7, 9, 65] [2, 6, 9, 1101, 1103]] (K' := [.code [(11, 0)] 1, .code [] 12]) (σ' := ⟨[(1, .int .i64 a2), (2, .ptr 2 0), (6, .ptr 6 0), (7, .bool v5), (9, .ptr 9 0), (65, .bool (v10 != v5))], [(2, .box [.int .i64 a0, .list (.ints a1)]), (6, .box [.int .i64 v4, .sl 1101 0]), (9, .box [.int .i64 v9, .sl 1103 0]), (1101, .arr 3 0 0 (.ints v6)), (1103, .arr 3 0 0 (.ints v11))]⟩) rfl ⟨hd16, (w_laws_eqGame v9 v11 v4 v6 v18 hk15), hd14, ((w_laws_markGame_io1 v7 v8 (1 : Int) (v16, v17) hk13).swap 2000 1102), trivial⟩ rfl ?_
              rcases bif_some h with ⟨hd17, h⟩ | ⟨hd17, h⟩
              · refine Tri.run 2 [.g true] [.keep [4] []] (K' := [.code [(11, 0), (1, 0)] 1, .code [] 12]) (σ' := ⟨[(4, .bool false)], []⟩) rfl ⟨hd17, trivial⟩ rfl ?_
                have h := Option.some.inj h
                subst h
                exact Tri.ret rfl ⟨.inl rfl, rfl, rfl⟩
              · refine Tri.run 2 [.g false] [.keep [1, 2, 6, 7, 9, 12] [2, 6, 9, 1101, 1103]] (K' := [.code [(13, 0)] 0, .code [] 14]) (σ' := ⟨[(1, .int .i64 a2), (2, .ptr 2 0), (6, .ptr 6 0), (7, .bool v5), (9, .ptr 9 0), (12, .int .i64 (1 : Int))], [(2, .box [.int .i64 a0, .list (.ints a1)]), (6, .box [.int .i64 v4, .sl 1101 0]), (9, .box [.int .i64 v9, .sl 1103 0]), (1101, .arr 3 0 0 (.ints v6)), (1103, .arr 3 0 0 (.ints v11))]⟩) rfl ⟨hd17, trivial⟩ rfl ?_
                obtain ⟨⟨v19, v20⟩, hk18, h⟩ := bind_some h
                refine Tri.run 2 [.r ⟨[1103], .int .i64 v19, [(1103, .arr 3 0 0 (.ints v20))]⟩] [.keep [1, 2, 6, 7, 9, 12, 13] [2, 6, 9, 1101, 1103]] (K' := [.code [(15, 0)] 0, .code [] 16]) (σ' := ⟨[(1, .int .i64 a2), (2, .ptr 2 0), (6, .ptr 6 0), (7, .bool v5), (9, .ptr 9 0), (12, .int .i64 v19), (13, .int .i64 (1 : Int))], [(2, .box [.int .i64 a0, .list (.ints a1)]), (6, .box [.int .i64 v4, .sl 1101 0]), (9, .box [.int .i64 v9, .sl 1103 0]), (1101, .arr 3 0 0 (.ints v6)), (1103, .arr 3 0 0 (.ints v20))]⟩) rfl ⟨((w_laws_markGame_io1 v9 v11 (1 : Int) (v19, v20) hk18).swap 2000 1103), trivial⟩ rfl ?_
                obtain ⟨v21, hk19, h⟩ := bind_some h
                refine Tri.run 2 [.r ⟨[], .int .i64 v21, []⟩] [.keep [1, 2, 6, 7, 9, 12, 13, 73] [2, 6, 9, 1101, 1103]] (K' := [.code [(16, 0)] 1, .code [] 17]) (σ' := ⟨[(1, .int .i64 a2), (2, .ptr 2 0), (6, .ptr 6 0), (7, .bool v5), (9, .ptr 9 0), (12, .int .i64 v19), (13, .int .i64 v21), (73, .bool (decide (v21 < (0 : Int))))], [(2, .box [.int .i64 a0, .list (.ints a1)]), (6, .box [.int .i64 v4, .sl 1101 0]), (9, .box [.int .i64 v9, .sl 1103 0]), (1101, .arr 3 0 0 (.ints v6)), (1103, .arr 3 0 0 (.ints v20))]⟩) rfl ⟨(w_laws_heldGame v9 v20 (1 : Int) v21 hk19), trivial⟩ rfl ?_
                rcases bif_some h with ⟨hd20, h⟩ | ⟨hd20, h⟩
                · refine Tri.run 2 [.g true] [.keep [4] []] (K' := [.code [(16, 0), (1, 0)] 1, .code [] 17]) (σ' := ⟨[(4, .bool false)], []⟩) rfl ⟨hd20, trivial⟩ rfl ?_
                  have h := Option.some.inj h
                  subst h
                  exact Tri.ret rfl ⟨.inl rfl, rfl, rfl⟩
                · refine Tri.run 2 [.g false] [.keep [1, 2, 6, 7, 9, 12, 76] [2, 6, 9, 1101, 1103]] (K' := [.code [(17, 0)] 1, .code [] 18]) (σ' := ⟨[(1, .int .i64 a2), (2, .ptr 2 0), (6, .ptr 6 0), (7, .bool v5), (9, .ptr 9 0), (12, .int .i64 v19), (76, .bool (v21 != v19))], [(2, .box [.int .i64 a0, .list (.ints a1)]), (6, .box [.int .i64 v4, .sl 1101 0]), (9, .box [.int .i64 v9, .sl 1103 0]), (1101, .arr 3 0 0 (.ints v6)), (1103, .arr 3 0 0 (.ints v20))]⟩) rfl ⟨hd20, trivial⟩ rfl ?_
                  rcases bif_some h with ⟨hd21, h⟩ | ⟨hd21, h⟩
                  · refine Tri.run 2 [.g true] [.keep [4] []] (K' := [.code [(17, 0), (1, 0)] 1, .code [] 18]) (σ' := ⟨[(4, .bool false)], []⟩) rfl ⟨hd21, trivial⟩ rfl ?_
                    have h := Option.some.inj h
                    subst h
                    exact Tri.ret rfl ⟨.inl rfl, rfl, rfl⟩
                  · obtain ⟨⟨v22, v23⟩, hk22, h⟩ := bind_some h
                    obtain ⟨⟨v24, v25, v26⟩, hk23, h⟩ := bind_some h
                    refine Tri.run 2 [.g false, .r ⟨[], .agg [.int .i64 v22, .sl 1105 0], [(1105, .arr 3 0 0 (.ints v23))]⟩, .r ⟨[], .tuple [.agg [.int .i64 v24, .sl 1106 0], .bool v25], [(1106, .arr 3 0 0 (.ints v26))]⟩] [.keep [6, 7, 9, 12, 14, 15] [6, 9, 14, 1101, 1103, 1106]] (K' := [.code [(19, 0), (0, 0)] 0, .code [(19, 0)] 1, .code [] 20]) (σ' := ⟨[(6, .ptr 6 0), (7, .bool v5), (9, .ptr 9 0), (12, .int .i64 v19), (14, .ptr 14 0), (15, .bool v25)], [(6, .box [.int .i64 v4, .sl 1101 0]), (9, .box [.int .i64 v9, .sl 1103 0]), (14, .box [.int .i64 v24, .sl 1106 0]), (1101, .arr 3 0 0 (.ints v6)), (1103, .arr 3 0 0 (.ints v20)), (1106, .arr 3 0 0 (.ints v26))]⟩) rfl ⟨((w_impl_Restrict v22 v23 a2 (v24, v25, v26) hk23).swap 1000 1106), ((w_laws_toGame a0 a1 (v22, v23) hk22).swap 1000 1105), hd21, trivial⟩ rfl ?_
                    obtain ⟨v27, hk24, h⟩ := bind_some h
                    rcases bif_some h with ⟨hd25, h⟩ | ⟨hd25, h⟩
                    · refine Tri.run 1 [.r ⟨[], .bool v27, []⟩, .g true] [.keep [9, 12, 92] [9, 1103]] (K' := [.code [(19, 0)] 1, .code [] 20]) (σ' := ⟨[(9, .ptr 9 0), (12, .int .i64 v19), (92, .bool true)], [(9, .box [.int .i64 v9, .sl 1103 0]), (1103, .arr 3 0 0 (.ints v20))]⟩) rfl ⟨hd25, (w_laws_eqGame v24 v26 v4 v6 v27 hk24), trivial⟩ rfl ?_
                      refine Tri.run 2 [.g true] [.keep [4] []] (K' := [.code [(19, 0), (1, 0)] 1, .code [] 20]) (σ' := ⟨[(4, .bool false)], []⟩) rfl ⟨rfl, trivial⟩ rfl ?_
                      have h := Option.some.inj h
                      subst h
                      exact Tri.ret rfl ⟨.inl rfl, rfl, rfl⟩
                    · refine Tri.run 1 [.r ⟨[], .bool v27, []⟩, .g false] [.keep [9, 12, 92] [9, 1103]] (K' := [.code [(19, 0)] 1, .code [] 20]) (σ' := ⟨[(9, .ptr 9 0), (12, .int .i64 v19), (92, .bool (v25 != v5))], [(9, .box [.int .i64 v9, .sl 1103 0]), (1103, .arr 3 0 0 (.ints v20))]⟩) rfl ⟨hd25, (w_laws_eqGame v24 v26 v4 v6 v27 hk24), trivial⟩ rfl ?_
                      rcases bif_some h with ⟨hd26, h⟩ | ⟨hd26, h⟩
                      · refine Tri.run 2 [.g true] [.keep [4] []] (K' := [.code [(19, 0), (1, 0)] 1, .code [] 20]) (σ' := ⟨[(4, .bool false)], []⟩) rfl ⟨hd26, trivial⟩ rfl ?_
                        have h := Option.some.inj h
                        subst h
                        exact Tri.ret rfl ⟨.inl rfl, rfl, rfl⟩
                      · refine Tri.run 2 [.g false] [.keep [9, 12, 13] [9, 1103]] (K' := [.code [(21, 0)] 0, .code [] 22]) (σ' := ⟨[(9, .ptr 9 0), (12, .int .i64 v19), (13, .int .i64 (1 : Int))], [(9, .box [.int .i64 v9, .sl 1103 0]), (1103, .arr 3 0 0 (.ints v20))]⟩) rfl ⟨hd26, trivial⟩ rfl ?_
                        obtain ⟨v28, hk27, h⟩ := bind_some h
                        refine Tri.run 2 [.r ⟨[], .int .i64 v28, []⟩] [.keep [12, 13, 97] []] (K' := [.code [(22, 0)] 1, .code [] 23]) (σ' := ⟨[(12, .int .i64 v19), (13, .int .i64 v28), (97, .bool (decide (v28 < (0 : Int))))], []⟩) rfl ⟨(w_laws_heldGame v9 v20 (1 : Int) v28 hk27), trivial⟩ rfl ?_
                        rcases bif_some h with ⟨hd28, h⟩ | ⟨hd28, h⟩
                        · refine Tri.run 2 [.g true] [.keep [4] []] (K' := [.code [(22, 0), (1, 0)] 1, .code [] 23]) (σ' := ⟨[(4, .bool false)], []⟩) rfl ⟨hd28, trivial⟩ rfl ?_
                          have h := Option.some.inj h
                          subst h
                          exact Tri.ret rfl ⟨.inl rfl, rfl, rfl⟩
                        · refine Tri.run 2 [.g false] [.keep [100] []] (K' := [.code [(23, 0)] 1, .code [] 24]) (σ' := ⟨[(100, .bool (v28 != v19))], []⟩) rfl ⟨hd28, trivial⟩ rfl ?_
                          rcases bif_some h with ⟨hd29, h⟩ | ⟨hd29, h⟩
                          · refine Tri.run 2 [.g true] [.keep [4] []] (K' := [.code [(23, 0), (1, 0)] 1, .code [] 24]) (σ' := ⟨[(4, .bool false)], []⟩) rfl ⟨hd29, trivial⟩ rfl ?_
                            have h := Option.some.inj h
                            subst h
                            exact Tri.ret rfl ⟨.inl rfl, rfl, rfl⟩
                          · refine Tri.run 2 [.g false] [.keep [4] []] (K' := [.code [] 25]) (σ' := ⟨[(4, .bool true)], []⟩) rfl ⟨hd29, trivial⟩ rfl ?_
                            have h := Option.some.inj h
                            subst h
                            exact Tri.ret rfl ⟨.inl rfl, rfl, rfl⟩
end Go.Proofs.Ytdobcjgdhgfedaa
