/- models and walks -/
import Derived.Test.YtdobcjgdhgfedaaProg
import Derived.Test.YtdobcjgdhgfedaaAmB
namespace Go.Proofs.Ytdobcjgdhgfedaa
open Go.AM
set_option maxRecDepth 100000
set_option maxHeartbeats 4000000
noncomputable def tys : TEnv := [(3, .int .i64),
  (4, .bool),
  (22, .slice 3 (.ints [])),
  (24, .struct [(0, 3), (1, 22)] [.int .i64 0, .nil (.ints [])] false),
  (28, .struct [(0, 3), (1, 22)] [.int .i64 0, .nil (.ints [])] false)]
theorem tysOk : TOk Try.prog tys := tok_of (by kernel_rfl)
theorem mixedOk : Try.prog.follows .mixedOrders = true := by kernel_rfl
/-! laws.szIntS -/
noncomputable def E_laws_szIntS : Env := ⟨Try.prog, tys, (Try.f54.body).getD .skip, 12, tysOk, mixedOk⟩
abbrev q_laws_szIntS (r : Int) (σ' : ASt) : Prop := resAV E_laws_szIntS.T σ' Try.f54.results.toList = some (.int .i64 r) ∧ keepO σ'.ob (namesO []) = []
noncomputable def m_laws_szIntS (a0 : List Int) (a1 : Int) : Option Int :=
bif decide ((IntKind.i64.wrap (a1 - (a0.length : Int))) < (0 : Int)) then
(some (-1 : Int))
else
(some (IntKind.i64.wrap (a1 - (a0.length : Int))))
theorem w_laws_szIntS (a0 : List Int) (a1 : Int) (r : Int) (h : m_laws_szIntS a0 a1 = some r) : AM.Spec Try.prog 54 [.list (.ints a0), .int .i64 a1] [] (.int .i64 r) [] := by
  refine spec_of (E := E_laws_szIntS) Try.func54 rfl rfl rfl rfl ?_
  refine Tri.run 3 [] [.keep [1, 10] []] (K' := [.code [(2, 0)] 1, .code [] 3]) (σ' := ⟨[(1, .int .i64 (IntKind.i64.wrap (a1 - (a0.length : Int)))), (10, .bool (decide ((IntKind.i64.wrap (a1 - (a0.length : Int))) < (0 : Int))))], []⟩) rfl trivial rfl ?_
  rcases bif_some h with ⟨hd1, h⟩ | ⟨hd1, h⟩
  · refine Tri.run 2 [.g true] [.keep [4] []] (K' := [.code [(2, 0), (1, 0)] 1, .code [] 3]) (σ' := ⟨[(4, .int .i64 (-1 : Int))], []⟩) rfl ⟨hd1, trivial⟩ rfl ?_
    have h := Option.some.inj h
    subst h
    exact Tri.ret rfl ⟨.inl rfl, rfl, rfl⟩
  · refine Tri.run 2 [.g false] [.keep [4] []] (K' := [.code [] 4]) (σ' := ⟨[(4, .int .i64 (IntKind.i64.wrap (a1 - (a0.length : Int))))], []⟩) rfl ⟨hd1, trivial⟩ rfl ?_
    have h := Option.some.inj h
    subst h
    exact Tri.ret rfl ⟨.inl rfl, rfl, rfl⟩
/-! laws.szGame -/
noncomputable def E_laws_szGame : Env := ⟨Try.prog, tys, (Try.f15.body).getD .skip, 12, tysOk, mixedOk⟩
abbrev q_laws_szGame (r : Int) (σ' : ASt) : Prop := resAV E_laws_szGame.T σ' Try.f15.results.toList = some (.int .i64 r) ∧ keepO σ'.ob (namesO []) = []
noncomputable def m_laws_szGame (_a0 : Int) (a1 : List Int) (a2 : Int) : Option Int :=
(m_laws_szIntS a1 a2).bind fun v1 =>
bif decide (v1 < (0 : Int)) then
(some (-1 : Int))
else
(some v1)
theorem w_laws_szGame (a0 : Int) (a1 : List Int) (a2 : Int) (r : Int) (h : m_laws_szGame a0 a1 a2 = some r) : AM.Spec Try.prog 15 [.agg [.int .i64 a0, .list (.ints a1)], .int .i64 a2] [] (.int .i64 r) [] := by
  refine spec_of (E := E_laws_szGame) Try.func15 rfl rfl rfl rfl ?_
  refine Tri.run 1 [] [.keep [1, 2] [2]] (K' := [.code [(1, 0)] 0, .code [] 2]) (σ' := ⟨[(1, .int .i64 a2), (2, .ptr 2 0)], [(2, .box [.int .i64 a0, .list (.ints a1)])]⟩) rfl trivial rfl ?_
  obtain ⟨v1, hk1, h⟩ := bind_some h
  refine Tri.run 2 [.r ⟨[], .int .i64 v1, []⟩] [.keep [1, 10] []] (K' := [.code [(2, 0)] 1, .code [] 3]) (σ' := ⟨[(1, .int .i64 v1), (10, .bool (decide (v1 < (0 : Int))))], []⟩) rfl ⟨(w_laws_szIntS a1 a2 v1 hk1), trivial⟩ rfl ?_
  rcases bif_some h with ⟨hd2, h⟩ | ⟨hd2, h⟩
  · refine Tri.run 2 [.g true] [.keep [4] []] (K' := [.code [(2, 0), (1, 0)] 1, .code [] 3]) (σ' := ⟨[(4, .int .i64 (-1 : Int))], []⟩) rfl ⟨hd2, trivial⟩ rfl ?_
    have h := Option.some.inj h
    subst h
    exact Tri.ret rfl ⟨.inl rfl, rfl, rfl⟩
  · refine Tri.run 2 [.g false] [.keep [4] []] (K' := [.code [] 4]) (σ' := ⟨[(4, .int .i64 v1)], []⟩) rfl ⟨hd2, trivial⟩ rfl ?_
    have h := Option.some.inj h
    subst h
    exact Tri.ret rfl ⟨.inl rfl, rfl, rfl⟩
/-! laws.toIntS -/
noncomputable def E_laws_toIntS : Env := ⟨Try.prog, tys, (Try.f31.body).getD .skip, 22, tysOk, mixedOk⟩
abbrev q_laws_toIntS (r : List Int) (σ' : ASt) : Prop := resAV E_laws_toIntS.T σ' Try.f31.results.toList = some (.sl 1000 0) ∧ keepO σ'.ob (namesO [(1000, .arr 3 0 0 (.ints r))]) = [(1000, .arr 3 0 0 (.ints r))]
noncomputable def l_laws_toIntS_0 (a0 : List Int) : (Int × (List Int)) → Option ((Int × (List Int)) ⊕ ((List Int)))
  | (v1, v2) => (
bif decide (v1 < (a0.length : Int)) then
(grd ((0 : Int) ≤ v1 ∧ v1 < (a0.length : Int)) <|
grd ((0 : Int) ≤ v1 ∧ v1 < (v2.length : Int)) <|
some (.inl (IntKind.i64.wrap (v1 + (1 : Int)), v2.set v1.toNat (a0.getD v1.toNat 0))))
else
(some (.inr v2)))
noncomputable def m_laws_toIntS (a0 : List Int) : Option (List Int) :=
grd ((0 : Int) ≤ (a0.length : Int) ∧ (a0.length : Int) = (a0.length : Int) ∧ (a0.length : Int) ≤ (room : Int)) <|
(iter (l_laws_toIntS_0 a0) ((0 : Int), List.replicate (a0.length : Int).toNat (0 : Int))).bind fun
| v3 => (
some v3)
theorem w_laws_toIntS (a0 : List Int) (r : List Int) (h : m_laws_toIntS a0 = some r) : AM.Spec Try.prog 31 [.list (.ints a0)] [] (.sl 1000 0) [(1000, .arr 3 0 0 (.ints r))] := by
  refine spec_of (E := E_laws_toIntS) Try.func31 rfl rfl rfl rfl ?_
  obtain ⟨hg1, h⟩ := grd_some h
  refine Tri.run 3 [] [.keep [0, 3, 4] [7]] (K' := [.code [(2, 0), (1, 0)] 0, .blk 0, .code [] 3]) (σ' := ⟨[(0, .list (.ints a0)), (3, .sl 7 0), (4, .int .i64 (0 : Int))], [(7, .arr 3 0 0 (.ints (List.replicate (a0.length : Int).toNat (0 : Int))))]⟩) rfl ⟨hg1, trivial⟩ rfl ?_
  obtain ⟨v3, hk5, h⟩ := bind_some h
  refine Tri.loop (K1 := [.code [(2, 0), (1, 0), (0, 0)] 0]) (K2 := [.blk 0, .code [] 3]) (fun (v1, v2) => ⟨[(0, .list (.ints a0)), (3, .sl 7 0), (4, .int .i64 v1)], [(7, .arr 3 0 0 (.ints v2))]⟩) (fun x e σ' => match x with | v3 => e = .exit 0 ∧ σ' = ⟨[(3, .sl 7 0)], [(7, .arr 3 0 0 (.ints v3))]⟩) hk5 rfl rfl ?_ ?_
  · intro s x hs
    clear h
    have h := hs
    clear hs
    obtain ⟨v1, v2⟩ := s
    refine Tri.run 1 [] [.keep [0, 3, 4, 11] [7]] (K' := [.code [(2, 0), (1, 0), (0, 0), (0, 0)] 1, .code [(2, 0), (1, 0), (0, 0)] 1]) (σ' := ⟨[(0, .list (.ints a0)), (3, .sl 7 0), (4, .int .i64 v1), (11, .bool (decide (v1 < (a0.length : Int))))], [(7, .arr 3 0 0 (.ints v2))]⟩) rfl trivial rfl ?_
    rcases bif_some h with ⟨hd2, h⟩ | ⟨hd2, h⟩
    · obtain ⟨hg3, h⟩ := grd_some h
      obtain ⟨hg4, h⟩ := grd_some h
      refine Tri.run 3 [.g true] [.keep [0, 3, 4] [7]] (K' := []) (σ' := ⟨[(0, .list (.ints a0)), (3, .sl 7 0), (4, .int .i64 (IntKind.i64.wrap (v1 + (1 : Int))))], [(7, .arr 3 0 0 (.ints (v2.set v1.toNat (a0.getD v1.toNat 0))))]⟩) rfl ⟨hg4, hg3, hd2, trivial⟩ rfl ?_
      have h := Option.some.inj h
      subst h
      exact Tri.nil ⟨rfl, rfl⟩
    · refine Tri.run 1 [.g false] [.keep [3] [7]] (K' := [.code [(2, 0), (1, 0), (0, 0), (0, 0), (1, 1)] 0, .code [(2, 0), (1, 0), (0, 0)] 1]) (σ' := ⟨[(3, .sl 7 0)], [(7, .arr 3 0 0 (.ints v2))]⟩) rfl ⟨hd2, trivial⟩ rfl ?_
      have h := Option.some.inj h
      subst h
      exact Tri.out 0 rfl ⟨nofun, rfl, rfl⟩
  · intro e σ' hne hq
    obtain ⟨rfl, rfl⟩ := hq
    refine TriX.exit (K' := [.code [] 3]) rfl ?_
    refine Tri.run 1 [] [.swap 7 1000, .keep [2] [1000]] (K' := [.code [] 4]) (σ' := ⟨[(2, .sl 1000 0)], [(1000, .arr 3 0 0 (.ints v3))]⟩) rfl trivial rfl ?_
    have h := Option.some.inj h
    subst h
    exact Tri.ret rfl ⟨.inl rfl, rfl, rfl⟩
/-! laws.toGame -/
noncomputable def E_laws_toGame : Env := ⟨Try.prog, tys, (Try.f17.body).getD .skip, 12, tysOk, mixedOk⟩
abbrev q_laws_toGame (r : Int × (List Int)) (σ' : ASt) : Prop := resAV E_laws_toGame.T σ' Try.f17.results.toList = some (.agg [.int .i64 r.1, .sl 1000 0]) ∧ keepO σ'.ob (namesO [(1000, .arr 3 0 0 (.ints r.2))]) = [(1000, .arr 3 0 0 (.ints r.2))]
noncomputable def m_laws_toGame (a0 : Int) (a1 : List Int) : Option (Int × (List Int)) :=
(m_laws_toIntS a1).bind fun v1 =>
some (a0, v1)
theorem w_laws_toGame (a0 : Int) (a1 : List Int) (r : Int × (List Int)) (h : m_laws_toGame a0 a1 = some r) : AM.Spec Try.prog 17 [.agg [.int .i64 a0, .list (.ints a1)]] [] (.agg [.int .i64 r.1, .sl 1000 0]) [(1000, .arr 3 0 0 (.ints r.2))] := by
  refine spec_of (E := E_laws_toGame) Try.func17 rfl rfl rfl rfl ?_
  refine Tri.run 3 [] [.keep [1, 2, 3] [1, 2, 3]] (K' := [.code [(3, 0)] 0, .code [] 4]) (σ' := ⟨[(1, .ptr 1 0), (2, .ptr 2 0), (3, .ptr 3 0)], [(1, .box [.int .i64 a0, .list (.ints a1)]), (2, .box [.int .i64 0, .nil (.ints [])]), (3, .box [.int .i64 a0, .nil (.ints [])])]⟩) rfl trivial rfl ?_
  obtain ⟨v1, hk1, h⟩ := bind_some h
  refine Tri.run 2 [.r ⟨[], .sl 1100 0, [(1100, .arr 3 0 0 (.ints v1))]⟩] [.swap 1100 1000, .keep [2] [2, 1000]] (K' := [.code [] 5]) (σ' := ⟨[(2, .ptr 2 0)], [(2, .box [.int .i64 a0, .sl 1000 0]), (1000, .arr 3 0 0 (.ints v1))]⟩) rfl ⟨((w_laws_toIntS a1 v1 hk1).swap 1000 1100), trivial⟩ rfl ?_
  have h := Option.some.inj h
  subst h
  exact Tri.ret rfl ⟨.inl rfl, rfl, rfl⟩
/-! spec.l1In -/
noncomputable def E_spec_l1In : Env := ⟨Try.prog, tys, (Try.f62.body).getD .skip, 15, tysOk, mixedOk⟩
abbrev q_spec_l1In (r : Bool) (σ' : ASt) : Prop := resAV E_spec_l1In.T σ' Try.f62.results.toList = some (.bool r) ∧ keepO σ'.ob (namesO []) = []
noncomputable def m_spec_l1In (a0 : Int) (a1 : Int) (a2 : Int) : Option Bool :=
bif decide (a0 ≥ a1) then
(some (decide (a0 ≤ a2)))
else
(some false)
theorem w_spec_l1In (a0 : Int) (a1 : Int) (a2 : Int) (r : Bool) (h : m_spec_l1In a0 a1 a2 = some r) : AM.Spec Try.prog 62 [.int .i64 a0, .int .i64 a1, .int .i64 a2] [] (.bool r) [] := by
  refine spec_of (E := E_spec_l1In) Try.func62 rfl rfl rfl rfl ?_
  refine Tri.run 1 [] [.keep [0, 1, 2] []] (K' := [.code [(1, 0)] 0, .code [] 2]) (σ' := ⟨[(0, .int .i64 a0), (1, .int .i64 a1), (2, .int .i64 a2)], []⟩) rfl trivial rfl ?_
  rcases bif_some h with ⟨hd1, h⟩ | ⟨hd1, h⟩
  · refine Tri.run 1 [.g true] [.keep [6] []] (K' := [.code [] 2]) (σ' := ⟨[(6, .bool (decide (a0 ≤ a2)))], []⟩) rfl ⟨hd1, trivial⟩ rfl ?_
    have h := Option.some.inj h
    subst h
    exact Tri.ret rfl ⟨.inl rfl, rfl, rfl⟩
  · refine Tri.run 1 [.g false] [.keep [6] []] (K' := [.code [] 2]) (σ' := ⟨[(6, .bool false)], []⟩) rfl ⟨hd1, trivial⟩ rfl ?_
    have h := Option.some.inj h
    subst h
    exact Tri.ret rfl ⟨.inl rfl, rfl, rfl⟩
/-! spec.CountCoalitions -/
noncomputable def E_spec_CountCoalitions : Env := ⟨Try.prog, tys, (Try.f63.body).getD .skip, 16, tysOk, mixedOk⟩
abbrev q_spec_CountCoalitions (r : Int) (σ' : ASt) : Prop := resAV E_spec_CountCoalitions.T σ' Try.f63.results.toList = some (.int .i64 r) ∧ keepO σ'.ob (namesO []) = []
noncomputable def l_spec_CountCoalitions_0 (a0 : Int) : (Int × Int) → Option ((Int × Int) ⊕ Int)
  | (v2, v3) => (
bif decide (v3 < a0) then
(some (.inl (IntKind.i64.wrap (v2 * (2 : Int)), IntKind.i64.wrap (v3 + (1 : Int)))))
else
(some (.inr v2)))
noncomputable def m_spec_CountCoalitions (a0 : Int) : Option Int :=
(m_spec_l1In a0 (0 : Int) (5 : Int)).bind fun v1 =>
bif !v1 then
(some (0 : Int))
else
((iter (l_spec_CountCoalitions_0 a0) ((1 : Int), (0 : Int))).bind fun
| v4 => (
some v4))
theorem w_spec_CountCoalitions (a0 : Int) (r : Int) (h : m_spec_CountCoalitions a0 = some r) : AM.Spec Try.prog 63 [.int .i64 a0] [] (.int .i64 r) [] := by
  refine spec_of (E := E_spec_CountCoalitions) Try.func63 rfl rfl rfl rfl ?_
  refine Tri.run 1 [] [.keep [0] []] (K' := [.code [(1, 0), (0, 0)] 0, .code [(1, 0)] 1, .code [] 2]) (σ' := ⟨[(0, .int .i64 a0)], []⟩) rfl trivial rfl ?_
  obtain ⟨v1, hk1, h⟩ := bind_some h
  refine Tri.run 1 [.r ⟨[], .bool v1, []⟩] [.keep [0, 7] []] (K' := [.code [(1, 0)] 1, .code [] 2]) (σ' := ⟨[(0, .int .i64 a0), (7, .bool (!v1))], []⟩) rfl ⟨(w_spec_l1In a0 (0 : Int) (5 : Int) v1 hk1), trivial⟩ rfl ?_
  rcases bif_some h with ⟨hd2, h⟩ | ⟨hd2, h⟩
  · refine Tri.run 2 [.g true] [.keep [2] []] (K' := [.code [(1, 0), (1, 0)] 1, .code [] 2]) (σ' := ⟨[(2, .int .i64 (0 : Int))], []⟩) rfl ⟨hd2, trivial⟩ rfl ?_
    have h := Option.some.inj h
    subst h
    exact Tri.ret rfl ⟨.inl rfl, rfl, rfl⟩
  · refine Tri.run 3 [.g false] [.keep [0, 3, 4] []] (K' := [.code [(3, 0), (1, 0)] 0, .blk 0, .code [] 4]) (σ' := ⟨[(0, .int .i64 a0), (3, .int .i64 (1 : Int)), (4, .int .i64 (0 : Int))], []⟩) rfl ⟨hd2, trivial⟩ rfl ?_
    obtain ⟨v4, hk4, h⟩ := bind_some h
    refine Tri.loop (K1 := [.code [(3, 0), (1, 0), (0, 0)] 0]) (K2 := [.blk 0, .code [] 4]) (fun (v2, v3) => ⟨[(0, .int .i64 a0), (3, .int .i64 v2), (4, .int .i64 v3)], []⟩) (fun x e σ' => match x with | v4 => e = .exit 0 ∧ σ' = ⟨[(3, .int .i64 v4)], []⟩) hk4 rfl rfl ?_ ?_
    · intro s x hs
      clear h
      have h := hs
      clear hs
      obtain ⟨v2, v3⟩ := s
      refine Tri.run 1 [] [.keep [0, 3, 4, 10] []] (K' := [.code [(3, 0), (1, 0), (0, 0), (0, 0)] 1, .code [(3, 0), (1, 0), (0, 0)] 1]) (σ' := ⟨[(0, .int .i64 a0), (3, .int .i64 v2), (4, .int .i64 v3), (10, .bool (decide (v3 < a0)))], []⟩) rfl trivial rfl ?_
      rcases bif_some h with ⟨hd3, h⟩ | ⟨hd3, h⟩
      · refine Tri.run 3 [.g true] [.keep [0, 3, 4] []] (K' := []) (σ' := ⟨[(0, .int .i64 a0), (3, .int .i64 (IntKind.i64.wrap (v2 * (2 : Int)))), (4, .int .i64 (IntKind.i64.wrap (v3 + (1 : Int))))], []⟩) rfl ⟨hd3, trivial⟩ rfl ?_
        have h := Option.some.inj h
        subst h
        exact Tri.nil ⟨rfl, rfl⟩
      · refine Tri.run 1 [.g false] [.keep [3] []] (K' := [.code [(3, 0), (1, 0), (0, 0), (0, 0), (1, 1)] 0, .code [(3, 0), (1, 0), (0, 0)] 1]) (σ' := ⟨[(3, .int .i64 v2)], []⟩) rfl ⟨hd3, trivial⟩ rfl ?_
        have h := Option.some.inj h
        subst h
        exact Tri.out 0 rfl ⟨nofun, rfl, rfl⟩
    · intro e σ' hne hq
      obtain ⟨rfl, rfl⟩ := hq
      refine TriX.exit (K' := [.code [] 4]) rfl ?_
      refine Tri.run 1 [] [.keep [2] []] (K' := [.code [] 5]) (σ' := ⟨[(2, .int .i64 v4)], []⟩) rfl trivial rfl ?_
      have h := Option.some.inj h
      subst h
      exact Tri.ret rfl ⟨.inl rfl, rfl, rfl⟩
/-! spec.IsValidGame -/
noncomputable def E_spec_IsValidGame : Env := ⟨Try.prog, tys, (Try.f65.body).getD .skip, 37, tysOk, mixedOk⟩
abbrev q_spec_IsValidGame (r : Bool) (σ' : ASt) : Prop := resAV E_spec_IsValidGame.T σ' Try.f65.results.toList = some (.bool r) ∧ keepO σ'.ob (namesO []) = []
noncomputable def l_spec_IsValidGame_0 (a1 : List Int) (v1 : Int) : Option (Int ⊕ (Unit ⊕ Bool)) :=
bif decide (v1 < (a1.length : Int)) then
(grd ((0 : Int) ≤ v1 ∧ v1 < (a1.length : Int)) <|
(m_spec_l1In (a1.getD v1.toNat 0) (-500 : Int) (500 : Int)).bind fun v2 =>
bif !v2 then
(some (.inr (.inr false)))
else
(some (.inl (IntKind.i64.wrap (v1 + (1 : Int))))))
else
(some (.inr (.inl ())))
noncomputable def m_spec_IsValidGame (a0 : Int) (a1 : List Int) : Option Bool :=
(iter (l_spec_IsValidGame_0 a1) (0 : Int)).bind fun
| (.inl _) => (
(m_spec_l1In a0 (1 : Int) (5 : Int)).bind fun v3 =>
bif v3 then
((m_spec_CountCoalitions a0).bind fun v4 =>
bif (a1.length : Int) == v4 then
(grd ((0 : Int) ≤ (0 : Int) ∧ (0 : Int) < (a1.length : Int)) <|
some ((a1.getD ((0 : Int).toNat) 0) == (0 : Int)))
else
(some false))
else
(some false))
| (.inr r) => some r
theorem w_spec_IsValidGame (a0 : Int) (a1 : List Int) (r : Bool) (h : m_spec_IsValidGame a0 a1 = some r) : AM.Spec Try.prog 65 [.agg [.int .i64 a0, .list (.ints a1)]] [] (.bool r) [] := by
  refine spec_of (E := E_spec_IsValidGame) Try.func65 rfl rfl rfl rfl ?_
  refine Tri.run 2 [] [.keep [1, 3] [1]] (K' := [.code [(1, 0), (1, 0)] 0, .blk 0, .code [] 2]) (σ' := ⟨[(1, .ptr 1 0), (3, .int .i64 (0 : Int))], [(1, .box [.int .i64 a0, .list (.ints a1)])]⟩) rfl trivial rfl ?_
  obtain ⟨x1, hk5, h⟩ := bind_some h
  refine Tri.loop (K1 := [.code [(1, 0), (1, 0), (0, 0)] 0]) (K2 := [.blk 0, .code [] 2]) (fun v1 => ⟨[(1, .ptr 1 0), (3, .int .i64 v1)], [(1, .box [.int .i64 a0, .list (.ints a1)])]⟩) (fun x e σ' => match x with | (.inl _) => e = .exit 0 ∧ σ' = ⟨[(1, .ptr 1 0)], [(1, .box [.int .i64 a0, .list (.ints a1)])]⟩ | (.inr r) => e = .ret ∧ q_spec_IsValidGame r σ') hk5 rfl rfl ?_ ?_
  · intro v1 x hs
    clear h
    have h := hs
    clear hs
    refine Tri.run 1 [] [.keep [1, 3, 8] [1]] (K' := [.code [(1, 0), (1, 0), (0, 0), (0, 0)] 1, .code [(1, 0), (1, 0), (0, 0)] 1]) (σ' := ⟨[(1, .ptr 1 0), (3, .int .i64 v1), (8, .bool (decide (v1 < (a1.length : Int))))], [(1, .box [.int .i64 a0, .list (.ints a1)])]⟩) rfl trivial rfl ?_
    rcases bif_some h with ⟨hd1, h⟩ | ⟨hd1, h⟩
    · obtain ⟨hg2, h⟩ := grd_some h
      obtain ⟨v2, hk3, h⟩ := bind_some h
      refine Tri.run 2 [.g true, .r ⟨[], .bool v2, []⟩] [.keep [1, 3, 17] [1]] (K' := [.code [(1, 0), (1, 0), (0, 0), (1, 0), (0, 0)] 1, .blk 1, .code [(1, 0), (1, 0), (0, 0)] 2]) (σ' := ⟨[(1, .ptr 1 0), (3, .int .i64 v1), (17, .bool (!v2))], [(1, .box [.int .i64 a0, .list (.ints a1)])]⟩) rfl ⟨(w_spec_l1In (a1.getD v1.toNat 0) (-500 : Int) (500 : Int) v2 hk3), hg2, hd1, trivial⟩ rfl ?_
      rcases bif_some h with ⟨hd4, h⟩ | ⟨hd4, h⟩
      · refine Tri.run 2 [.g true] [.keep [2] []] (K' := [.code [(1, 0), (1, 0), (0, 0), (1, 0), (0, 0), (1, 0)] 1, .blk 1, .code [(1, 0), (1, 0), (0, 0)] 2]) (σ' := ⟨[(2, .bool false)], []⟩) rfl ⟨hd4, trivial⟩ rfl ?_
        have h := Option.some.inj h
        subst h
        exact Tri.ret rfl ⟨nofun, rfl, rfl, rfl⟩
      · refine Tri.run 2 [.g false] [.keep [1, 3] [1]] (K' := []) (σ' := ⟨[(1, .ptr 1 0), (3, .int .i64 (IntKind.i64.wrap (v1 + (1 : Int))))], [(1, .box [.int .i64 a0, .list (.ints a1)])]⟩) rfl ⟨hd4, trivial⟩ rfl ?_
        have h := Option.some.inj h
        subst h
        exact Tri.nil ⟨rfl, rfl⟩
    · refine Tri.run 1 [.g false] [.keep [1] [1]] (K' := [.code [(1, 0), (1, 0), (0, 0), (0, 0), (1, 1)] 0, .code [(1, 0), (1, 0), (0, 0)] 1]) (σ' := ⟨[(1, .ptr 1 0)], [(1, .box [.int .i64 a0, .list (.ints a1)])]⟩) rfl ⟨hd1, trivial⟩ rfl ?_
      have h := Option.some.inj h
      subst h
      exact Tri.out 0 rfl ⟨nofun, rfl, rfl⟩
  · intro e σ' hne hq
    rcases x1 with _ | r
    · obtain ⟨rfl, rfl⟩ := hq
      refine TriX.exit (K' := [.code [] 2]) rfl ?_
      obtain ⟨v3, hk6, h⟩ := bind_some h
      rcases bif_some h with ⟨hd7, h⟩ | ⟨hd7, h⟩
      · obtain ⟨v4, hk8, h⟩ := bind_some h
        rcases bif_some h with ⟨hd9, h⟩ | ⟨hd9, h⟩
        · obtain ⟨hg10, h⟩ := grd_some h
          refine Tri.run 1 [.r ⟨[], .bool v3, []⟩, .g true, .r ⟨[], .int .i64 v4, []⟩, .g true] [.keep [2] []] (K' := [.code [] 3]) (σ' := ⟨[(2, .bool ((a1.getD ((0 : Int).toNat) 0) == (0 : Int)))], []⟩) rfl ⟨hg10, hd9, (w_spec_CountCoalitions a0 v4 hk8), hd7, (w_spec_l1In a0 (1 : Int) (5 : Int) v3 hk6), trivial⟩ rfl ?_
          have h := Option.some.inj h
          subst h
          exact Tri.ret rfl ⟨.inl rfl, rfl, rfl⟩
        · refine Tri.run 1 [.r ⟨[], .bool v3, []⟩, .g true, .r ⟨[], .int .i64 v4, []⟩, .g false] [.keep [2] []] (K' := [.code [] 3]) (σ' := ⟨[(2, .bool false)], []⟩) rfl ⟨hd9, (w_spec_CountCoalitions a0 v4 hk8), hd7, (w_spec_l1In a0 (1 : Int) (5 : Int) v3 hk6), trivial⟩ rfl ?_
          have h := Option.some.inj h
          subst h
          exact Tri.ret rfl ⟨.inl rfl, rfl, rfl⟩
      · refine Tri.run 1 [.r ⟨[], .bool v3, []⟩, .g false, .g false] [.keep [2] []] (K' := [.code [] 3]) (σ' := ⟨[(2, .bool false)], []⟩) rfl ⟨rfl, hd7, (w_spec_l1In a0 (1 : Int) (5 : Int) v3 hk6), trivial⟩ rfl ?_
        have h := Option.some.inj h
        subst h
        exact Tri.ret rfl ⟨.inl rfl, rfl, rfl⟩
    · obtain ⟨rfl, hq⟩ := hq
      have h := Option.some.inj h
      subst h
      exact TriX.ret ⟨.inl rfl, hq⟩
/-! spec.l2Bit -/
noncomputable def E_spec_l2Bit : Env := ⟨Try.prog, tys, (Try.f105.body).getD .skip, 5, tysOk, mixedOk⟩
abbrev q_spec_l2Bit (r : Int) (σ' : ASt) : Prop := resAV E_spec_l2Bit.T σ' Try.f105.results.toList = some (.int .i64 r) ∧ keepO σ'.ob (namesO []) = []
noncomputable def m_spec_l2Bit (a0 : Int) : Option Int :=
(m_spec_CountCoalitions a0).bind fun v1 =>
some v1
theorem w_spec_l2Bit (a0 : Int) (r : Int) (h : m_spec_l2Bit a0 = some r) : AM.Spec Try.prog 105 [.int .i64 a0] [] (.int .i64 r) [] := by
  refine spec_of (E := E_spec_l2Bit) Try.func105 rfl rfl rfl rfl ?_
  refine Tri.run 1 [] [.keep [0] []] (K' := [.code [(1, 0)] 0, .code [] 2]) (σ' := ⟨[(0, .int .i64 a0)], []⟩) rfl trivial rfl ?_
  obtain ⟨v1, hk1, h⟩ := bind_some h
  refine Tri.run 1 [.r ⟨[], .int .i64 v1, []⟩] [.keep [2] []] (K' := [.code [] 2]) (σ' := ⟨[(2, .int .i64 v1)], []⟩) rfl ⟨(w_spec_CountCoalitions a0 v1 hk1), trivial⟩ rfl ?_
  have h := Option.some.inj h
  subst h
  exact Tri.ret rfl ⟨.inl rfl, rfl, rfl⟩
/-! spec.HasPlayer -/
noncomputable def E_spec_HasPlayer : Env := ⟨Try.prog, tys, (Try.f72.body).getD .skip, 19, tysOk, mixedOk⟩
abbrev q_spec_HasPlayer (r : Bool) (σ' : ASt) : Prop := resAV E_spec_HasPlayer.T σ' Try.f72.results.toList = some (.bool r) ∧ keepO σ'.ob (namesO []) = []
noncomputable def m_spec_HasPlayer (a0 : Int) (a1 : Int) : Option Bool :=
(m_spec_l1In a1 (0 : Int) (4 : Int)).bind fun v1 =>
bif v1 then
(bif decide (a0 ≥ (0 : Int)) then
((m_spec_l2Bit a1).bind fun v2 =>
grd (v2 ≠ 0) <|
grd ((2 : Int) ≠ 0) <|
some (((IntKind.i64.wrap (a0.tdiv v2)).tmod (2 : Int)) == (1 : Int)))
else
(some false))
else
(some false)
theorem w_spec_HasPlayer (a0 : Int) (a1 : Int) (r : Bool) (h : m_spec_HasPlayer a0 a1 = some r) : AM.Spec Try.prog 72 [.int .i64 a0, .int .i64 a1] [] (.bool r) [] := by
  refine spec_of (E := E_spec_HasPlayer) Try.func72 rfl rfl rfl rfl ?_
  refine Tri.run 1 [] [.keep [0, 1] []] (K' := [.code [(1, 0)] 0, .code [] 2]) (σ' := ⟨[(0, .int .i64 a0), (1, .int .i64 a1)], []⟩) rfl trivial rfl ?_
  obtain ⟨v1, hk1, h⟩ := bind_some h
  rcases bif_some h with ⟨hd2, h⟩ | ⟨hd2, h⟩
  · rcases bif_some h with ⟨hd3, h⟩ | ⟨hd3, h⟩
    · obtain ⟨v2, hk4, h⟩ := bind_some h
      obtain ⟨hg5, h⟩ := grd_some h
      obtain ⟨hg6, h⟩ := grd_some h
      refine Tri.run 1 [.r ⟨[], .bool v1, []⟩, .g true, .g true, .r ⟨[], .int .i64 v2, []⟩] [.keep [4] []] (K' := [.code [] 2]) (σ' := ⟨[(4, .bool (((IntKind.i64.wrap (a0.tdiv v2)).tmod (2 : Int)) == (1 : Int)))], []⟩) rfl ⟨hg6, hg5, (w_spec_l2Bit a1 v2 hk4), hd3, hd2, (w_spec_l1In a1 (0 : Int) (4 : Int) v1 hk1), trivial⟩ rfl ?_
      have h := Option.some.inj h
      subst h
      exact Tri.ret rfl ⟨.inl rfl, rfl, rfl⟩
    · refine Tri.run 1 [.r ⟨[], .bool v1, []⟩, .g true, .g false] [.keep [4] []] (K' := [.code [] 2]) (σ' := ⟨[(4, .bool false)], []⟩) rfl ⟨hd3, hd2, (w_spec_l1In a1 (0 : Int) (4 : Int) v1 hk1), trivial⟩ rfl ?_
      have h := Option.some.inj h
      subst h
      exact Tri.ret rfl ⟨.inl rfl, rfl, rfl⟩
  · refine Tri.run 1 [.r ⟨[], .bool v1, []⟩, .g false, .g false] [.keep [4] []] (K' := [.code [] 2]) (σ' := ⟨[(4, .bool false)], []⟩) rfl ⟨rfl, hd2, (w_spec_l1In a1 (0 : Int) (4 : Int) v1 hk1), trivial⟩ rfl ?_
    have h := Option.some.inj h
    subst h
    exact Tri.ret rfl ⟨.inl rfl, rfl, rfl⟩
/-! spec.l2Good -/
noncomputable def E_spec_l2Good : Env := ⟨Try.prog, tys, (Try.f104.body).getD .skip, 5, tysOk, mixedOk⟩
abbrev q_spec_l2Good (r : Bool) (σ' : ASt) : Prop := resAV E_spec_l2Good.T σ' Try.f104.results.toList = some (.bool r) ∧ keepO σ'.ob (namesO []) = []
noncomputable def m_spec_l2Good (a0 : Int) : Option Bool :=
(m_spec_l1In a0 (0 : Int) (31 : Int)).bind fun v1 =>
some v1
theorem w_spec_l2Good (a0 : Int) (r : Bool) (h : m_spec_l2Good a0 = some r) : AM.Spec Try.prog 104 [.int .i64 a0] [] (.bool r) [] := by
  refine spec_of (E := E_spec_l2Good) Try.func104 rfl rfl rfl rfl ?_
  refine Tri.run 1 [] [.keep [0] []] (K' := [.code [(1, 0)] 0, .code [] 2]) (σ' := ⟨[(0, .int .i64 a0)], []⟩) rfl trivial rfl ?_
  obtain ⟨v1, hk1, h⟩ := bind_some h
  refine Tri.run 1 [.r ⟨[], .bool v1, []⟩] [.keep [2] []] (K' := [.code [] 2]) (σ' := ⟨[(2, .bool v1)], []⟩) rfl ⟨(w_spec_l1In a0 (0 : Int) (31 : Int) v1 hk1), trivial⟩ rfl ?_
  have h := Option.some.inj h
  subst h
  exact Tri.ret rfl ⟨.inl rfl, rfl, rfl⟩
/-! spec.IsSubset -/
noncomputable def E_spec_IsSubset : Env := ⟨Try.prog, tys, (Try.f64.body).getD .skip, 25, tysOk, mixedOk⟩
abbrev q_spec_IsSubset (r : Bool) (σ' : ASt) : Prop := resAV E_spec_IsSubset.T σ' Try.f64.results.toList = some (.bool r) ∧ keepO σ'.ob (namesO []) = []
noncomputable def l_spec_IsSubset_0 (a0 : Int) (a1 : Int) (v1 : Int) : Option (Int ⊕ (Unit ⊕ Bool)) :=
bif decide (v1 < (5 : Int)) then
((m_spec_HasPlayer a0 v1).bind fun v2 =>
bif v2 then
((m_spec_HasPlayer a1 v1).bind fun v3 =>
bif !v3 then
(some (.inr (.inr false)))
else
(some (.inl (IntKind.i64.wrap (v1 + (1 : Int))))))
else
(some (.inl (IntKind.i64.wrap (v1 + (1 : Int))))))
else
(some (.inr (.inl ())))
noncomputable def m_spec_IsSubset (a0 : Int) (a1 : Int) : Option Bool :=
(iter (l_spec_IsSubset_0 a0 a1) (0 : Int)).bind fun
| (.inl _) => (
(m_spec_l2Good a0).bind fun v4 =>
bif v4 then
((m_spec_l2Good a1).bind fun v5 =>
some v5)
else
(some false))
| (.inr r) => some r
theorem w_spec_IsSubset (a0 : Int) (a1 : Int) (r : Bool) (h : m_spec_IsSubset a0 a1 = some r) : AM.Spec Try.prog 64 [.int .i64 a0, .int .i64 a1] [] (.bool r) [] := by
  refine spec_of (E := E_spec_IsSubset) Try.func64 rfl rfl rfl rfl ?_
  refine Tri.run 2 [] [.keep [0, 1, 5] []] (K' := [.code [(1, 0), (1, 0)] 0, .blk 0, .code [] 2]) (σ' := ⟨[(0, .int .i64 a0), (1, .int .i64 a1), (5, .int .i64 (0 : Int))], []⟩) rfl trivial rfl ?_
  obtain ⟨x1, hk6, h⟩ := bind_some h
  refine Tri.loop (K1 := [.code [(1, 0), (1, 0), (0, 0)] 0]) (K2 := [.blk 0, .code [] 2]) (fun v1 => ⟨[(0, .int .i64 a0), (1, .int .i64 a1), (5, .int .i64 v1)], []⟩) (fun x e σ' => match x with | (.inl _) => e = .exit 0 ∧ σ' = ⟨[(0, .int .i64 a0), (1, .int .i64 a1)], []⟩ | (.inr r) => e = .ret ∧ q_spec_IsSubset r σ') hk6 rfl rfl ?_ ?_
  · intro v1 x hs
    clear h
    have h := hs
    clear hs
    refine Tri.run 1 [] [.keep [0, 1, 5, 7] []] (K' := [.code [(1, 0), (1, 0), (0, 0), (0, 0)] 1, .code [(1, 0), (1, 0), (0, 0)] 1]) (σ' := ⟨[(0, .int .i64 a0), (1, .int .i64 a1), (5, .int .i64 v1), (7, .bool (decide (v1 < (5 : Int))))], []⟩) rfl trivial rfl ?_
    rcases bif_some h with ⟨hd1, h⟩ | ⟨hd1, h⟩
    · obtain ⟨v2, hk2, h⟩ := bind_some h
      rcases bif_some h with ⟨hd3, h⟩ | ⟨hd3, h⟩
      · obtain ⟨v3, hk4, h⟩ := bind_some h
        refine Tri.run 2 [.g true, .r ⟨[], .bool v2, []⟩, .g true, .r ⟨[], .bool v3, []⟩] [.keep [0, 1, 5, 18] []] (K' := [.code [(1, 0), (1, 0), (0, 0), (1, 0), (0, 0)] 1, .blk 1, .code [(1, 0), (1, 0), (0, 0)] 2]) (σ' := ⟨[(0, .int .i64 a0), (1, .int .i64 a1), (5, .int .i64 v1), (18, .bool (!v3))], []⟩) rfl ⟨(w_spec_HasPlayer a1 v1 v3 hk4), hd3, (w_spec_HasPlayer a0 v1 v2 hk2), hd1, trivial⟩ rfl ?_
        rcases bif_some h with ⟨hd5, h⟩ | ⟨hd5, h⟩
        · refine Tri.run 2 [.g true] [.keep [4] []] (K' := [.code [(1, 0), (1, 0), (0, 0), (1, 0), (0, 0), (1, 0)] 1, .blk 1, .code [(1, 0), (1, 0), (0, 0)] 2]) (σ' := ⟨[(4, .bool false)], []⟩) rfl ⟨hd5, trivial⟩ rfl ?_
          have h := Option.some.inj h
          subst h
          exact Tri.ret rfl ⟨nofun, rfl, rfl, rfl⟩
        · refine Tri.run 2 [.g false] [.keep [0, 1, 5] []] (K' := []) (σ' := ⟨[(0, .int .i64 a0), (1, .int .i64 a1), (5, .int .i64 (IntKind.i64.wrap (v1 + (1 : Int))))], []⟩) rfl ⟨hd5, trivial⟩ rfl ?_
          have h := Option.some.inj h
          subst h
          exact Tri.nil ⟨rfl, rfl⟩
      · refine Tri.run 2 [.g true, .r ⟨[], .bool v2, []⟩, .g false] [.keep [0, 1, 5, 18] []] (K' := [.code [(1, 0), (1, 0), (0, 0), (1, 0), (0, 0)] 1, .blk 1, .code [(1, 0), (1, 0), (0, 0)] 2]) (σ' := ⟨[(0, .int .i64 a0), (1, .int .i64 a1), (5, .int .i64 v1), (18, .bool false)], []⟩) rfl ⟨hd3, (w_spec_HasPlayer a0 v1 v2 hk2), hd1, trivial⟩ rfl ?_
        refine Tri.run 2 [.g false] [.keep [0, 1, 5] []] (K' := []) (σ' := ⟨[(0, .int .i64 a0), (1, .int .i64 a1), (5, .int .i64 (IntKind.i64.wrap (v1 + (1 : Int))))], []⟩) rfl ⟨rfl, trivial⟩ rfl ?_
        have h := Option.some.inj h
        subst h
        exact Tri.nil ⟨rfl, rfl⟩
    · refine Tri.run 1 [.g false] [.keep [0, 1] []] (K' := [.code [(1, 0), (1, 0), (0, 0), (0, 0), (1, 1)] 0, .code [(1, 0), (1, 0), (0, 0)] 1]) (σ' := ⟨[(0, .int .i64 a0), (1, .int .i64 a1)], []⟩) rfl ⟨hd1, trivial⟩ rfl ?_
      have h := Option.some.inj h
      subst h
      exact Tri.out 0 rfl ⟨nofun, rfl, rfl⟩
  · intro e σ' hne hq
    rcases x1 with _ | r
    · obtain ⟨rfl, rfl⟩ := hq
      refine TriX.exit (K' := [.code [] 2]) rfl ?_
      obtain ⟨v4, hk7, h⟩ := bind_some h
      rcases bif_some h with ⟨hd8, h⟩ | ⟨hd8, h⟩
      · obtain ⟨v5, hk9, h⟩ := bind_some h
        refine Tri.run 1 [.r ⟨[], .bool v4, []⟩, .g true, .r ⟨[], .bool v5, []⟩] [.keep [4] []] (K' := [.code [] 3]) (σ' := ⟨[(4, .bool v5)], []⟩) rfl ⟨(w_spec_l2Good a1 v5 hk9), hd8, (w_spec_l2Good a0 v4 hk7), trivial⟩ rfl ?_
        have h := Option.some.inj h
        subst h
        exact Tri.ret rfl ⟨.inl rfl, rfl, rfl⟩
      · refine Tri.run 1 [.r ⟨[], .bool v4, []⟩, .g false] [.keep [4] []] (K' := [.code [] 3]) (σ' := ⟨[(4, .bool false)], []⟩) rfl ⟨hd8, (w_spec_l2Good a0 v4 hk7), trivial⟩ rfl ?_
        have h := Option.some.inj h
        subst h
        exact Tri.ret rfl ⟨.inl rfl, rfl, rfl⟩
    · obtain ⟨rfl, hq⟩ := hq
      have h := Option.some.inj h
      subst h
      exact TriX.ret ⟨.inl rfl, hq⟩
/-! spec.Overlap -/
noncomputable def E_spec_Overlap : Env := ⟨Try.prog, tys, (Try.f101.body).getD .skip, 32, tysOk, mixedOk⟩
abbrev q_spec_Overlap (r : Int) (σ' : ASt) : Prop := resAV E_spec_Overlap.T σ' Try.f101.results.toList = some (.int .i64 r) ∧ keepO σ'.ob (namesO []) = []
noncomputable def l_spec_Overlap_0 (a0 : Int) (a1 : Int) : (Int × Int) → Option ((Int × Int) ⊕ Int)
  | (v1, v2) => (
bif decide (v2 < (5 : Int)) then
((m_spec_l2Good a0).bind fun v3 =>
bif v3 then
((m_spec_l2Good a1).bind fun v4 =>
bif v4 then
((m_spec_HasPlayer a0 v2).bind fun v5 =>
bif v5 then
((m_spec_HasPlayer a1 v2).bind fun v6 =>
bif v6 then
((m_spec_l2Bit v2).bind fun v7 =>
some (.inl (IntKind.i64.wrap (v1 + v7), IntKind.i64.wrap (v2 + (1 : Int)))))
else
(some (.inl (v1, IntKind.i64.wrap (v2 + (1 : Int))))))
else
(some (.inl (v1, IntKind.i64.wrap (v2 + (1 : Int))))))
else
(some (.inr v1)))
else
(some (.inr v1)))
else
(some (.inr v1)))
noncomputable def m_spec_Overlap (a0 : Int) (a1 : Int) : Option Int :=
(iter (l_spec_Overlap_0 a0 a1) ((0 : Int), (0 : Int))).bind fun
| v8 => (
some v8)
theorem w_spec_Overlap (a0 : Int) (a1 : Int) (r : Int) (h : m_spec_Overlap a0 a1 = some r) : AM.Spec Try.prog 101 [.int .i64 a0, .int .i64 a1] [] (.int .i64 r) [] := by
  refine spec_of (E := E_spec_Overlap) Try.func101 rfl rfl rfl rfl ?_
  refine Tri.run 3 [] [.keep [0, 1, 5, 6] []] (K' := [.code [(2, 0), (1, 0)] 0, .blk 0, .code [] 3]) (σ' := ⟨[(0, .int .i64 a0), (1, .int .i64 a1), (5, .int .i64 (0 : Int)), (6, .int .i64 (0 : Int))], []⟩) rfl trivial rfl ?_
  obtain ⟨v8, hk11, h⟩ := bind_some h
  refine Tri.loop (K1 := [.code [(2, 0), (1, 0), (0, 0)] 0]) (K2 := [.blk 0, .code [] 3]) (fun (v1, v2) => ⟨[(0, .int .i64 a0), (1, .int .i64 a1), (5, .int .i64 v1), (6, .int .i64 v2)], []⟩) (fun x e σ' => match x with | v8 => e = .exit 0 ∧ σ' = ⟨[(5, .int .i64 v8)], []⟩) hk11 rfl rfl ?_ ?_
  · intro s x hs
    clear h
    have h := hs
    clear hs
    obtain ⟨v1, v2⟩ := s
    rcases bif_some h with ⟨hd1, h⟩ | ⟨hd1, h⟩
    · obtain ⟨v3, hk2, h⟩ := bind_some h
      rcases bif_some h with ⟨hd3, h⟩ | ⟨hd3, h⟩
      · obtain ⟨v4, hk4, h⟩ := bind_some h
        refine Tri.run 1 [.g true, .r ⟨[], .bool v3, []⟩, .g true, .r ⟨[], .bool v4, []⟩] [.keep [0, 1, 5, 6, 16] []] (K' := [.code [(2, 0), (1, 0), (0, 0), (0, 0)] 1, .code [(2, 0), (1, 0), (0, 0)] 1]) (σ' := ⟨[(0, .int .i64 a0), (1, .int .i64 a1), (5, .int .i64 v1), (6, .int .i64 v2), (16, .bool v4)], []⟩) rfl ⟨(w_spec_l2Good a1 v4 hk4), hd3, (w_spec_l2Good a0 v3 hk2), hd1, trivial⟩ rfl ?_
        rcases bif_some h with ⟨hd5, h⟩ | ⟨hd5, h⟩
        · obtain ⟨v5, hk6, h⟩ := bind_some h
          rcases bif_some h with ⟨hd7, h⟩ | ⟨hd7, h⟩
          · obtain ⟨v6, hk8, h⟩ := bind_some h
            refine Tri.run 2 [.g true, .r ⟨[], .bool v5, []⟩, .g true, .r ⟨[], .bool v6, []⟩] [.keep [0, 1, 5, 6, 26] []] (K' := [.code [(2, 0), (1, 0), (0, 0), (1, 0), (0, 0)] 1, .blk 1, .code [(2, 0), (1, 0), (0, 0)] 2]) (σ' := ⟨[(0, .int .i64 a0), (1, .int .i64 a1), (5, .int .i64 v1), (6, .int .i64 v2), (26, .bool v6)], []⟩) rfl ⟨(w_spec_HasPlayer a1 v2 v6 hk8), hd7, (w_spec_HasPlayer a0 v2 v5 hk6), hd5, trivial⟩ rfl ?_
            rcases bif_some h with ⟨hd9, h⟩ | ⟨hd9, h⟩
            · obtain ⟨v7, hk10, h⟩ := bind_some h
              refine Tri.run 3 [.g true, .r ⟨[], .int .i64 v7, []⟩] [.keep [0, 1, 5, 6] []] (K' := []) (σ' := ⟨[(0, .int .i64 a0), (1, .int .i64 a1), (5, .int .i64 (IntKind.i64.wrap (v1 + v7))), (6, .int .i64 (IntKind.i64.wrap (v2 + (1 : Int))))], []⟩) rfl ⟨(w_spec_l2Bit v2 v7 hk10), hd9, trivial⟩ rfl ?_
              have h := Option.some.inj h
              subst h
              exact Tri.nil ⟨rfl, rfl⟩
            · refine Tri.run 2 [.g false] [.keep [0, 1, 5, 6] []] (K' := []) (σ' := ⟨[(0, .int .i64 a0), (1, .int .i64 a1), (5, .int .i64 v1), (6, .int .i64 (IntKind.i64.wrap (v2 + (1 : Int))))], []⟩) rfl ⟨hd9, trivial⟩ rfl ?_
              have h := Option.some.inj h
              subst h
              exact Tri.nil ⟨rfl, rfl⟩
          · refine Tri.run 2 [.g true, .r ⟨[], .bool v5, []⟩, .g false] [.keep [0, 1, 5, 6, 26] []] (K' := [.code [(2, 0), (1, 0), (0, 0), (1, 0), (0, 0)] 1, .blk 1, .code [(2, 0), (1, 0), (0, 0)] 2]) (σ' := ⟨[(0, .int .i64 a0), (1, .int .i64 a1), (5, .int .i64 v1), (6, .int .i64 v2), (26, .bool false)], []⟩) rfl ⟨hd7, (w_spec_HasPlayer a0 v2 v5 hk6), hd5, trivial⟩ rfl ?_
            refine Tri.run 2 [.g false] [.keep [0, 1, 5, 6] []] (K' := []) (σ' := ⟨[(0, .int .i64 a0), (1, .int .i64 a1), (5, .int .i64 v1), (6, .int .i64 (IntKind.i64.wrap (v2 + (1 : Int))))], []⟩) rfl ⟨rfl, trivial⟩ rfl ?_
            have h := Option.some.inj h
            subst h
            exact Tri.nil ⟨rfl, rfl⟩
        · refine Tri.run 1 [.g false] [.keep [5] []] (K' := [.code [(2, 0), (1, 0), (0, 0), (0, 0), (1, 1)] 0, .code [(2, 0), (1, 0), (0, 0)] 1]) (σ' := ⟨[(5, .int .i64 v1)], []⟩) rfl ⟨hd5, trivial⟩ rfl ?_
          have h := Option.some.inj h
          subst h
          exact Tri.out 0 rfl ⟨nofun, rfl, rfl⟩
      · refine Tri.run 1 [.g true, .r ⟨[], .bool v3, []⟩, .g false] [.keep [0, 1, 5, 6, 16] []] (K' := [.code [(2, 0), (1, 0), (0, 0), (0, 0)] 1, .code [(2, 0), (1, 0), (0, 0)] 1]) (σ' := ⟨[(0, .int .i64 a0), (1, .int .i64 a1), (5, .int .i64 v1), (6, .int .i64 v2), (16, .bool false)], []⟩) rfl ⟨hd3, (w_spec_l2Good a0 v3 hk2), hd1, trivial⟩ rfl ?_
        refine Tri.run 1 [.g false] [.keep [5] []] (K' := [.code [(2, 0), (1, 0), (0, 0), (0, 0), (1, 1)] 0, .code [(2, 0), (1, 0), (0, 0)] 1]) (σ' := ⟨[(5, .int .i64 v1)], []⟩) rfl ⟨rfl, trivial⟩ rfl ?_
        have h := Option.some.inj h
        subst h
        exact Tri.out 0 rfl ⟨nofun, rfl, rfl⟩
    · refine Tri.run 1 [.g false, .g false] [.keep [0, 1, 5, 6, 16] []] (K' := [.code [(2, 0), (1, 0), (0, 0), (0, 0)] 1, .code [(2, 0), (1, 0), (0, 0)] 1]) (σ' := ⟨[(0, .int .i64 a0), (1, .int .i64 a1), (5, .int .i64 v1), (6, .int .i64 v2), (16, .bool false)], []⟩) rfl ⟨rfl, hd1, trivial⟩ rfl ?_
      refine Tri.run 1 [.g false] [.keep [5] []] (K' := [.code [(2, 0), (1, 0), (0, 0), (0, 0), (1, 1)] 0, .code [(2, 0), (1, 0), (0, 0)] 1]) (σ' := ⟨[(5, .int .i64 v1)], []⟩) rfl ⟨rfl, trivial⟩ rfl ?_
      have h := Option.some.inj h
      subst h
      exact Tri.out 0 rfl ⟨nofun, rfl, rfl⟩
  · intro e σ' hne hq
    obtain ⟨rfl, rfl⟩ := hq
    refine TriX.exit (K' := [.code [] 3]) rfl ?_
    refine Tri.run 1 [] [.keep [4] []] (K' := [.code [] 4]) (σ' := ⟨[(4, .int .i64 v8)], []⟩) rfl trivial rfl ?_
    have h := Option.some.inj h
    subst h
    exact Tri.ret rfl ⟨.inl rfl, rfl, rfl⟩
/-! spec.Union -/
noncomputable def E_spec_Union : Env := ⟨Try.prog, tys, (Try.f102.body).getD .skip, 32, tysOk, mixedOk⟩
abbrev q_spec_Union (r : Int) (σ' : ASt) : Prop := resAV E_spec_Union.T σ' Try.f102.results.toList = some (.int .i64 r) ∧ keepO σ'.ob (namesO []) = []
noncomputable def l_spec_Union_0 (a0 : Int) (a1 : Int) : (Int × Int) → Option ((Int × Int) ⊕ Int)
  | (v1, v2) => (
bif decide (v2 < (5 : Int)) then
((m_spec_l2Good a0).bind fun v3 =>
bif v3 then
((m_spec_l2Good a1).bind fun v4 =>
bif v4 then
((m_spec_HasPlayer a0 v2).bind fun v5 =>
bif v5 then
((m_spec_l2Bit v2).bind fun v6 =>
some (.inl (IntKind.i64.wrap (v1 + v6), IntKind.i64.wrap (v2 + (1 : Int)))))
else
((m_spec_HasPlayer a1 v2).bind fun v7 =>
bif v7 then
((m_spec_l2Bit v2).bind fun v8 =>
some (.inl (IntKind.i64.wrap (v1 + v8), IntKind.i64.wrap (v2 + (1 : Int)))))
else
(some (.inl (v1, IntKind.i64.wrap (v2 + (1 : Int)))))))
else
(some (.inr v1)))
else
(some (.inr v1)))
else
(some (.inr v1)))
noncomputable def m_spec_Union (a0 : Int) (a1 : Int) : Option Int :=
(iter (l_spec_Union_0 a0 a1) ((0 : Int), (0 : Int))).bind fun
| v9 => (
some v9)
theorem w_spec_Union (a0 : Int) (a1 : Int) (r : Int) (h : m_spec_Union a0 a1 = some r) : AM.Spec Try.prog 102 [.int .i64 a0, .int .i64 a1] [] (.int .i64 r) [] := by
  refine spec_of (E := E_spec_Union) Try.func102 rfl rfl rfl rfl ?_
  refine Tri.run 3 [] [.keep [0, 1, 5, 6] []] (K' := [.code [(2, 0), (1, 0)] 0, .blk 0, .code [] 3]) (σ' := ⟨[(0, .int .i64 a0), (1, .int .i64 a1), (5, .int .i64 (0 : Int)), (6, .int .i64 (0 : Int))], []⟩) rfl trivial rfl ?_
  obtain ⟨v9, hk12, h⟩ := bind_some h
  refine Tri.loop (K1 := [.code [(2, 0), (1, 0), (0, 0)] 0]) (K2 := [.blk 0, .code [] 3]) (fun (v1, v2) => ⟨[(0, .int .i64 a0), (1, .int .i64 a1), (5, .int .i64 v1), (6, .int .i64 v2)], []⟩) (fun x e σ' => match x with | v9 => e = .exit 0 ∧ σ' = ⟨[(5, .int .i64 v9)], []⟩) hk12 rfl rfl ?_ ?_
  · intro s x hs
    clear h
    have h := hs
    clear hs
    obtain ⟨v1, v2⟩ := s
    rcases bif_some h with ⟨hd1, h⟩ | ⟨hd1, h⟩
    · obtain ⟨v3, hk2, h⟩ := bind_some h
      rcases bif_some h with ⟨hd3, h⟩ | ⟨hd3, h⟩
      · obtain ⟨v4, hk4, h⟩ := bind_some h
        refine Tri.run 1 [.g true, .r ⟨[], .bool v3, []⟩, .g true, .r ⟨[], .bool v4, []⟩] [.keep [0, 1, 5, 6, 16] []] (K' := [.code [(2, 0), (1, 0), (0, 0), (0, 0)] 1, .code [(2, 0), (1, 0), (0, 0)] 1]) (σ' := ⟨[(0, .int .i64 a0), (1, .int .i64 a1), (5, .int .i64 v1), (6, .int .i64 v2), (16, .bool v4)], []⟩) rfl ⟨(w_spec_l2Good a1 v4 hk4), hd3, (w_spec_l2Good a0 v3 hk2), hd1, trivial⟩ rfl ?_
        rcases bif_some h with ⟨hd5, h⟩ | ⟨hd5, h⟩
        · obtain ⟨v5, hk6, h⟩ := bind_some h
          rcases bif_some h with ⟨hd7, h⟩ | ⟨hd7, h⟩
          · refine Tri.run 2 [.g true, .r ⟨[], .bool v5, []⟩, .g true] [.keep [0, 1, 5, 6, 26] []] (K' := [.code [(2, 0), (1, 0), (0, 0), (1, 0), (0, 0)] 1, .blk 1, .code [(2, 0), (1, 0), (0, 0)] 2]) (σ' := ⟨[(0, .int .i64 a0), (1, .int .i64 a1), (5, .int .i64 v1), (6, .int .i64 v2), (26, .bool true)], []⟩) rfl ⟨hd7, (w_spec_HasPlayer a0 v2 v5 hk6), hd5, trivial⟩ rfl ?_
            obtain ⟨v6, hk8, h⟩ := bind_some h
            refine Tri.run 3 [.g true, .r ⟨[], .int .i64 v6, []⟩] [.keep [0, 1, 5, 6] []] (K' := []) (σ' := ⟨[(0, .int .i64 a0), (1, .int .i64 a1), (5, .int .i64 (IntKind.i64.wrap (v1 + v6))), (6, .int .i64 (IntKind.i64.wrap (v2 + (1 : Int))))], []⟩) rfl ⟨(w_spec_l2Bit v2 v6 hk8), rfl, trivial⟩ rfl ?_
            have h := Option.some.inj h
            subst h
            exact Tri.nil ⟨rfl, rfl⟩
          · obtain ⟨v7, hk9, h⟩ := bind_some h
            refine Tri.run 2 [.g true, .r ⟨[], .bool v5, []⟩, .g false, .r ⟨[], .bool v7, []⟩] [.keep [0, 1, 5, 6, 26] []] (K' := [.code [(2, 0), (1, 0), (0, 0), (1, 0), (0, 0)] 1, .blk 1, .code [(2, 0), (1, 0), (0, 0)] 2]) (σ' := ⟨[(0, .int .i64 a0), (1, .int .i64 a1), (5, .int .i64 v1), (6, .int .i64 v2), (26, .bool v7)], []⟩) rfl ⟨(w_spec_HasPlayer a1 v2 v7 hk9), hd7, (w_spec_HasPlayer a0 v2 v5 hk6), hd5, trivial⟩ rfl ?_
            rcases bif_some h with ⟨hd10, h⟩ | ⟨hd10, h⟩
            · obtain ⟨v8, hk11, h⟩ := bind_some h
              refine Tri.run 3 [.g true, .r ⟨[], .int .i64 v8, []⟩] [.keep [0, 1, 5, 6] []] (K' := []) (σ' := ⟨[(0, .int .i64 a0), (1, .int .i64 a1), (5, .int .i64 (IntKind.i64.wrap (v1 + v8))), (6, .int .i64 (IntKind.i64.wrap (v2 + (1 : Int))))], []⟩) rfl ⟨(w_spec_l2Bit v2 v8 hk11), hd10, trivial⟩ rfl ?_
              have h := Option.some.inj h
              subst h
              exact Tri.nil ⟨rfl, rfl⟩
            · refine Tri.run 2 [.g false] [.keep [0, 1, 5, 6] []] (K' := []) (σ' := ⟨[(0, .int .i64 a0), (1, .int .i64 a1), (5, .int .i64 v1), (6, .int .i64 (IntKind.i64.wrap (v2 + (1 : Int))))], []⟩) rfl ⟨hd10, trivial⟩ rfl ?_
              have h := Option.some.inj h
              subst h
              exact Tri.nil ⟨rfl, rfl⟩
        · refine Tri.run 1 [.g false] [.keep [5] []] (K' := [.code [(2, 0), (1, 0), (0, 0), (0, 0), (1, 1)] 0, .code [(2, 0), (1, 0), (0, 0)] 1]) (σ' := ⟨[(5, .int .i64 v1)], []⟩) rfl ⟨hd5, trivial⟩ rfl ?_
          have h := Option.some.inj h
          subst h
          exact Tri.out 0 rfl ⟨nofun, rfl, rfl⟩
      · refine Tri.run 1 [.g true, .r ⟨[], .bool v3, []⟩, .g false] [.keep [0, 1, 5, 6, 16] []] (K' := [.code [(2, 0), (1, 0), (0, 0), (0, 0)] 1, .code [(2, 0), (1, 0), (0, 0)] 1]) (σ' := ⟨[(0, .int .i64 a0), (1, .int .i64 a1), (5, .int .i64 v1), (6, .int .i64 v2), (16, .bool false)], []⟩) rfl ⟨hd3, (w_spec_l2Good a0 v3 hk2), hd1, trivial⟩ rfl ?_
        refine Tri.run 1 [.g false] [.keep [5] []] (K' := [.code [(2, 0), (1, 0), (0, 0), (0, 0), (1, 1)] 0, .code [(2, 0), (1, 0), (0, 0)] 1]) (σ' := ⟨[(5, .int .i64 v1)], []⟩) rfl ⟨rfl, trivial⟩ rfl ?_
        have h := Option.some.inj h
        subst h
        exact Tri.out 0 rfl ⟨nofun, rfl, rfl⟩
    · refine Tri.run 1 [.g false, .g false] [.keep [0, 1, 5, 6, 16] []] (K' := [.code [(2, 0), (1, 0), (0, 0), (0, 0)] 1, .code [(2, 0), (1, 0), (0, 0)] 1]) (σ' := ⟨[(0, .int .i64 a0), (1, .int .i64 a1), (5, .int .i64 v1), (6, .int .i64 v2), (16, .bool false)], []⟩) rfl ⟨rfl, hd1, trivial⟩ rfl ?_
      refine Tri.run 1 [.g false] [.keep [5] []] (K' := [.code [(2, 0), (1, 0), (0, 0), (0, 0), (1, 1)] 0, .code [(2, 0), (1, 0), (0, 0)] 1]) (σ' := ⟨[(5, .int .i64 v1)], []⟩) rfl ⟨rfl, trivial⟩ rfl ?_
      have h := Option.some.inj h
      subst h
      exact Tri.out 0 rfl ⟨nofun, rfl, rfl⟩
  · intro e σ' hne hq
    obtain ⟨rfl, rfl⟩ := hq
    refine TriX.exit (K' := [.code [] 3]) rfl ?_
    refine Tri.run 1 [] [.keep [4] []] (K' := [.code [] 4]) (σ' := ⟨[(4, .int .i64 v9)], []⟩) rfl trivial rfl ?_
    have h := Option.some.inj h
    subst h
    exact Tri.ret rfl ⟨.inl rfl, rfl, rfl⟩
/-! spec.l10Fault -/
noncomputable def E_spec_l10Fault : Env := ⟨Try.prog, tys, (Try.f55.body).getD .skip, 104, tysOk, mixedOk⟩
abbrev q_spec_l10Fault (r : Int × Int × Bool) (σ' : ASt) : Prop := resAV E_spec_l10Fault.T σ' Try.f55.results.toList = some (.tuple [.int .i64 r.1, .int .i64 r.2.1, .bool r.2.2]) ∧ keepO σ'.ob (namesO []) = []
noncomputable def l_spec_l10Fault_1 (a1 : List Int) (a2 : Int) (v1 : Int) (v3 : Int) : Option (Int ⊕ (Unit ⊕ ((Int × Int × Bool)))) :=
bif decide (v3 < (a1.length : Int)) then
(bif a2 == (1 : Int) then
((m_spec_IsSubset v1 v3).bind fun v4 =>
bif v4 then
(grd ((0 : Int) ≤ v1 ∧ v1 < (a1.length : Int)) <|
grd ((0 : Int) ≤ v3 ∧ v3 < (a1.length : Int)) <|
bif decide ((a1.getD v1.toNat 0) > (a1.getD v3.toNat 0)) then
(some (.inr (.inr (v1, v3, true))))
else
(some (.inl (IntKind.i64.wrap (v3 + (1 : Int))))))
else
(some (.inl (IntKind.i64.wrap (v3 + (1 : Int))))))
else
(bif a2 == (2 : Int) then
((m_spec_Overlap v1 v3).bind fun v5 =>
bif v5 == (0 : Int) then
(grd ((0 : Int) ≤ v1 ∧ v1 < (a1.length : Int)) <|
grd ((0 : Int) ≤ v3 ∧ v3 < (a1.length : Int)) <|
(m_spec_Union v1 v3).bind fun v6 =>
grd ((0 : Int) ≤ v6 ∧ v6 < (a1.length : Int)) <|
bif decide ((IntKind.i64.wrap ((a1.getD v1.toNat 0) + (a1.getD v3.toNat 0))) > (a1.getD v6.toNat 0)) then
(some (.inr (.inr (v1, v3, true))))
else
(some (.inl (IntKind.i64.wrap (v3 + (1 : Int))))))
else
(some (.inl (IntKind.i64.wrap (v3 + (1 : Int))))))
else
(grd ((0 : Int) ≤ v1 ∧ v1 < (a1.length : Int)) <|
grd ((0 : Int) ≤ v3 ∧ v3 < (a1.length : Int)) <|
(m_spec_Union v1 v3).bind fun v7 =>
grd ((0 : Int) ≤ v7 ∧ v7 < (a1.length : Int)) <|
(m_spec_Overlap v1 v3).bind fun v8 =>
grd ((0 : Int) ≤ v8 ∧ v8 < (a1.length : Int)) <|
bif decide ((IntKind.i64.wrap ((a1.getD v1.toNat 0) + (a1.getD v3.toNat 0))) > (IntKind.i64.wrap ((a1.getD v7.toNat 0) + (a1.getD v8.toNat 0)))) then
(some (.inr (.inr (v1, v3, true))))
else
(some (.inl (IntKind.i64.wrap (v3 + (1 : Int))))))))
else
(some (.inr (.inl ())))
noncomputable def l_spec_l10Fault_0 (a0 : Int) (a1 : List Int) (a2 : Int) (v1 : Int) : Option (Int ⊕ (Unit ⊕ ((Int × Int × Bool)))) :=
bif decide (v1 < (a1.length : Int)) then
((m_spec_IsValidGame a0 a1).bind fun v2 =>
bif v2 then
((iter (l_spec_l10Fault_1 a1 a2 v1) (0 : Int)).bind fun
| (.inl _) => (
some (.inl (IntKind.i64.wrap (v1 + (1 : Int)))))
| (.inr r) => some (.inr (.inr r)))
else
(some (.inr (.inl ()))))
else
(some (.inr (.inl ())))
noncomputable def m_spec_l10Fault (a0 : Int) (a1 : List Int) (a2 : Int) : Option (Int × Int × Bool) :=
(iter (l_spec_l10Fault_0 a0 a1 a2) (0 : Int)).bind fun
| (.inl _) => (
some ((0 : Int), (0 : Int), false))
| (.inr r) => some r
theorem w_spec_l10Fault (a0 : Int) (a1 : List Int) (a2 : Int) (r : Int × Int × Bool) (h : m_spec_l10Fault a0 a1 a2 = some r) : AM.Spec Try.prog 55 [.agg [.int .i64 a0, .list (.ints a1)], .int .i64 a2] [] (.tuple [.int .i64 r.1, .int .i64 r.2.1, .bool r.2.2]) [] := by
  refine spec_of (E := E_spec_l10Fault) Try.func55 rfl rfl rfl rfl ?_
  refine Tri.run 3 [] [.keep [1, 2, 7, 8] [2]] (K' := [.code [(2, 0), (1, 0)] 0, .blk 0, .code [] 3]) (σ' := ⟨[(1, .int .i64 a2), (2, .ptr 2 0), (7, .int .i64 (a1.length : Int)), (8, .int .i64 (0 : Int))], [(2, .box [.int .i64 a0, .list (.ints a1)])]⟩) rfl trivial rfl ?_
  obtain ⟨x2, hk27, h⟩ := bind_some h
  refine Tri.loop (K1 := [.code [(2, 0), (1, 0), (0, 0)] 0]) (K2 := [.blk 0, .code [] 3]) (fun v1 => ⟨[(1, .int .i64 a2), (2, .ptr 2 0), (7, .int .i64 (a1.length : Int)), (8, .int .i64 v1)], [(2, .box [.int .i64 a0, .list (.ints a1)])]⟩) (fun x e σ' => match x with | (.inl _) => e = .exit 0 ∧ σ' = ⟨[], []⟩ | (.inr r) => e = .ret ∧ q_spec_l10Fault r σ') hk27 rfl rfl ?_ ?_
  · intro v1 x hs
    clear h
    have h := hs
    clear hs
    rcases bif_some h with ⟨hd1, h⟩ | ⟨hd1, h⟩
    · obtain ⟨v2, hk2, h⟩ := bind_some h
      refine Tri.run 1 [.g true, .r ⟨[], .bool v2, []⟩] [.keep [1, 2, 7, 8, 20] [2]] (K' := [.code [(2, 0), (1, 0), (0, 0), (0, 0)] 1, .code [(2, 0), (1, 0), (0, 0)] 1]) (σ' := ⟨[(1, .int .i64 a2), (2, .ptr 2 0), (7, .int .i64 (a1.length : Int)), (8, .int .i64 v1), (20, .bool v2)], [(2, .box [.int .i64 a0, .list (.ints a1)])]⟩) rfl ⟨(w_spec_IsValidGame a0 a1 v2 hk2), hd1, trivial⟩ rfl ?_
      rcases bif_some h with ⟨hd3, h⟩ | ⟨hd3, h⟩
      · refine Tri.run 2 [.g true] [.keep [1, 2, 7, 8, 9] [2]] (K' := [.code [(2, 0), (1, 0), (0, 0), (1, 0), (0, 0), (1, 0)] 0, .blk 2, .blk 1, .code [(2, 0), (1, 0), (0, 0)] 2]) (σ' := ⟨[(1, .int .i64 a2), (2, .ptr 2 0), (7, .int .i64 (a1.length : Int)), (8, .int .i64 v1), (9, .int .i64 (0 : Int))], [(2, .box [.int .i64 a0, .list (.ints a1)])]⟩) rfl ⟨hd3, trivial⟩ rfl ?_
        obtain ⟨x2, hk26, h⟩ := bind_some h
        refine Tri.loop (K1 := [.code [(2, 0), (1, 0), (0, 0), (1, 0), (0, 0), (1, 0), (0, 0)] 0]) (K2 := [.blk 2, .blk 1, .code [(2, 0), (1, 0), (0, 0)] 2]) (fun v3 => ⟨[(1, .int .i64 a2), (2, .ptr 2 0), (7, .int .i64 (a1.length : Int)), (8, .int .i64 v1), (9, .int .i64 v3)], [(2, .box [.int .i64 a0, .list (.ints a1)])]⟩) (fun x e σ' => match x with | (.inl _) => e = .exit 2 ∧ σ' = ⟨[(1, .int .i64 a2), (2, .ptr 2 0), (7, .int .i64 (a1.length : Int)), (8, .int .i64 v1)], [(2, .box [.int .i64 a0, .list (.ints a1)])]⟩ | (.inr r) => e = .ret ∧ q_spec_l10Fault r σ') hk26 rfl rfl ?_ ?_
        · intro v3 x hs
          clear h
          have h := hs
          clear hs
          refine Tri.run 1 [] [.keep [1, 2, 7, 8, 9, 25] [2]] (K' := [.code [(2, 0), (1, 0), (0, 0), (1, 0), (0, 0), (1, 0), (0, 0), (0, 0)] 1, .code [(2, 0), (1, 0), (0, 0), (1, 0), (0, 0), (1, 0), (0, 0)] 1]) (σ' := ⟨[(1, .int .i64 a2), (2, .ptr 2 0), (7, .int .i64 (a1.length : Int)), (8, .int .i64 v1), (9, .int .i64 v3), (25, .bool (decide (v3 < (a1.length : Int))))], [(2, .box [.int .i64 a0, .list (.ints a1)])]⟩) rfl trivial rfl ?_
          rcases bif_some h with ⟨hd4, h⟩ | ⟨hd4, h⟩
          · refine Tri.run 3 [.g true] [.keep [1, 2, 7, 8, 9, 28] [2]] (K' := [.code [(2, 0), (1, 0), (0, 0), (1, 0), (0, 0), (1, 0), (0, 0), (1, 0), (0, 0), (1, 0), (1, 0), (0, 0)] 0, .code [(2, 0), (1, 0), (0, 0), (1, 0), (0, 0), (1, 0), (0, 0), (1, 0), (0, 0), (1, 0), (1, 0)] 1, .blk 4, .code [(2, 0), (1, 0), (0, 0), (1, 0), (0, 0), (1, 0), (0, 0), (1, 0), (0, 0)] 2, .blk 3, .code [(2, 0), (1, 0), (0, 0), (1, 0), (0, 0), (1, 0), (0, 0)] 2]) (σ' := ⟨[(1, .int .i64 a2), (2, .ptr 2 0), (7, .int .i64 (a1.length : Int)), (8, .int .i64 v1), (9, .int .i64 v3), (28, .int .i64 a2)], [(2, .box [.int .i64 a0, .list (.ints a1)])]⟩) rfl ⟨hd4, trivial⟩ rfl ?_
            refine Tri.run 1 [] [.keep [1, 2, 7, 8, 9, 28, 56] [2]] (K' := [.code [(2, 0), (1, 0), (0, 0), (1, 0), (0, 0), (1, 0), (0, 0), (1, 0), (0, 0), (1, 0), (1, 0)] 1, .blk 4, .code [(2, 0), (1, 0), (0, 0), (1, 0), (0, 0), (1, 0), (0, 0), (1, 0), (0, 0)] 2, .blk 3, .code [(2, 0), (1, 0), (0, 0), (1, 0), (0, 0), (1, 0), (0, 0)] 2]) (σ' := ⟨[(1, .int .i64 a2), (2, .ptr 2 0), (7, .int .i64 (a1.length : Int)), (8, .int .i64 v1), (9, .int .i64 v3), (28, .int .i64 a2), (56, .bool (a2 == (1 : Int)))], [(2, .box [.int .i64 a0, .list (.ints a1)])]⟩) rfl trivial rfl ?_
            rcases bif_some h with ⟨hd5, h⟩ | ⟨hd5, h⟩
            · obtain ⟨v4, hk6, h⟩ := bind_some h
              rcases bif_some h with ⟨hd7, h⟩ | ⟨hd7, h⟩
              · obtain ⟨hg8, h⟩ := grd_some h
                obtain ⟨hg9, h⟩ := grd_some h
                refine Tri.run 3 [.g true, .r ⟨[], .bool v4, []⟩, .g true] [.keep [1, 2, 7, 8, 9, 101] [2]] (K' := [.code [(2, 0), (1, 0), (0, 0), (1, 0), (0, 0), (1, 0), (0, 0), (1, 0), (0, 0)] 3, .blk 3, .code [(2, 0), (1, 0), (0, 0), (1, 0), (0, 0), (1, 0), (0, 0)] 2]) (σ' := ⟨[(1, .int .i64 a2), (2, .ptr 2 0), (7, .int .i64 (a1.length : Int)), (8, .int .i64 v1), (9, .int .i64 v3), (101, .bool (decide ((a1.getD v1.toNat 0) > (a1.getD v3.toNat 0))))], [(2, .box [.int .i64 a0, .list (.ints a1)])]⟩) rfl ⟨hg9, hg8, hd7, (w_spec_IsSubset v1 v3 v4 hk6), hd5, trivial⟩ rfl ?_
                rcases bif_some h with ⟨hd10, h⟩ | ⟨hd10, h⟩
                · refine Tri.run 2 [.g true] [.keep [4, 5, 6] []] (K' := [.code [(2, 0), (1, 0), (0, 0), (1, 0), (0, 0), (1, 0), (0, 0), (1, 0), (0, 0), (3, 0)] 1, .blk 3, .code [(2, 0), (1, 0), (0, 0), (1, 0), (0, 0), (1, 0), (0, 0)] 2]) (σ' := ⟨[(4, .int .i64 v1), (5, .int .i64 v3), (6, .bool true)], []⟩) rfl ⟨hd10, trivial⟩ rfl ?_
                  have h := Option.some.inj h
                  subst h
                  exact Tri.ret rfl ⟨nofun, rfl, rfl, rfl⟩
                · refine Tri.run 2 [.g false] [.keep [1, 2, 7, 8, 9] [2]] (K' := []) (σ' := ⟨[(1, .int .i64 a2), (2, .ptr 2 0), (7, .int .i64 (a1.length : Int)), (8, .int .i64 v1), (9, .int .i64 (IntKind.i64.wrap (v3 + (1 : Int))))], [(2, .box [.int .i64 a0, .list (.ints a1)])]⟩) rfl ⟨hd10, trivial⟩ rfl ?_
                  have h := Option.some.inj h
                  subst h
                  exact Tri.nil ⟨rfl, rfl⟩
              · refine Tri.run 3 [.g true, .r ⟨[], .bool v4, []⟩, .g false] [.keep [1, 2, 7, 8, 9, 101] [2]] (K' := [.code [(2, 0), (1, 0), (0, 0), (1, 0), (0, 0), (1, 0), (0, 0), (1, 0), (0, 0)] 3, .blk 3, .code [(2, 0), (1, 0), (0, 0), (1, 0), (0, 0), (1, 0), (0, 0)] 2]) (σ' := ⟨[(1, .int .i64 a2), (2, .ptr 2 0), (7, .int .i64 (a1.length : Int)), (8, .int .i64 v1), (9, .int .i64 v3), (101, .bool false)], [(2, .box [.int .i64 a0, .list (.ints a1)])]⟩) rfl ⟨hd7, (w_spec_IsSubset v1 v3 v4 hk6), hd5, trivial⟩ rfl ?_
                refine Tri.run 2 [.g false] [.keep [1, 2, 7, 8, 9] [2]] (K' := []) (σ' := ⟨[(1, .int .i64 a2), (2, .ptr 2 0), (7, .int .i64 (a1.length : Int)), (8, .int .i64 v1), (9, .int .i64 (IntKind.i64.wrap (v3 + (1 : Int))))], [(2, .box [.int .i64 a0, .list (.ints a1)])]⟩) rfl ⟨rfl, trivial⟩ rfl ?_
                have h := Option.some.inj h
                subst h
                exact Tri.nil ⟨rfl, rfl⟩
            · refine Tri.run 2 [.g false] [.keep [1, 2, 7, 8, 9, 74] [2]] (K' := [.code [(2, 0), (1, 0), (0, 0), (1, 0), (0, 0), (1, 0), (0, 0), (1, 0), (0, 0), (1, 0), (1, 0), (1, 1)] 1, .blk 4, .code [(2, 0), (1, 0), (0, 0), (1, 0), (0, 0), (1, 0), (0, 0), (1, 0), (0, 0)] 2, .blk 3, .code [(2, 0), (1, 0), (0, 0), (1, 0), (0, 0), (1, 0), (0, 0)] 2]) (σ' := ⟨[(1, .int .i64 a2), (2, .ptr 2 0), (7, .int .i64 (a1.length : Int)), (8, .int .i64 v1), (9, .int .i64 v3), (74, .bool (a2 == (2 : Int)))], [(2, .box [.int .i64 a0, .list (.ints a1)])]⟩) rfl ⟨hd5, trivial⟩ rfl ?_
              rcases bif_some h with ⟨hd11, h⟩ | ⟨hd11, h⟩
              · obtain ⟨v5, hk12, h⟩ := bind_some h
                rcases bif_some h with ⟨hd13, h⟩ | ⟨hd13, h⟩
                · obtain ⟨hg14, h⟩ := grd_some h
                  obtain ⟨hg15, h⟩ := grd_some h
                  obtain ⟨v6, hk16, h⟩ := bind_some h
                  obtain ⟨hg17, h⟩ := grd_some h
                  refine Tri.run 3 [.g true, .r ⟨[], .int .i64 v5, []⟩, .g true, .r ⟨[], .int .i64 v6, []⟩] [.keep [1, 2, 7, 8, 9, 101] [2]] (K' := [.code [(2, 0), (1, 0), (0, 0), (1, 0), (0, 0), (1, 0), (0, 0), (1, 0), (0, 0)] 3, .blk 3, .code [(2, 0), (1, 0), (0, 0), (1, 0), (0, 0), (1, 0), (0, 0)] 2]) (σ' := ⟨[(1, .int .i64 a2), (2, .ptr 2 0), (7, .int .i64 (a1.length : Int)), (8, .int .i64 v1), (9, .int .i64 v3), (101, .bool (decide ((IntKind.i64.wrap ((a1.getD v1.toNat 0) + (a1.getD v3.toNat 0))) > (a1.getD v6.toNat 0))))], [(2, .box [.int .i64 a0, .list (.ints a1)])]⟩) rfl ⟨hg17, (w_spec_Union v1 v3 v6 hk16), hg15, hg14, hd13, (w_spec_Overlap v1 v3 v5 hk12), hd11, trivial⟩ rfl ?_
                  rcases bif_some h with ⟨hd18, h⟩ | ⟨hd18, h⟩
                  · refine Tri.run 2 [.g true] [.keep [4, 5, 6] []] (K' := [.code [(2, 0), (1, 0), (0, 0), (1, 0), (0, 0), (1, 0), (0, 0), (1, 0), (0, 0), (3, 0)] 1, .blk 3, .code [(2, 0), (1, 0), (0, 0), (1, 0), (0, 0), (1, 0), (0, 0)] 2]) (σ' := ⟨[(4, .int .i64 v1), (5, .int .i64 v3), (6, .bool true)], []⟩) rfl ⟨hd18, trivial⟩ rfl ?_
                    have h := Option.some.inj h
                    subst h
                    exact Tri.ret rfl ⟨nofun, rfl, rfl, rfl⟩
                  · refine Tri.run 2 [.g false] [.keep [1, 2, 7, 8, 9] [2]] (K' := []) (σ' := ⟨[(1, .int .i64 a2), (2, .ptr 2 0), (7, .int .i64 (a1.length : Int)), (8, .int .i64 v1), (9, .int .i64 (IntKind.i64.wrap (v3 + (1 : Int))))], [(2, .box [.int .i64 a0, .list (.ints a1)])]⟩) rfl ⟨hd18, trivial⟩ rfl ?_
                    have h := Option.some.inj h
                    subst h
                    exact Tri.nil ⟨rfl, rfl⟩
                · refine Tri.run 3 [.g true, .r ⟨[], .int .i64 v5, []⟩, .g false] [.keep [1, 2, 7, 8, 9, 101] [2]] (K' := [.code [(2, 0), (1, 0), (0, 0), (1, 0), (0, 0), (1, 0), (0, 0), (1, 0), (0, 0)] 3, .blk 3, .code [(2, 0), (1, 0), (0, 0), (1, 0), (0, 0), (1, 0), (0, 0)] 2]) (σ' := ⟨[(1, .int .i64 a2), (2, .ptr 2 0), (7, .int .i64 (a1.length : Int)), (8, .int .i64 v1), (9, .int .i64 v3), (101, .bool false)], [(2, .box [.int .i64 a0, .list (.ints a1)])]⟩) rfl ⟨hd13, (w_spec_Overlap v1 v3 v5 hk12), hd11, trivial⟩ rfl ?_
                  refine Tri.run 2 [.g false] [.keep [1, 2, 7, 8, 9] [2]] (K' := []) (σ' := ⟨[(1, .int .i64 a2), (2, .ptr 2 0), (7, .int .i64 (a1.length : Int)), (8, .int .i64 v1), (9, .int .i64 (IntKind.i64.wrap (v3 + (1 : Int))))], [(2, .box [.int .i64 a0, .list (.ints a1)])]⟩) rfl ⟨rfl, trivial⟩ rfl ?_
                  have h := Option.some.inj h
                  subst h
                  exact Tri.nil ⟨rfl, rfl⟩
              · obtain ⟨hg19, h⟩ := grd_some h
                obtain ⟨hg20, h⟩ := grd_some h
                obtain ⟨v7, hk21, h⟩ := bind_some h
                obtain ⟨hg22, h⟩ := grd_some h
                obtain ⟨v8, hk23, h⟩ := bind_some h
                obtain ⟨hg24, h⟩ := grd_some h
                refine Tri.run 3 [.g false, .r ⟨[], .int .i64 v7, []⟩, .r ⟨[], .int .i64 v8, []⟩] [.keep [1, 2, 7, 8, 9, 101] [2]] (K' := [.code [(2, 0), (1, 0), (0, 0), (1, 0), (0, 0), (1, 0), (0, 0), (1, 0), (0, 0)] 3, .blk 3, .code [(2, 0), (1, 0), (0, 0), (1, 0), (0, 0), (1, 0), (0, 0)] 2]) (σ' := ⟨[(1, .int .i64 a2), (2, .ptr 2 0), (7, .int .i64 (a1.length : Int)), (8, .int .i64 v1), (9, .int .i64 v3), (101, .bool (decide ((IntKind.i64.wrap ((a1.getD v1.toNat 0) + (a1.getD v3.toNat 0))) > (IntKind.i64.wrap ((a1.getD v7.toNat 0) + (a1.getD v8.toNat 0))))))], [(2, .box [.int .i64 a0, .list (.ints a1)])]⟩) rfl ⟨hg24, (w_spec_Overlap v1 v3 v8 hk23), hg22, (w_spec_Union v1 v3 v7 hk21), hg20, hg19, hd11, trivial⟩ rfl ?_
                rcases bif_some h with ⟨hd25, h⟩ | ⟨hd25, h⟩
                · refine Tri.run 2 [.g true] [.keep [4, 5, 6] []] (K' := [.code [(2, 0), (1, 0), (0, 0), (1, 0), (0, 0), (1, 0), (0, 0), (1, 0), (0, 0), (3, 0)] 1, .blk 3, .code [(2, 0), (1, 0), (0, 0), (1, 0), (0, 0), (1, 0), (0, 0)] 2]) (σ' := ⟨[(4, .int .i64 v1), (5, .int .i64 v3), (6, .bool true)], []⟩) rfl ⟨hd25, trivial⟩ rfl ?_
                  have h := Option.some.inj h
                  subst h
                  exact Tri.ret rfl ⟨nofun, rfl, rfl, rfl⟩
                · refine Tri.run 2 [.g false] [.keep [1, 2, 7, 8, 9] [2]] (K' := []) (σ' := ⟨[(1, .int .i64 a2), (2, .ptr 2 0), (7, .int .i64 (a1.length : Int)), (8, .int .i64 v1), (9, .int .i64 (IntKind.i64.wrap (v3 + (1 : Int))))], [(2, .box [.int .i64 a0, .list (.ints a1)])]⟩) rfl ⟨hd25, trivial⟩ rfl ?_
                  have h := Option.some.inj h
                  subst h
                  exact Tri.nil ⟨rfl, rfl⟩
          · refine Tri.run 1 [.g false] [.keep [1, 2, 7, 8] [2]] (K' := [.code [(2, 0), (1, 0), (0, 0), (1, 0), (0, 0), (1, 0), (0, 0), (0, 0), (1, 1)] 0, .code [(2, 0), (1, 0), (0, 0), (1, 0), (0, 0), (1, 0), (0, 0)] 1]) (σ' := ⟨[(1, .int .i64 a2), (2, .ptr 2 0), (7, .int .i64 (a1.length : Int)), (8, .int .i64 v1)], [(2, .box [.int .i64 a0, .list (.ints a1)])]⟩) rfl ⟨hd4, trivial⟩ rfl ?_
            have h := Option.some.inj h
            subst h
            exact Tri.out 2 rfl ⟨nofun, rfl, rfl⟩
        · intro e σ' hne hq
          rcases x2 with _ | r
          · obtain ⟨rfl, rfl⟩ := hq
            refine TriX.exit (K' := [.blk 1, .code [(2, 0), (1, 0), (0, 0)] 2]) rfl ?_
            refine Tri.run 1 [] [.keep [1, 2, 7, 8] [2]] (K' := []) (σ' := ⟨[(1, .int .i64 a2), (2, .ptr 2 0), (7, .int .i64 (a1.length : Int)), (8, .int .i64 (IntKind.i64.wrap (v1 + (1 : Int))))], [(2, .box [.int .i64 a0, .list (.ints a1)])]⟩) rfl trivial rfl ?_
            have h := Option.some.inj h
            subst h
            exact Tri.nil ⟨rfl, rfl⟩
          · obtain ⟨rfl, hq⟩ := hq
            have h := Option.some.inj h
            subst h
            exact TriX.ret ⟨nofun, rfl, hq⟩
      · refine Tri.run 1 [.g false] [.keep [] []] (K' := [.code [(2, 0), (1, 0), (0, 0), (0, 0), (1, 1)] 0, .code [(2, 0), (1, 0), (0, 0)] 1]) (σ' := ⟨[], []⟩) rfl ⟨hd3, trivial⟩ rfl ?_
        have h := Option.some.inj h
        subst h
        exact Tri.out 0 rfl ⟨nofun, rfl, rfl⟩
    · refine Tri.run 1 [.g false] [.keep [1, 2, 7, 8, 20] [2]] (K' := [.code [(2, 0), (1, 0), (0, 0), (0, 0)] 1, .code [(2, 0), (1, 0), (0, 0)] 1]) (σ' := ⟨[(1, .int .i64 a2), (2, .ptr 2 0), (7, .int .i64 (a1.length : Int)), (8, .int .i64 v1), (20, .bool false)], [(2, .box [.int .i64 a0, .list (.ints a1)])]⟩) rfl ⟨hd1, trivial⟩ rfl ?_
      refine Tri.run 1 [.g false] [.keep [] []] (K' := [.code [(2, 0), (1, 0), (0, 0), (0, 0), (1, 1)] 0, .code [(2, 0), (1, 0), (0, 0)] 1]) (σ' := ⟨[], []⟩) rfl ⟨rfl, trivial⟩ rfl ?_
      have h := Option.some.inj h
      subst h
      exact Tri.out 0 rfl ⟨nofun, rfl, rfl⟩
  · intro e σ' hne hq
    rcases x2 with _ | r
    · obtain ⟨rfl, rfl⟩ := hq
      refine TriX.exit (K' := [.code [] 3]) rfl ?_
      refine Tri.run 1 [] [.keep [4, 5, 6] []] (K' := [.code [] 4]) (σ' := ⟨[(4, .int .i64 (0 : Int)), (5, .int .i64 (0 : Int)), (6, .bool false)], []⟩) rfl trivial rfl ?_
      have h := Option.some.inj h
      subst h
      exact Tri.ret rfl ⟨.inl rfl, rfl, rfl⟩
    · obtain ⟨rfl, hq⟩ := hq
      have h := Option.some.inj h
      subst h
      exact TriX.ret ⟨.inl rfl, hq⟩
/-! spec.l10Has -/
noncomputable def E_spec_l10Has : Env := ⟨Try.prog, tys, (Try.f60.body).getD .skip, 21, tysOk, mixedOk⟩
abbrev q_spec_l10Has (r : Bool) (σ' : ASt) : Prop := resAV E_spec_l10Has.T σ' Try.f60.results.toList = some (.bool r) ∧ keepO σ'.ob (namesO []) = []
noncomputable def m_spec_l10Has (a0 : Int) (a1 : List Int) (a2 : Int) : Option Bool :=
(m_spec_l10Fault a0 a1 a2).bind fun (_, _, v3) =>
(m_spec_IsValidGame a0 a1).bind fun v4 =>
bif v4 then
(some (!v3))
else
(some false)
theorem w_spec_l10Has (a0 : Int) (a1 : List Int) (a2 : Int) (r : Bool) (h : m_spec_l10Has a0 a1 a2 = some r) : AM.Spec Try.prog 60 [.agg [.int .i64 a0, .list (.ints a1)], .int .i64 a2] [] (.bool r) [] := by
  refine spec_of (E := E_spec_l10Has) Try.func60 rfl rfl rfl rfl ?_
  refine Tri.run 1 [] [.keep [1, 2] [2]] (K' := [.code [(1, 0)] 0, .code [] 2]) (σ' := ⟨[(1, .int .i64 a2), (2, .ptr 2 0)], [(2, .box [.int .i64 a0, .list (.ints a1)])]⟩) rfl trivial rfl ?_
  obtain ⟨⟨v1, v2, v3⟩, hk1, h⟩ := bind_some h
  obtain ⟨v4, hk2, h⟩ := bind_some h
  rcases bif_some h with ⟨hd3, h⟩ | ⟨hd3, h⟩
  · refine Tri.run 2 [.r ⟨[], .tuple [.int .i64 v1, .int .i64 v2, .bool v3], []⟩, .r ⟨[], .bool v4, []⟩, .g true] [.keep [4] []] (K' := [.code [] 3]) (σ' := ⟨[(4, .bool (!v3))], []⟩) rfl ⟨hd3, (w_spec_IsValidGame a0 a1 v4 hk2), (w_spec_l10Fault a0 a1 a2 (v1, v2, v3) hk1), trivial⟩ rfl ?_
    have h := Option.some.inj h
    subst h
    exact Tri.ret rfl ⟨.inl rfl, rfl, rfl⟩
  · refine Tri.run 2 [.r ⟨[], .tuple [.int .i64 v1, .int .i64 v2, .bool v3], []⟩, .r ⟨[], .bool v4, []⟩, .g false] [.keep [4] []] (K' := [.code [] 3]) (σ' := ⟨[(4, .bool false)], []⟩) rfl ⟨hd3, (w_spec_IsValidGame a0 a1 v4 hk2), (w_spec_l10Fault a0 a1 a2 (v1, v2, v3) hk1), trivial⟩ rfl ?_
    have h := Option.some.inj h
    subst h
    exact Tri.ret rfl ⟨.inl rfl, rfl, rfl⟩
/-! spec.IsSuperadditive -/
noncomputable def E_spec_IsSuperadditive : Env := ⟨Try.prog, tys, (Try.f28.body).getD .skip, 5, tysOk, mixedOk⟩
abbrev q_spec_IsSuperadditive (r : Bool) (σ' : ASt) : Prop := resAV E_spec_IsSuperadditive.T σ' Try.f28.results.toList = some (.bool r) ∧ keepO σ'.ob (namesO []) = []
noncomputable def m_spec_IsSuperadditive (a0 : Int) (a1 : List Int) : Option Bool :=
(m_spec_l10Has a0 a1 (2 : Int)).bind fun v1 =>
some v1
theorem w_spec_IsSuperadditive (a0 : Int) (a1 : List Int) (r : Bool) (h : m_spec_IsSuperadditive a0 a1 = some r) : AM.Spec Try.prog 28 [.agg [.int .i64 a0, .list (.ints a1)]] [] (.bool r) [] := by
  refine spec_of (E := E_spec_IsSuperadditive) Try.func28 rfl rfl rfl rfl ?_
  refine Tri.run 1 [] [.keep [1] [1]] (K' := [.code [(1, 0)] 0, .code [] 2]) (σ' := ⟨[(1, .ptr 1 0)], [(1, .box [.int .i64 a0, .list (.ints a1)])]⟩) rfl trivial rfl ?_
  obtain ⟨v1, hk1, h⟩ := bind_some h
  refine Tri.run 1 [.r ⟨[], .bool v1, []⟩] [.keep [2] []] (K' := [.code [] 2]) (σ' := ⟨[(2, .bool v1)], []⟩) rfl ⟨(w_spec_l10Has a0 a1 (2 : Int) v1 hk1), trivial⟩ rfl ?_
  have h := Option.some.inj h
  subst h
  exact Tri.ret rfl ⟨.inl rfl, rfl, rfl⟩
/-! impl.within -/
noncomputable def E_impl_within : Env := ⟨Try.prog, tys, (Try.f66.body).getD .skip, 15, tysOk, mixedOk⟩
abbrev q_impl_within (r : Bool) (σ' : ASt) : Prop := resAV E_impl_within.T σ' Try.f66.results.toList = some (.bool r) ∧ keepO σ'.ob (namesO []) = []
noncomputable def m_impl_within (a0 : Int) (a1 : Int) (a2 : Int) : Option Bool :=
bif decide (a0 ≥ a1) then
(some (decide (a0 ≤ a2)))
else
(some false)
theorem w_impl_within (a0 : Int) (a1 : Int) (a2 : Int) (r : Bool) (h : m_impl_within a0 a1 a2 = some r) : AM.Spec Try.prog 66 [.int .i64 a0, .int .i64 a1, .int .i64 a2] [] (.bool r) [] := by
  refine spec_of (E := E_impl_within) Try.func66 rfl rfl rfl rfl ?_
  refine Tri.run 1 [] [.keep [0, 1, 2] []] (K' := [.code [(1, 0)] 0, .code [] 2]) (σ' := ⟨[(0, .int .i64 a0), (1, .int .i64 a1), (2, .int .i64 a2)], []⟩) rfl trivial rfl ?_
  rcases bif_some h with ⟨hd1, h⟩ | ⟨hd1, h⟩
  · refine Tri.run 1 [.g true] [.keep [6] []] (K' := [.code [] 2]) (σ' := ⟨[(6, .bool (decide (a0 ≤ a2)))], []⟩) rfl ⟨hd1, trivial⟩ rfl ?_
    have h := Option.some.inj h
    subst h
    exact Tri.ret rfl ⟨.inl rfl, rfl, rfl⟩
  · refine Tri.run 1 [.g false] [.keep [6] []] (K' := [.code [] 2]) (σ' := ⟨[(6, .bool false)], []⟩) rfl ⟨hd1, trivial⟩ rfl ?_
    have h := Option.some.inj h
    subst h
    exact Tri.ret rfl ⟨.inl rfl, rfl, rfl⟩
/-! impl.IsValidGame$1 -/
noncomputable def E_impl_IsValidGame_1 : Env := ⟨Try.prog, tys, (Try.f103.body).getD .skip, 6, tysOk, mixedOk⟩
abbrev q_impl_IsValidGame_1 (r : Bool) (σ' : ASt) : Prop := resAV E_impl_IsValidGame_1.T σ' Try.f103.results.toList = some (.bool r) ∧ keepO σ'.ob (namesO []) = []
noncomputable def m_impl_IsValidGame_1 (a0 : Int) : Option Bool :=
(m_impl_within a0 (-500 : Int) (500 : Int)).bind fun v1 =>
some (!v1)
theorem w_impl_IsValidGame_1 (a0 : Int) (r : Bool) (h : m_impl_IsValidGame_1 a0 = some r) : AM.Spec Try.prog 103 [.int .i64 a0] [] (.bool r) [] := by
  refine spec_of (E := E_impl_IsValidGame_1) Try.func103 rfl rfl rfl rfl ?_
  refine Tri.run 1 [] [.keep [0] []] (K' := [.code [(1, 0)] 0, .code [] 2]) (σ' := ⟨[(0, .int .i64 a0)], []⟩) rfl trivial rfl ?_
  obtain ⟨v1, hk1, h⟩ := bind_some h
  refine Tri.run 1 [.r ⟨[], .bool v1, []⟩] [.keep [2] []] (K' := [.code [] 2]) (σ' := ⟨[(2, .bool (!v1))], []⟩) rfl ⟨(w_impl_within a0 (-500 : Int) (500 : Int) v1 hk1), trivial⟩ rfl ?_
  have h := Option.some.inj h
  subst h
  exact Tri.ret rfl ⟨.inl rfl, rfl, rfl⟩
/-! slices.IndexFunc(()int,int) -/
noncomputable def E_slices_IndexFunc_int_int : Env := ⟨Try.prog, tys, (Try.f106.body).getD .skip, 19, tysOk, mixedOk⟩
abbrev q_slices_IndexFunc_int_int_impl_IsValidGame_1 (r : Int) (σ' : ASt) : Prop := resAV E_slices_IndexFunc_int_int.T σ' Try.f106.results.toList = some (.int .i64 r) ∧ keepO σ'.ob (namesO []) = []
noncomputable def l_slices_IndexFunc_int_int_impl_IsValidGame_1_0 (a0 : List Int) (v1 : Int) : Option (Int ⊕ (Unit ⊕ Int)) :=
bif decide (v1 < (a0.length : Int)) then
(grd ((0 : Int) ≤ v1 ∧ v1 < (a0.length : Int)) <|
(m_impl_IsValidGame_1 (a0.getD v1.toNat 0)).bind fun v2 =>
bif v2 then
(some (.inr (.inr v1)))
else
(some (.inl (IntKind.i64.wrap (v1 + (1 : Int))))))
else
(some (.inr (.inl ())))
noncomputable def m_slices_IndexFunc_int_int_impl_IsValidGame_1 (a0 : List Int) : Option Int :=
(iter (l_slices_IndexFunc_int_int_impl_IsValidGame_1_0 a0) (0 : Int)).bind fun
| (.inl _) => (
some (-1 : Int))
| (.inr r) => some r
theorem w_slices_IndexFunc_int_int_impl_IsValidGame_1 (a0 : List Int) (r : Int) (h : m_slices_IndexFunc_int_int_impl_IsValidGame_1 a0 = some r) : AM.Spec Try.prog 106 [.list (.ints a0), .func 103 [] []] [] (.int .i64 r) [] := by
  refine spec_of (E := E_slices_IndexFunc_int_int) Try.func106 rfl rfl rfl rfl ?_
  refine Tri.run 2 [] [.keep [0, 1, 7, 8] []] (K' := [.code [(1, 0), (1, 0)] 0, .blk 0, .code [] 2]) (σ' := ⟨[(0, .list (.ints a0)), (1, .func 103 [] []), (7, .int .i64 (a0.length : Int)), (8, .int .i64 (0 : Int))], []⟩) rfl trivial rfl ?_
  obtain ⟨x1, hk5, h⟩ := bind_some h
  refine Tri.loop (K1 := [.code [(1, 0), (1, 0), (0, 0)] 0]) (K2 := [.blk 0, .code [] 2]) (fun v1 => ⟨[(0, .list (.ints a0)), (1, .func 103 [] []), (7, .int .i64 (a0.length : Int)), (8, .int .i64 v1)], []⟩) (fun x e σ' => match x with | (.inl _) => e = .exit 0 ∧ σ' = ⟨[], []⟩ | (.inr r) => e = .ret ∧ q_slices_IndexFunc_int_int_impl_IsValidGame_1 r σ') hk5 rfl rfl ?_ ?_
  · intro v1 x hs
    clear h
    have h := hs
    clear hs
    refine Tri.run 1 [] [.keep [0, 1, 7, 8, 9] []] (K' := [.code [(1, 0), (1, 0), (0, 0), (1, 0)] 0, .code [(1, 0), (1, 0), (0, 0)] 2]) (σ' := ⟨[(0, .list (.ints a0)), (1, .func 103 [] []), (7, .int .i64 (a0.length : Int)), (8, .int .i64 v1), (9, .bool (decide (v1 < (a0.length : Int))))], []⟩) rfl trivial rfl ?_
    rcases bif_some h with ⟨hd1, h⟩ | ⟨hd1, h⟩
    · refine Tri.run 2 [.g true] [.keep [0, 1, 5, 7, 8] []] (K' := [.code [(1, 0), (1, 0), (0, 0), (2, 0), (0, 0), (1, 0)] 0, .code [(1, 0), (1, 0), (0, 0), (2, 0), (0, 0)] 2, .blk 1, .code [(1, 0), (1, 0), (0, 0)] 3]) (σ' := ⟨[(0, .list (.ints a0)), (1, .func 103 [] []), (5, .int .i64 v1), (7, .int .i64 (a0.length : Int)), (8, .int .i64 v1)], []⟩) rfl ⟨hd1, trivial⟩ rfl ?_
      obtain ⟨hg2, h⟩ := grd_some h
      obtain ⟨v2, hk3, h⟩ := bind_some h
      refine Tri.run 1 [.r ⟨[], .bool v2, []⟩] [.keep [0, 1, 5, 7, 8, 16] []] (K' := [.code [(1, 0), (1, 0), (0, 0), (2, 0), (0, 0)] 2, .blk 1, .code [(1, 0), (1, 0), (0, 0)] 3]) (σ' := ⟨[(0, .list (.ints a0)), (1, .func 103 [] []), (5, .int .i64 v1), (7, .int .i64 (a0.length : Int)), (8, .int .i64 v1), (16, .bool v2)], []⟩) rfl ⟨(w_impl_IsValidGame_1 (a0.getD v1.toNat 0) v2 hk3), hg2, trivial⟩ rfl ?_
      rcases bif_some h with ⟨hd4, h⟩ | ⟨hd4, h⟩
      · refine Tri.run 2 [.g true] [.keep [4] []] (K' := [.code [(1, 0), (1, 0), (0, 0), (2, 0), (0, 0), (2, 0)] 1, .blk 1, .code [(1, 0), (1, 0), (0, 0)] 3]) (σ' := ⟨[(4, .int .i64 v1)], []⟩) rfl ⟨hd4, trivial⟩ rfl ?_
        have h := Option.some.inj h
        subst h
        exact Tri.ret rfl ⟨nofun, rfl, rfl, rfl⟩
      · refine Tri.run 2 [.g false] [.keep [0, 1, 7, 8] []] (K' := []) (σ' := ⟨[(0, .list (.ints a0)), (1, .func 103 [] []), (7, .int .i64 (a0.length : Int)), (8, .int .i64 (IntKind.i64.wrap (v1 + (1 : Int))))], []⟩) rfl ⟨hd4, trivial⟩ rfl ?_
        have h := Option.some.inj h
        subst h
        exact Tri.nil ⟨rfl, rfl⟩
    · refine Tri.run 1 [.g false] [.keep [] []] (K' := [.code [(1, 0), (1, 0), (0, 0), (1, 0), (0, 1)] 0, .code [(1, 0), (1, 0), (0, 0)] 2]) (σ' := ⟨[], []⟩) rfl ⟨hd1, trivial⟩ rfl ?_
      have h := Option.some.inj h
      subst h
      exact Tri.out 0 rfl ⟨nofun, rfl, rfl⟩
  · intro e σ' hne hq
    rcases x1 with _ | r
    · obtain ⟨rfl, rfl⟩ := hq
      refine TriX.exit (K' := [.code [] 2]) rfl ?_
      refine Tri.run 1 [] [.keep [4] []] (K' := [.code [] 3]) (σ' := ⟨[(4, .int .i64 (-1 : Int))], []⟩) rfl trivial rfl ?_
      have h := Option.some.inj h
      subst h
      exact Tri.ret rfl ⟨.inl rfl, rfl, rfl⟩
    · obtain ⟨rfl, hq⟩ := hq
      have h := Option.some.inj h
      subst h
      exact TriX.ret ⟨.inl rfl, hq⟩
/-! slices.ContainsFunc(()int,int) -/
noncomputable def E_slices_ContainsFunc_int_int : Env := ⟨Try.prog, tys, (Try.f74.body).getD .skip, 9, tysOk, mixedOk⟩
abbrev q_slices_ContainsFunc_int_int_impl_IsValidGame_1 (r : Bool) (σ' : ASt) : Prop := resAV E_slices_ContainsFunc_int_int.T σ' Try.f74.results.toList = some (.bool r) ∧ keepO σ'.ob (namesO []) = []
noncomputable def m_slices_ContainsFunc_int_int_impl_IsValidGame_1 (a0 : List Int) : Option Bool :=
(m_slices_IndexFunc_int_int_impl_IsValidGame_1 a0).bind fun v1 =>
some (decide (v1 ≥ (0 : Int)))
theorem w_slices_ContainsFunc_int_int_impl_IsValidGame_1 (a0 : List Int) (r : Bool) (h : m_slices_ContainsFunc_int_int_impl_IsValidGame_1 a0 = some r) : AM.Spec Try.prog 74 [.list (.ints a0), .func 103 [] []] [] (.bool r) [] := by
  refine spec_of (E := E_slices_ContainsFunc_int_int) Try.func74 rfl rfl rfl rfl ?_
  refine Tri.run 1 [] [.keep [0, 1] []] (K' := [.code [(1, 0)] 0, .code [] 2]) (σ' := ⟨[(0, .list (.ints a0)), (1, .func 103 [] [])], []⟩) rfl trivial rfl ?_
  obtain ⟨v1, hk1, h⟩ := bind_some h
  refine Tri.run 1 [.r ⟨[], .int .i64 v1, []⟩] [.keep [4] []] (K' := [.code [] 2]) (σ' := ⟨[(4, .bool (decide (v1 ≥ (0 : Int))))], []⟩) rfl ⟨(w_slices_IndexFunc_int_int_impl_IsValidGame_1 a0 v1 hk1), trivial⟩ rfl ?_
  have h := Option.some.inj h
  subst h
  exact Tri.ret rfl ⟨.inl rfl, rfl, rfl⟩
/-! impl.IsValidGame -/
noncomputable def E_impl_IsValidGame : Env := ⟨Try.prog, tys, (Try.f61.body).getD .skip, 27, tysOk, mixedOk⟩
abbrev q_impl_IsValidGame (r : Bool) (σ' : ASt) : Prop := resAV E_impl_IsValidGame.T σ' Try.f61.results.toList = some (.bool r) ∧ keepO σ'.ob (namesO []) = []
noncomputable def m_impl_IsValidGame (a0 : Int) (a1 : List Int) : Option Bool :=
(m_impl_within a0 (1 : Int) (5 : Int)).bind fun v1 =>
bif !v1 then
(some false)
else
(grd ((0 : Int) ≤ a0) <|
bif (a1.length : Int) != (IntKind.i64.wrap ((1 : Int) * 2 ^ (min a0.toNat 64))) then
(some false)
else
(grd ((0 : Int) ≤ (0 : Int) ∧ (0 : Int) < (a1.length : Int)) <|
bif (a1.getD ((0 : Int).toNat) 0) != (0 : Int) then
(some false)
else
((m_slices_ContainsFunc_int_int_impl_IsValidGame_1 a1).bind fun v2 =>
some (!v2))))
theorem w_impl_IsValidGame (a0 : Int) (a1 : List Int) (r : Bool) (h : m_impl_IsValidGame a0 a1 = some r) : AM.Spec Try.prog 61 [.agg [.int .i64 a0, .list (.ints a1)]] [] (.bool r) [] := by
  refine spec_of (E := E_impl_IsValidGame) Try.func61 rfl rfl rfl rfl ?_
  refine Tri.run 1 [] [.keep [1] [1]] (K' := [.code [(1, 0), (0, 0)] 0, .code [(1, 0)] 1, .code [] 2]) (σ' := ⟨[(1, .ptr 1 0)], [(1, .box [.int .i64 a0, .list (.ints a1)])]⟩) rfl trivial rfl ?_
  obtain ⟨v1, hk1, h⟩ := bind_some h
  rcases bif_some h with ⟨hd2, h⟩ | ⟨hd2, h⟩
  · refine Tri.run 1 [.r ⟨[], .bool v1, []⟩, .g true, .g true] [.keep [1, 22] [1]] (K' := [.code [(1, 0)] 1, .code [] 2]) (σ' := ⟨[(1, .ptr 1 0), (22, .bool true)], [(1, .box [.int .i64 a0, .list (.ints a1)])]⟩) rfl ⟨rfl, hd2, (w_impl_within a0 (1 : Int) (5 : Int) v1 hk1), trivial⟩ rfl ?_
    refine Tri.run 2 [.g true] [.keep [2] []] (K' := [.code [(1, 0), (1, 0)] 1, .code [] 2]) (σ' := ⟨[(2, .bool false)], []⟩) rfl ⟨rfl, trivial⟩ rfl ?_
    have h := Option.some.inj h
    subst h
    exact Tri.ret rfl ⟨.inl rfl, rfl, rfl⟩
  · obtain ⟨hg3, h⟩ := grd_some h
    rcases bif_some h with ⟨hd4, h⟩ | ⟨hd4, h⟩
    · refine Tri.run 1 [.r ⟨[], .bool v1, []⟩, .g false, .g true] [.keep [1, 22] [1]] (K' := [.code [(1, 0)] 1, .code [] 2]) (σ' := ⟨[(1, .ptr 1 0), (22, .bool true)], [(1, .box [.int .i64 a0, .list (.ints a1)])]⟩) rfl ⟨hd4, hg3, hd2, (w_impl_within a0 (1 : Int) (5 : Int) v1 hk1), trivial⟩ rfl ?_
      refine Tri.run 2 [.g true] [.keep [2] []] (K' := [.code [(1, 0), (1, 0)] 1, .code [] 2]) (σ' := ⟨[(2, .bool false)], []⟩) rfl ⟨rfl, trivial⟩ rfl ?_
      have h := Option.some.inj h
      subst h
      exact Tri.ret rfl ⟨.inl rfl, rfl, rfl⟩
    · obtain ⟨hg5, h⟩ := grd_some h
      refine Tri.run 1 [.r ⟨[], .bool v1, []⟩, .g false, .g false] [.keep [1, 22] [1]] (K' := [.code [(1, 0)] 1, .code [] 2]) (σ' := ⟨[(1, .ptr 1 0), (22, .bool ((a1.getD ((0 : Int).toNat) 0) != (0 : Int)))], [(1, .box [.int .i64 a0, .list (.ints a1)])]⟩) rfl ⟨hg5, hd4, hg3, hd2, (w_impl_within a0 (1 : Int) (5 : Int) v1 hk1), trivial⟩ rfl ?_
      rcases bif_some h with ⟨hd6, h⟩ | ⟨hd6, h⟩
      · refine Tri.run 2 [.g true] [.keep [2] []] (K' := [.code [(1, 0), (1, 0)] 1, .code [] 2]) (σ' := ⟨[(2, .bool false)], []⟩) rfl ⟨hd6, trivial⟩ rfl ?_
        have h := Option.some.inj h
        subst h
        exact Tri.ret rfl ⟨.inl rfl, rfl, rfl⟩
      · obtain ⟨v2, hk7, h⟩ := bind_some h
        refine Tri.run 2 [.g false, .r ⟨[], .bool v2, []⟩] [.keep [2] []] (K' := [.code [] 3]) (σ' := ⟨[(2, .bool (!v2))], []⟩) rfl ⟨(w_slices_ContainsFunc_int_int_impl_IsValidGame_1 a1 v2 hk7), hd6, trivial⟩ rfl ?_
        have h := Option.some.inj h
        subst h
        exact Tri.ret rfl ⟨.inl rfl, rfl, rfl⟩
/-! impl.SuperadditiveFault$1 -/
noncomputable def E_impl_SuperadditiveFault_1 : Env := ⟨Try.prog, tys, (Try.f59.body).getD .skip, 31, tysOk, mixedOk⟩
abbrev q_impl_SuperadditiveFault_1 (r : Bool) (σ' : ASt) : Prop := resAV E_impl_SuperadditiveFault_1.T σ' Try.f59.results.toList = some (.bool r) ∧ keepO σ'.ob (namesO []) = []
noncomputable def m_impl_SuperadditiveFault_1 (a0 : Int) (a1 : Int) (_a2 : Int) (a3 : List Int) : Option Bool :=
bif (bitsOf .and .i64 a0 a1) == (0 : Int) then
(grd ((0 : Int) ≤ a0 ∧ a0 < (a3.length : Int)) <|
grd ((0 : Int) ≤ a1 ∧ a1 < (a3.length : Int)) <|
grd ((0 : Int) ≤ bitsOf .or .i64 a0 a1 ∧ bitsOf .or .i64 a0 a1 < (a3.length : Int)) <|
some (decide ((IntKind.i64.wrap ((a3.getD a0.toNat 0) + (a3.getD a1.toNat 0))) > (a3.getD ((bitsOf .or .i64 a0 a1).toNat) 0))))
else
(some false)
theorem w_impl_SuperadditiveFault_1 (a0 : Int) (a1 : Int) (a2 : Int) (a3 : List Int) (r : Bool) (h : m_impl_SuperadditiveFault_1 a0 a1 a2 a3 = some r) : AM.Spec Try.prog 59 [.int .i64 a0, .int .i64 a1, .pbox [.int .i64 a2, .list (.ints a3)] 0] [] (.bool r) [] := by
  refine spec_of (E := E_impl_SuperadditiveFault_1) Try.func59 rfl rfl rfl rfl ?_
  refine Tri.run 1 [] [.keep [0, 1, 2] []] (K' := [.code [(1, 0)] 0, .code [] 2]) (σ' := ⟨[(0, .int .i64 a0), (1, .int .i64 a1), (2, .pbox [.int .i64 a2, .list (.ints a3)] 0)], []⟩) rfl trivial rfl ?_
  rcases bif_some h with ⟨hd1, h⟩ | ⟨hd1, h⟩
  · obtain ⟨hg2, h⟩ := grd_some h
    obtain ⟨hg3, h⟩ := grd_some h
    obtain ⟨hg4, h⟩ := grd_some h
    refine Tri.run 1 [.g true] [.keep [5] []] (K' := [.code [] 2]) (σ' := ⟨[(5, .bool (decide ((IntKind.i64.wrap ((a3.getD a0.toNat 0) + (a3.getD a1.toNat 0))) > (a3.getD ((bitsOf .or .i64 a0 a1).toNat) 0))))], []⟩) rfl ⟨hg4, hg3, hg2, hd1, trivial⟩ rfl ?_
    have h := Option.some.inj h
    subst h
    exact Tri.ret rfl ⟨.inl rfl, rfl, rfl⟩
  · refine Tri.run 1 [.g false] [.keep [5] []] (K' := [.code [] 2]) (σ' := ⟨[(5, .bool false)], []⟩) rfl ⟨hd1, trivial⟩ rfl ?_
    have h := Option.some.inj h
    subst h
    exact Tri.ret rfl ⟨.inl rfl, rfl, rfl⟩
/-! impl.fault -/
noncomputable def E_impl_fault : Env := ⟨Try.prog, tys, (Try.f56.body).getD .skip, 32, tysOk, mixedOk⟩
abbrev q_impl_fault_impl_SuperadditiveFault_1 (r : Int × Int × Bool) (σ' : ASt) : Prop := resAV E_impl_fault.T σ' Try.f56.results.toList = some (.tuple [.int .i64 r.1, .int .i64 r.2.1, .bool r.2.2]) ∧ keepO σ'.ob (namesO []) = []
noncomputable def l_impl_fault_impl_SuperadditiveFault_1_1 (a1 : List Int) (a2 : Int) (a3 : List Int) (v2 : Int) (v3 : Int) : Option (Int ⊕ (Unit ⊕ ((Int × Int × Bool)))) :=
bif decide (v3 < (a1.length : Int)) then
((m_impl_SuperadditiveFault_1 v2 v3 a2 a3).bind fun v4 =>
bif v4 then
(some (.inr (.inr (v2, v3, true))))
else
(some (.inl (IntKind.i64.wrap (v3 + (1 : Int))))))
else
(some (.inr (.inl ())))
noncomputable def l_impl_fault_impl_SuperadditiveFault_1_0 (a1 : List Int) (a2 : Int) (a3 : List Int) (v2 : Int) : Option (Int ⊕ (Unit ⊕ ((Int × Int × Bool)))) :=
bif decide (v2 < (a1.length : Int)) then
((iter (l_impl_fault_impl_SuperadditiveFault_1_1 a1 a2 a3 v2) (0 : Int)).bind fun
| (.inl _) => (
some (.inl (IntKind.i64.wrap (v2 + (1 : Int)))))
| (.inr r) => some (.inr (.inr r)))
else
(some (.inr (.inl ())))
noncomputable def m_impl_fault_impl_SuperadditiveFault_1 (a0 : Int) (a1 : List Int) (a2 : Int) (a3 : List Int) : Option (Int × Int × Bool) :=
(m_impl_IsValidGame a0 a1).bind fun v1 =>
bif !v1 then
(some ((0 : Int), (0 : Int), false))
else
((iter (l_impl_fault_impl_SuperadditiveFault_1_0 a1 a2 a3) (0 : Int)).bind fun
| (.inl _) => (
some ((0 : Int), (0 : Int), false))
| (.inr r) => some r)
theorem w_impl_fault_impl_SuperadditiveFault_1 (a0 : Int) (a1 : List Int) (a2 : Int) (a3 : List Int) (r : Int × Int × Bool) (h : m_impl_fault_impl_SuperadditiveFault_1 a0 a1 a2 a3 = some r) : AM.Spec Try.prog 56 [.agg [.int .i64 a0, .list (.ints a1)], .func 59 [] [.pbox [.int .i64 a2, .list (.ints a3)] 0]] [] (.tuple [.int .i64 r.1, .int .i64 r.2.1, .bool r.2.2]) [] := by
  refine spec_of (E := E_impl_fault) Try.func56 rfl rfl rfl rfl ?_
  refine Tri.run 1 [] [.keep [1, 2] [2]] (K' := [.code [(1, 0), (0, 0)] 0, .code [(1, 0)] 1, .code [] 2]) (σ' := ⟨[(1, .func 59 [] [.pbox [.int .i64 a2, .list (.ints a3)] 0]), (2, .ptr 2 0)], [(2, .box [.int .i64 a0, .list (.ints a1)])]⟩) rfl trivial rfl ?_
  obtain ⟨v1, hk1, h⟩ := bind_some h
  refine Tri.run 1 [.r ⟨[], .bool v1, []⟩] [.keep [1, 2, 11] [2]] (K' := [.code [(1, 0)] 1, .code [] 2]) (σ' := ⟨[(1, .func 59 [] [.pbox [.int .i64 a2, .list (.ints a3)] 0]), (2, .ptr 2 0), (11, .bool (!v1))], [(2, .box [.int .i64 a0, .list (.ints a1)])]⟩) rfl ⟨(w_impl_IsValidGame a0 a1 v1 hk1), trivial⟩ rfl ?_
  rcases bif_some h with ⟨hd2, h⟩ | ⟨hd2, h⟩
  · refine Tri.run 2 [.g true] [.keep [4, 5, 6] []] (K' := [.code [(1, 0), (1, 0)] 1, .code [] 2]) (σ' := ⟨[(4, .int .i64 (0 : Int)), (5, .int .i64 (0 : Int)), (6, .bool false)], []⟩) rfl ⟨hd2, trivial⟩ rfl ?_
    have h := Option.some.inj h
    subst h
    exact Tri.ret rfl ⟨.inl rfl, rfl, rfl⟩
  · refine Tri.run 2 [.g false] [.keep [1, 2, 14, 15] [2]] (K' := [.code [(2, 0), (1, 0)] 0, .blk 0, .code [] 3]) (σ' := ⟨[(1, .func 59 [] [.pbox [.int .i64 a2, .list (.ints a3)] 0]), (2, .ptr 2 0), (14, .int .i64 (a1.length : Int)), (15, .int .i64 (0 : Int))], [(2, .box [.int .i64 a0, .list (.ints a1)])]⟩) rfl ⟨hd2, trivial⟩ rfl ?_
    obtain ⟨x2, hk8, h⟩ := bind_some h
    refine Tri.loop (K1 := [.code [(2, 0), (1, 0), (0, 0)] 0]) (K2 := [.blk 0, .code [] 3]) (fun v2 => ⟨[(1, .func 59 [] [.pbox [.int .i64 a2, .list (.ints a3)] 0]), (2, .ptr 2 0), (14, .int .i64 (a1.length : Int)), (15, .int .i64 v2)], [(2, .box [.int .i64 a0, .list (.ints a1)])]⟩) (fun x e σ' => match x with | (.inl _) => e = .exit 0 ∧ σ' = ⟨[], []⟩ | (.inr r) => e = .ret ∧ q_impl_fault_impl_SuperadditiveFault_1 r σ') hk8 rfl rfl ?_ ?_
    · intro v2 x hs
      clear h
      have h := hs
      clear hs
      refine Tri.run 1 [] [.keep [1, 2, 14, 15, 16] [2]] (K' := [.code [(2, 0), (1, 0), (0, 0), (1, 0)] 0, .code [(2, 0), (1, 0), (0, 0)] 2]) (σ' := ⟨[(1, .func 59 [] [.pbox [.int .i64 a2, .list (.ints a3)] 0]), (2, .ptr 2 0), (14, .int .i64 (a1.length : Int)), (15, .int .i64 v2), (16, .bool (decide (v2 < (a1.length : Int))))], [(2, .box [.int .i64 a0, .list (.ints a1)])]⟩) rfl trivial rfl ?_
      rcases bif_some h with ⟨hd3, h⟩ | ⟨hd3, h⟩
      · refine Tri.run 3 [.g true] [.keep [1, 2, 7, 14, 15, 20, 21] [2]] (K' := [.code [(2, 0), (1, 0), (0, 0), (2, 0), (0, 0), (2, 0)] 0, .blk 2, .blk 1, .code [(2, 0), (1, 0), (0, 0)] 3]) (σ' := ⟨[(1, .func 59 [] [.pbox [.int .i64 a2, .list (.ints a3)] 0]), (2, .ptr 2 0), (7, .int .i64 v2), (14, .int .i64 (a1.length : Int)), (15, .int .i64 v2), (20, .int .i64 (a1.length : Int)), (21, .int .i64 (0 : Int))], [(2, .box [.int .i64 a0, .list (.ints a1)])]⟩) rfl ⟨hd3, trivial⟩ rfl ?_
        obtain ⟨x2, hk7, h⟩ := bind_some h
        refine Tri.loop (K1 := [.code [(2, 0), (1, 0), (0, 0), (2, 0), (0, 0), (2, 0), (0, 0)] 0]) (K2 := [.blk 2, .blk 1, .code [(2, 0), (1, 0), (0, 0)] 3]) (fun v3 => ⟨[(1, .func 59 [] [.pbox [.int .i64 a2, .list (.ints a3)] 0]), (2, .ptr 2 0), (7, .int .i64 v2), (14, .int .i64 (a1.length : Int)), (15, .int .i64 v2), (20, .int .i64 (a1.length : Int)), (21, .int .i64 v3)], [(2, .box [.int .i64 a0, .list (.ints a1)])]⟩) (fun x e σ' => match x with | (.inl _) => e = .exit 2 ∧ σ' = ⟨[(1, .func 59 [] [.pbox [.int .i64 a2, .list (.ints a3)] 0]), (2, .ptr 2 0), (14, .int .i64 (a1.length : Int)), (15, .int .i64 v2)], [(2, .box [.int .i64 a0, .list (.ints a1)])]⟩ | (.inr r) => e = .ret ∧ q_impl_fault_impl_SuperadditiveFault_1 r σ') hk7 rfl rfl ?_ ?_
        · intro v3 x hs
          clear h
          have h := hs
          clear hs
          refine Tri.run 1 [] [.keep [1, 2, 7, 14, 15, 20, 21, 22] [2]] (K' := [.code [(2, 0), (1, 0), (0, 0), (2, 0), (0, 0), (2, 0), (0, 0), (1, 0)] 0, .code [(2, 0), (1, 0), (0, 0), (2, 0), (0, 0), (2, 0), (0, 0)] 2]) (σ' := ⟨[(1, .func 59 [] [.pbox [.int .i64 a2, .list (.ints a3)] 0]), (2, .ptr 2 0), (7, .int .i64 v2), (14, .int .i64 (a1.length : Int)), (15, .int .i64 v2), (20, .int .i64 (a1.length : Int)), (21, .int .i64 v3), (22, .bool (decide (v3 < (a1.length : Int))))], [(2, .box [.int .i64 a0, .list (.ints a1)])]⟩) rfl trivial rfl ?_
          rcases bif_some h with ⟨hd4, h⟩ | ⟨hd4, h⟩
          · refine Tri.run 2 [.g true] [.keep [1, 2, 7, 8, 14, 15, 20, 21] [2]] (K' := [.code [(2, 0), (1, 0), (0, 0), (2, 0), (0, 0), (2, 0), (0, 0), (2, 0), (0, 0), (1, 0)] 0, .code [(2, 0), (1, 0), (0, 0), (2, 0), (0, 0), (2, 0), (0, 0), (2, 0), (0, 0)] 2, .blk 3, .code [(2, 0), (1, 0), (0, 0), (2, 0), (0, 0), (2, 0), (0, 0)] 3]) (σ' := ⟨[(1, .func 59 [] [.pbox [.int .i64 a2, .list (.ints a3)] 0]), (2, .ptr 2 0), (7, .int .i64 v2), (8, .int .i64 v3), (14, .int .i64 (a1.length : Int)), (15, .int .i64 v2), (20, .int .i64 (a1.length : Int)), (21, .int .i64 v3)], [(2, .box [.int .i64 a0, .list (.ints a1)])]⟩) rfl ⟨hd4, trivial⟩ rfl ?_
            obtain ⟨v4, hk5, h⟩ := bind_some h
            refine Tri.run 1 [.r ⟨[], .bool v4, []⟩] [.keep [1, 2, 7, 8, 14, 15, 20, 21, 27] [2]] (K' := [.code [(2, 0), (1, 0), (0, 0), (2, 0), (0, 0), (2, 0), (0, 0), (2, 0), (0, 0)] 2, .blk 3, .code [(2, 0), (1, 0), (0, 0), (2, 0), (0, 0), (2, 0), (0, 0)] 3]) (σ' := ⟨[(1, .func 59 [] [.pbox [.int .i64 a2, .list (.ints a3)] 0]), (2, .ptr 2 0), (7, .int .i64 v2), (8, .int .i64 v3), (14, .int .i64 (a1.length : Int)), (15, .int .i64 v2), (20, .int .i64 (a1.length : Int)), (21, .int .i64 v3), (27, .bool v4)], [(2, .box [.int .i64 a0, .list (.ints a1)])]⟩) rfl ⟨(w_impl_SuperadditiveFault_1 v2 v3 a2 a3 v4 hk5), trivial⟩ rfl ?_
            rcases bif_some h with ⟨hd6, h⟩ | ⟨hd6, h⟩
            · refine Tri.run 2 [.g true] [.keep [4, 5, 6] []] (K' := [.code [(2, 0), (1, 0), (0, 0), (2, 0), (0, 0), (2, 0), (0, 0), (2, 0), (0, 0), (2, 0)] 1, .blk 3, .code [(2, 0), (1, 0), (0, 0), (2, 0), (0, 0), (2, 0), (0, 0)] 3]) (σ' := ⟨[(4, .int .i64 v2), (5, .int .i64 v3), (6, .bool true)], []⟩) rfl ⟨hd6, trivial⟩ rfl ?_
              have h := Option.some.inj h
              subst h
              exact Tri.ret rfl ⟨nofun, rfl, rfl, rfl⟩
            · refine Tri.run 2 [.g false] [.keep [1, 2, 7, 14, 15, 20, 21] [2]] (K' := []) (σ' := ⟨[(1, .func 59 [] [.pbox [.int .i64 a2, .list (.ints a3)] 0]), (2, .ptr 2 0), (7, .int .i64 v2), (14, .int .i64 (a1.length : Int)), (15, .int .i64 v2), (20, .int .i64 (a1.length : Int)), (21, .int .i64 (IntKind.i64.wrap (v3 + (1 : Int))))], [(2, .box [.int .i64 a0, .list (.ints a1)])]⟩) rfl ⟨hd6, trivial⟩ rfl ?_
              have h := Option.some.inj h
              subst h
              exact Tri.nil ⟨rfl, rfl⟩
          · refine Tri.run 1 [.g false] [.keep [1, 2, 14, 15] [2]] (K' := [.code [(2, 0), (1, 0), (0, 0), (2, 0), (0, 0), (2, 0), (0, 0), (1, 0), (0, 1)] 0, .code [(2, 0), (1, 0), (0, 0), (2, 0), (0, 0), (2, 0), (0, 0)] 2]) (σ' := ⟨[(1, .func 59 [] [.pbox [.int .i64 a2, .list (.ints a3)] 0]), (2, .ptr 2 0), (14, .int .i64 (a1.length : Int)), (15, .int .i64 v2)], [(2, .box [.int .i64 a0, .list (.ints a1)])]⟩) rfl ⟨hd4, trivial⟩ rfl ?_
            have h := Option.some.inj h
            subst h
            exact Tri.out 2 rfl ⟨nofun, rfl, rfl⟩
        · intro e σ' hne hq
          rcases x2 with _ | r
          · obtain ⟨rfl, rfl⟩ := hq
            refine TriX.exit (K' := [.blk 1, .code [(2, 0), (1, 0), (0, 0)] 3]) rfl ?_
            refine Tri.run 1 [] [.keep [1, 2, 14, 15] [2]] (K' := []) (σ' := ⟨[(1, .func 59 [] [.pbox [.int .i64 a2, .list (.ints a3)] 0]), (2, .ptr 2 0), (14, .int .i64 (a1.length : Int)), (15, .int .i64 (IntKind.i64.wrap (v2 + (1 : Int))))], [(2, .box [.int .i64 a0, .list (.ints a1)])]⟩) rfl trivial rfl ?_
            have h := Option.some.inj h
            subst h
            exact Tri.nil ⟨rfl, rfl⟩
          · obtain ⟨rfl, hq⟩ := hq
            have h := Option.some.inj h
            subst h
            exact TriX.ret ⟨nofun, rfl, hq⟩
      · refine Tri.run 1 [.g false] [.keep [] []] (K' := [.code [(2, 0), (1, 0), (0, 0), (1, 0), (0, 1)] 0, .code [(2, 0), (1, 0), (0, 0)] 2]) (σ' := ⟨[], []⟩) rfl ⟨hd3, trivial⟩ rfl ?_
        have h := Option.some.inj h
        subst h
        exact Tri.out 0 rfl ⟨nofun, rfl, rfl⟩
    · intro e σ' hne hq
      rcases x2 with _ | r
      · obtain ⟨rfl, rfl⟩ := hq
        refine TriX.exit (K' := [.code [] 3]) rfl ?_
        refine Tri.run 1 [] [.keep [4, 5, 6] []] (K' := [.code [] 4]) (σ' := ⟨[(4, .int .i64 (0 : Int)), (5, .int .i64 (0 : Int)), (6, .bool false)], []⟩) rfl trivial rfl ?_
        have h := Option.some.inj h
        subst h
        exact Tri.ret rfl ⟨.inl rfl, rfl, rfl⟩
      · obtain ⟨rfl, hq⟩ := hq
        have h := Option.some.inj h
        subst h
        exact TriX.ret ⟨.inl rfl, hq⟩
/-! impl.SuperadditiveFault -/
noncomputable def E_impl_SuperadditiveFault : Env := ⟨Try.prog, tys, (Try.f23.body).getD .skip, 11, tysOk, mixedOk⟩
abbrev q_impl_SuperadditiveFault (r : Int × Int × Bool) (σ' : ASt) : Prop := resAV E_impl_SuperadditiveFault.T σ' Try.f23.results.toList = some (.tuple [.int .i64 r.1, .int .i64 r.2.1, .bool r.2.2]) ∧ keepO σ'.ob (namesO []) = []
noncomputable def m_impl_SuperadditiveFault (a0 : Int) (a1 : List Int) : Option (Int × Int × Bool) :=
(m_impl_fault_impl_SuperadditiveFault_1 a0 a1 a0 a1).bind fun (v1, v2, v3) =>
some (v1, v2, v3)
theorem w_impl_SuperadditiveFault (a0 : Int) (a1 : List Int) (r : Int × Int × Bool) (h : m_impl_SuperadditiveFault a0 a1 = some r) : AM.Spec Try.prog 23 [.agg [.int .i64 a0, .list (.ints a1)]] [] (.tuple [.int .i64 r.1, .int .i64 r.2.1, .bool r.2.2]) [] := by
  refine spec_of (E := E_impl_SuperadditiveFault) Try.func23 rfl rfl rfl rfl ?_
  refine Tri.run 1 [] [.keep [1] [1]] (K' := [.code [(1, 0)] 0, .code [] 2]) (σ' := ⟨[(1, .ptr 1 0)], [(1, .box [.int .i64 a0, .list (.ints a1)])]⟩) rfl trivial rfl ?_
  obtain ⟨⟨v1, v2, v3⟩, hk1, h⟩ := bind_some h
  refine Tri.run 1 [.r ⟨[], .tuple [.int .i64 v1, .int .i64 v2, .bool v3], []⟩] [.keep [2, 3, 4] []] (K' := [.code [] 2]) (σ' := ⟨[(2, .int .i64 v1), (3, .int .i64 v2), (4, .bool v3)], []⟩) rfl ⟨(w_impl_fault_impl_SuperadditiveFault_1 a0 a1 a0 a1 (v1, v2, v3) hk1), trivial⟩ rfl ?_
  have h := Option.some.inj h
  subst h
  exact Tri.ret rfl ⟨.inl rfl, rfl, rfl⟩
/-! impl.IsSuperadditive -/
noncomputable def E_impl_IsSuperadditive : Env := ⟨Try.prog, tys, (Try.f29.body).getD .skip, 18, tysOk, mixedOk⟩
abbrev q_impl_IsSuperadditive (r : Bool) (σ' : ASt) : Prop := resAV E_impl_IsSuperadditive.T σ' Try.f29.results.toList = some (.bool r) ∧ keepO σ'.ob (namesO []) = []
noncomputable def m_impl_IsSuperadditive (a0 : Int) (a1 : List Int) : Option Bool :=
(m_impl_SuperadditiveFault a0 a1).bind fun (_, _, v3) =>
(m_impl_IsValidGame a0 a1).bind fun v4 =>
bif v4 then
(some (!v3))
else
(some false)
theorem w_impl_IsSuperadditive (a0 : Int) (a1 : List Int) (r : Bool) (h : m_impl_IsSuperadditive a0 a1 = some r) : AM.Spec Try.prog 29 [.agg [.int .i64 a0, .list (.ints a1)]] [] (.bool r) [] := by
  refine spec_of (E := E_impl_IsSuperadditive) Try.func29 rfl rfl rfl rfl ?_
  refine Tri.run 1 [] [.keep [1] [1]] (K' := [.code [(1, 0)] 0, .code [] 2]) (σ' := ⟨[(1, .ptr 1 0)], [(1, .box [.int .i64 a0, .list (.ints a1)])]⟩) rfl trivial rfl ?_
  obtain ⟨⟨v1, v2, v3⟩, hk1, h⟩ := bind_some h
  obtain ⟨v4, hk2, h⟩ := bind_some h
  rcases bif_some h with ⟨hd3, h⟩ | ⟨hd3, h⟩
  · refine Tri.run 2 [.r ⟨[], .tuple [.int .i64 v1, .int .i64 v2, .bool v3], []⟩, .r ⟨[], .bool v4, []⟩, .g true] [.keep [2] []] (K' := [.code [] 3]) (σ' := ⟨[(2, .bool (!v3))], []⟩) rfl ⟨hd3, (w_impl_IsValidGame a0 a1 v4 hk2), (w_impl_SuperadditiveFault a0 a1 (v1, v2, v3) hk1), trivial⟩ rfl ?_
    have h := Option.some.inj h
    subst h
    exact Tri.ret rfl ⟨.inl rfl, rfl, rfl⟩
  · refine Tri.run 2 [.r ⟨[], .tuple [.int .i64 v1, .int .i64 v2, .bool v3], []⟩, .r ⟨[], .bool v4, []⟩, .g false] [.keep [2] []] (K' := [.code [] 3]) (σ' := ⟨[(2, .bool false)], []⟩) rfl ⟨hd3, (w_impl_IsValidGame a0 a1 v4 hk2), (w_impl_SuperadditiveFault a0 a1 (v1, v2, v3) hk1), trivial⟩ rfl ?_
    have h := Option.some.inj h
    subst h
    exact Tri.ret rfl ⟨.inl rfl, rfl, rfl⟩
/-! laws.eqIntS -/
noncomputable def E_laws_eqIntS : Env := ⟨Try.prog, tys, (Try.f33.body).getD .skip, 26, tysOk, mixedOk⟩
abbrev q_laws_eqIntS (r : Bool) (σ' : ASt) : Prop := resAV E_laws_eqIntS.T σ' Try.f33.results.toList = some (.bool r) ∧ keepO σ'.ob (namesO []) = []
noncomputable def l_laws_eqIntS_0 (a0 : List Int) (a1 : List Int) (v1 : Int) : Option (Int ⊕ (Unit ⊕ Bool)) :=
bif decide (v1 < (a0.length : Int)) then
(grd ((0 : Int) ≤ v1 ∧ v1 < (a0.length : Int)) <|
grd ((0 : Int) ≤ v1 ∧ v1 < (a1.length : Int)) <|
bif (a0.getD v1.toNat 0) != (a1.getD v1.toNat 0) then
(some (.inr (.inr false)))
else
(some (.inl (IntKind.i64.wrap (v1 + (1 : Int))))))
else
(some (.inr (.inl ())))
noncomputable def m_laws_eqIntS (a0 : List Int) (a1 : List Int) : Option Bool :=
bif (a0.length : Int) != (a1.length : Int) then
(some false)
else
((iter (l_laws_eqIntS_0 a0 a1) (0 : Int)).bind fun
| (.inl _) => (
some true)
| (.inr r) => some r)
theorem w_laws_eqIntS (a0 : List Int) (a1 : List Int) (r : Bool) (h : m_laws_eqIntS a0 a1 = some r) : AM.Spec Try.prog 33 [.list (.ints a0), .list (.ints a1)] [] (.bool r) [] := by
  refine spec_of (E := E_laws_eqIntS) Try.func33 rfl rfl rfl rfl ?_
  refine Tri.run 2 [] [.keep [0, 1, 10] []] (K' := [.code [(1, 0)] 1, .code [] 2]) (σ' := ⟨[(0, .list (.ints a0)), (1, .list (.ints a1)), (10, .bool ((a0.length : Int) != (a1.length : Int)))], []⟩) rfl trivial rfl ?_
  rcases bif_some h with ⟨hd1, h⟩ | ⟨hd1, h⟩
  · refine Tri.run 2 [.g true] [.keep [4] []] (K' := [.code [(1, 0), (1, 0)] 1, .code [] 2]) (σ' := ⟨[(4, .bool false)], []⟩) rfl ⟨hd1, trivial⟩ rfl ?_
    have h := Option.some.inj h
    subst h
    exact Tri.ret rfl ⟨.inl rfl, rfl, rfl⟩
  · refine Tri.run 2 [.g false] [.keep [0, 1, 5] []] (K' := [.code [(2, 0), (1, 0)] 0, .blk 0, .code [] 3]) (σ' := ⟨[(0, .list (.ints a0)), (1, .list (.ints a1)), (5, .int .i64 (0 : Int))], []⟩) rfl ⟨hd1, trivial⟩ rfl ?_
    obtain ⟨x1, hk6, h⟩ := bind_some h
    refine Tri.loop (K1 := [.code [(2, 0), (1, 0), (0, 0)] 0]) (K2 := [.blk 0, .code [] 3]) (fun v1 => ⟨[(0, .list (.ints a0)), (1, .list (.ints a1)), (5, .int .i64 v1)], []⟩) (fun x e σ' => match x with | (.inl _) => e = .exit 0 ∧ σ' = ⟨[], []⟩ | (.inr r) => e = .ret ∧ q_laws_eqIntS r σ') hk6 rfl rfl ?_ ?_
    · intro v1 x hs
      clear h
      have h := hs
      clear hs
      refine Tri.run 1 [] [.keep [0, 1, 5, 14] []] (K' := [.code [(2, 0), (1, 0), (0, 0), (0, 0)] 1, .code [(2, 0), (1, 0), (0, 0)] 1]) (σ' := ⟨[(0, .list (.ints a0)), (1, .list (.ints a1)), (5, .int .i64 v1), (14, .bool (decide (v1 < (a0.length : Int))))], []⟩) rfl trivial rfl ?_
      rcases bif_some h with ⟨hd2, h⟩ | ⟨hd2, h⟩
      · obtain ⟨hg3, h⟩ := grd_some h
        obtain ⟨hg4, h⟩ := grd_some h
        refine Tri.run 2 [.g true] [.keep [0, 1, 5, 25] []] (K' := [.code [(2, 0), (1, 0), (0, 0), (1, 0), (0, 0)] 1, .blk 1, .code [(2, 0), (1, 0), (0, 0)] 2]) (σ' := ⟨[(0, .list (.ints a0)), (1, .list (.ints a1)), (5, .int .i64 v1), (25, .bool ((a0.getD v1.toNat 0) != (a1.getD v1.toNat 0)))], []⟩) rfl ⟨hg4, hg3, hd2, trivial⟩ rfl ?_
        rcases bif_some h with ⟨hd5, h⟩ | ⟨hd5, h⟩
        · refine Tri.run 2 [.g true] [.keep [4] []] (K' := [.code [(2, 0), (1, 0), (0, 0), (1, 0), (0, 0), (1, 0)] 1, .blk 1, .code [(2, 0), (1, 0), (0, 0)] 2]) (σ' := ⟨[(4, .bool false)], []⟩) rfl ⟨hd5, trivial⟩ rfl ?_
          have h := Option.some.inj h
          subst h
          exact Tri.ret rfl ⟨nofun, rfl, rfl, rfl⟩
        · refine Tri.run 2 [.g false] [.keep [0, 1, 5] []] (K' := []) (σ' := ⟨[(0, .list (.ints a0)), (1, .list (.ints a1)), (5, .int .i64 (IntKind.i64.wrap (v1 + (1 : Int))))], []⟩) rfl ⟨hd5, trivial⟩ rfl ?_
          have h := Option.some.inj h
          subst h
          exact Tri.nil ⟨rfl, rfl⟩
      · refine Tri.run 1 [.g false] [.keep [] []] (K' := [.code [(2, 0), (1, 0), (0, 0), (0, 0), (1, 1)] 0, .code [(2, 0), (1, 0), (0, 0)] 1]) (σ' := ⟨[], []⟩) rfl ⟨hd2, trivial⟩ rfl ?_
        have h := Option.some.inj h
        subst h
        exact Tri.out 0 rfl ⟨nofun, rfl, rfl⟩
    · intro e σ' hne hq
      rcases x1 with _ | r
      · obtain ⟨rfl, rfl⟩ := hq
        refine TriX.exit (K' := [.code [] 3]) rfl ?_
        refine Tri.run 1 [] [.keep [4] []] (K' := [.code [] 4]) (σ' := ⟨[(4, .bool true)], []⟩) rfl trivial rfl ?_
        have h := Option.some.inj h
        subst h
        exact Tri.ret rfl ⟨.inl rfl, rfl, rfl⟩
      · obtain ⟨rfl, hq⟩ := hq
        have h := Option.some.inj h
        subst h
        exact TriX.ret ⟨.inl rfl, hq⟩
/-! laws.eqGame -/
noncomputable def E_laws_eqGame : Env := ⟨Try.prog, tys, (Try.f19.body).getD .skip, 16, tysOk, mixedOk⟩
abbrev q_laws_eqGame (r : Bool) (σ' : ASt) : Prop := resAV E_laws_eqGame.T σ' Try.f19.results.toList = some (.bool r) ∧ keepO σ'.ob (namesO []) = []
noncomputable def m_laws_eqGame (a0 : Int) (a1 : List Int) (a2 : Int) (a3 : List Int) : Option Bool :=
bif a0 != a2 then
(some false)
else
((m_laws_eqIntS a1 a3).bind fun v1 =>
bif !v1 then
(some false)
else
(some true))
theorem w_laws_eqGame (a0 : Int) (a1 : List Int) (a2 : Int) (a3 : List Int) (r : Bool) (h : m_laws_eqGame a0 a1 a2 a3 = some r) : AM.Spec Try.prog 19 [.agg [.int .i64 a0, .list (.ints a1)], .agg [.int .i64 a2, .list (.ints a3)]] [] (.bool r) [] := by
  refine spec_of (E := E_laws_eqGame) Try.func19 rfl rfl rfl rfl ?_
  refine Tri.run 2 [] [.keep [2, 3, 9] [2, 3]] (K' := [.code [(1, 0)] 1, .code [] 2]) (σ' := ⟨[(2, .ptr 2 0), (3, .ptr 3 0), (9, .bool (a0 != a2))], [(2, .box [.int .i64 a0, .list (.ints a1)]), (3, .box [.int .i64 a2, .list (.ints a3)])]⟩) rfl trivial rfl ?_
  rcases bif_some h with ⟨hd1, h⟩ | ⟨hd1, h⟩
  · refine Tri.run 2 [.g true] [.keep [4] []] (K' := [.code [(1, 0), (1, 0)] 1, .code [] 2]) (σ' := ⟨[(4, .bool false)], []⟩) rfl ⟨hd1, trivial⟩ rfl ?_
    have h := Option.some.inj h
    subst h
    exact Tri.ret rfl ⟨.inl rfl, rfl, rfl⟩
  · obtain ⟨v1, hk2, h⟩ := bind_some h
    refine Tri.run 2 [.g false, .r ⟨[], .bool v1, []⟩] [.keep [15] []] (K' := [.code [(2, 0)] 1, .code [] 3]) (σ' := ⟨[(15, .bool (!v1))], []⟩) rfl ⟨(w_laws_eqIntS a1 a3 v1 hk2), hd1, trivial⟩ rfl ?_
    rcases bif_some h with ⟨hd3, h⟩ | ⟨hd3, h⟩
    · refine Tri.run 2 [.g true] [.keep [4] []] (K' := [.code [(2, 0), (1, 0)] 1, .code [] 3]) (σ' := ⟨[(4, .bool false)], []⟩) rfl ⟨hd3, trivial⟩ rfl ?_
      have h := Option.some.inj h
      subst h
      exact Tri.ret rfl ⟨.inl rfl, rfl, rfl⟩
    · refine Tri.run 2 [.g false] [.keep [4] []] (K' := [.code [] 4]) (σ' := ⟨[(4, .bool true)], []⟩) rfl ⟨hd3, trivial⟩ rfl ?_
      have h := Option.some.inj h
      subst h
      exact Tri.ret rfl ⟨.inl rfl, rfl, rfl⟩
/-! laws.FnExactIsSuperadditive -/
noncomputable def E_laws_FnExactIsSuperadditive : Env := ⟨Try.prog, tys, (Try.f8.body).getD .skip, 27, tysOk, mixedOk⟩
abbrev q_laws_FnExactIsSuperadditive (r : Bool) (σ' : ASt) : Prop := resAV E_laws_FnExactIsSuperadditive.T σ' Try.f8.results.toList = some (.bool r) ∧ keepO σ'.ob (namesO []) = []
noncomputable def m_laws_FnExactIsSuperadditive (a0 : Int) (a1 : List Int) : Option Bool :=
(m_laws_szGame a0 a1 (1048576 : Int)).bind fun v1 =>
bif decide (v1 < (0 : Int)) then
(some true)
else
((m_laws_toGame a0 a1).bind fun (v2, v3) =>
(m_spec_IsSuperadditive v2 v3).bind fun v4 =>
(m_laws_toGame a0 a1).bind fun (v5, v6) =>
(m_impl_IsSuperadditive v5 v6).bind fun v7 =>
bif v7 != v4 then
(some false)
else
((m_laws_toGame a0 a1).bind fun (v8, v9) =>
(m_laws_eqGame v5 v6 v8 v9).bind fun v10 =>
bif !v10 then
(some false)
else
(some true)))
theorem w_laws_FnExactIsSuperadditive (a0 : Int) (a1 : List Int) (r : Bool) (h : m_laws_FnExactIsSuperadditive a0 a1 = some r) : AM.Spec Try.prog 8 [.agg [.int .i64 a0, .list (.ints a1)]] [] (.bool r) [] := by
  refine spec_of (E := E_laws_FnExactIsSuperadditive) Try.func8 rfl rfl rfl rfl ?_
  refine Tri.run 2 [] [.keep [1, 3] [1]] (K' := [.code [(2, 0)] 0, .code [] 3]) (σ' := ⟨[(1, .ptr 1 0), (3, .int .i64 (1048576 : Int))], [(1, .box [.int .i64 a0, .list (.ints a1)])]⟩) rfl trivial rfl ?_
  obtain ⟨v1, hk1, h⟩ := bind_some h
  refine Tri.run 2 [.r ⟨[], .int .i64 v1, []⟩] [.keep [1, 11] [1]] (K' := [.code [(3, 0)] 1, .code [] 4]) (σ' := ⟨[(1, .ptr 1 0), (11, .bool (decide (v1 < (0 : Int))))], [(1, .box [.int .i64 a0, .list (.ints a1)])]⟩) rfl ⟨(w_laws_szGame a0 a1 (1048576 : Int) v1 hk1), trivial⟩ rfl ?_
  rcases bif_some h with ⟨hd2, h⟩ | ⟨hd2, h⟩
  · refine Tri.run 2 [.g true] [.keep [2] []] (K' := [.code [(3, 0), (1, 0)] 1, .code [] 4]) (σ' := ⟨[(2, .bool true)], []⟩) rfl ⟨hd2, trivial⟩ rfl ?_
    have h := Option.some.inj h
    subst h
    exact Tri.ret rfl ⟨.inl rfl, rfl, rfl⟩
  · obtain ⟨⟨v2, v3⟩, hk3, h⟩ := bind_some h
    obtain ⟨v4, hk4, h⟩ := bind_some h
    refine Tri.run 2 [.g false, .r ⟨[], .agg [.int .i64 v2, .sl 1100 0], [(1100, .arr 3 0 0 (.ints v3))]⟩, .r ⟨[], .bool v4, []⟩] [.keep [1, 4] [1]] (K' := [.code [(5, 0)] 0, .code [] 6]) (σ' := ⟨[(1, .ptr 1 0), (4, .bool v4)], [(1, .box [.int .i64 a0, .list (.ints a1)])]⟩) rfl ⟨(w_spec_IsSuperadditive v2 v3 v4 hk4), ((w_laws_toGame a0 a1 (v2, v3) hk3).swap 1000 1100), hd2, trivial⟩ rfl ?_
    obtain ⟨⟨v5, v6⟩, hk5, h⟩ := bind_some h
    obtain ⟨v7, hk6, h⟩ := bind_some h
    refine Tri.run 3 [.r ⟨[], .agg [.int .i64 v5, .sl 1101 0], [(1101, .arr 3 0 0 (.ints v6))]⟩, .r ⟨[], .bool v7, []⟩] [.keep [1, 5, 21] [1, 5, 1101]] (K' := [.code [(7, 0)] 1, .code [] 8]) (σ' := ⟨[(1, .ptr 1 0), (5, .ptr 5 0), (21, .bool (v7 != v4))], [(1, .box [.int .i64 a0, .list (.ints a1)]), (5, .box [.int .i64 v5, .sl 1101 0]), (1101, .arr 3 0 0 (.ints v6))]⟩) rfl ⟨(w_impl_IsSuperadditive v5 v6 v7 hk6), ((w_laws_toGame a0 a1 (v5, v6) hk5).swap 1000 1101), trivial⟩ rfl ?_
    rcases bif_some h with ⟨hd7, h⟩ | ⟨hd7, h⟩
    · refine Tri.run 2 [.g true] [.keep [2] []] (K' := [.code [(7, 0), (1, 0)] 1, .code [] 8]) (σ' := ⟨[(2, .bool false)], []⟩) rfl ⟨hd7, trivial⟩ rfl ?_
      have h := Option.some.inj h
      subst h
      exact Tri.ret rfl ⟨.inl rfl, rfl, rfl⟩
    · obtain ⟨⟨v8, v9⟩, hk8, h⟩ := bind_some h
      obtain ⟨v10, hk9, h⟩ := bind_some h
      refine Tri.run 2 [.g false, .r ⟨[], .agg [.int .i64 v8, .sl 1102 0], [(1102, .arr 3 0 0 (.ints v9))]⟩, .r ⟨[], .bool v10, []⟩] [.keep [26] []] (K' := [.code [(8, 0)] 1, .code [] 9]) (σ' := ⟨[(26, .bool (!v10))], []⟩) rfl ⟨(w_laws_eqGame v5 v6 v8 v9 v10 hk9), ((w_laws_toGame a0 a1 (v8, v9) hk8).swap 1000 1102), hd7, trivial⟩ rfl ?_
      rcases bif_some h with ⟨hd10, h⟩ | ⟨hd10, h⟩
      · refine Tri.run 2 [.g true] [.keep [2] []] (K' := [.code [(8, 0), (1, 0)] 1, .code [] 9]) (σ' := ⟨[(2, .bool false)], []⟩) rfl ⟨hd10, trivial⟩ rfl ?_
        have h := Option.some.inj h
        subst h
        exact Tri.ret rfl ⟨.inl rfl, rfl, rfl⟩
      · refine Tri.run 2 [.g false] [.keep [2] []] (K' := [.code [] 10]) (σ' := ⟨[(2, .bool true)], []⟩) rfl ⟨hd10, trivial⟩ rfl ?_
        have h := Option.some.inj h
        subst h
        exact Tri.ret rfl ⟨.inl rfl, rfl, rfl⟩
end Go.Proofs.Ytdobcjgdhgfedaa
