/- models and walks -/
import Derived.Test.YtdobcjgdhgfedaaProg
import Derived.Test.YtdobcjgdhgfedaaAmB
namespace Go.Proofs.Ytdobcjgdhgfedaa
open Go.AM
set_option maxRecDepth 100000
set_option maxHeartbeats 4000000
noncomputable def tys : TEnv := [(3, .int .i64),
  (4, .bool),
  (22, .slice 3 (.ints [])),
  (24, .struct [(0, 3), (1, 22)] [.int .i64 0, .nil (.ints [])] false),
  (28, .struct [(0, 3), (1, 22)] [.int .i64 0, .nil (.ints [])] false)]
theorem tysOk : TOk Try.prog tys := tok_of (by kernel_rfl)
theorem mixedOk : Try.prog.follows .mixedOrders = true := by kernel_rfl
/-! laws.szIntS -/
noncomputable def E_laws_szIntS : Env := ⟨Try.prog, tys, (Try.f54.body).getD .skip, 12, tysOk, mixedOk⟩
abbrev q_laws_szIntS (r : Int) (σ' : ASt) : Prop := resAV E_laws_szIntS.T σ' Try.f54.results.toList = some (.int .i64 r) ∧ keepO σ'.ob (namesO []) = []
noncomputable def m_laws_szIntS (a0 : List Int) (a1 : Int) : Option Int :=
bif decide ((IntKind.i64.wrap (a1 - (a0.length : Int))) < (0 : Int)) then
(some (-1 : Int))
else
(some (IntKind.i64.wrap (a1 - (a0.length : Int))))
theorem w_laws_szIntS (a0 : List Int) (a1 : Int) (r : Int) (h : m_laws_szIntS a0 a1 = some r) : AM.Spec Try.prog 54 [.list (.ints a0), .int .i64 a1] [] (.int .i64 r) [] := by
  refine spec_of (E := E_laws_szIntS) Try.func54 rfl rfl rfl rfl ?_
  refine Tri.run 3 [] [.keep [1, 10] []] (K' := [.code [(2, 0)] 1, .code [] 3]) (σ' := ⟨[(1, .int .i64 (IntKind.i64.wrap (a1 - (a0.length : Int)))), (10, .bool (decide ((IntKind.i64.wrap (a1 - (a0.length : Int))) < (0 : Int))))], []⟩) rfl trivial rfl ?_
  rcases bif_some h with ⟨hd1, h⟩ | ⟨hd1, h⟩
  · refine Tri.run 2 [.g true] [.keep [4] []] (K' := [.code [(2, 0), (1, 0)] 1, .code [] 3]) (σ' := ⟨[(4, .int .i64 (-1 : Int))], []⟩) rfl ⟨hd1, trivial⟩ rfl ?_
    have h := Option.some.inj h
    subst h
    exact Tri.ret rfl ⟨.inl rfl, rfl, rfl⟩
  · refine Tri.run 2 [.g false] [.keep [4] []] (K' := [.code [] 4]) (σ' := ⟨[(4, .int .i64 (IntKind.i64.wrap (a1 - (a0.length : Int))))], []⟩) rfl ⟨hd1, trivial⟩ rfl ?_
    have h := Option.some.inj h
    subst h
    exact Tri.ret rfl ⟨.inl rfl, rfl, rfl⟩
/-! laws.szGame -/
noncomputable def E_laws_szGame : Env := ⟨Try.prog, tys, (Try.f15.body).getD .skip, 12, tysOk, mixedOk⟩
abbrev q_laws_szGame (r : Int) (σ' : ASt) : Prop := resAV E_laws_szGame.T σ' Try.f15.results.toList = some (.int .i64 r) ∧ keepO σ'.ob (namesO []) = []
noncomputable def m_laws_szGame (_a0 : Int) (a1 : List Int) (a2 : Int) : Option Int :=
(m_laws_szIntS a1 a2).bind fun v1 =>
bif decide (v1 < (0 : Int)) then
(some (-1 : Int))
else
(some v1)
theorem w_laws_szGame (a0 : Int) (a1 : List Int) (a2 : Int) (r : Int) (h : m_laws_szGame a0 a1 a2 = some r) : AM.Spec Try.prog 15 [.agg [.int .i64 a0, .list (.ints a1)], .int .i64 a2] [] (.int .i64 r) [] := by
  refine spec_of (E := E_laws_szGame) Try.func15 rfl rfl rfl rfl ?_
  refine Tri.run 1 [] [.keep [1, 2] [2]] (K' := [.code [(1, 0)] 0, .code [] 2]) (σ' := ⟨[(1, .int .i64 a2), (2, .ptr 2 0)], [(2, .box [.int .i64 a0, .list (.ints a1)])]⟩) rfl trivial rfl ?_
  obtain ⟨v1, hk1, h⟩ := bind_some h
  refine Tri.run 2 [.r ⟨[], .int .i64 v1, []⟩] [.keep [1, 10] []] (K' := [.code [(2, 0)] 1, .code [] 3]) (σ' := ⟨[(1, .int .i64 v1), (10, .bool (decide (v1 < (0 : Int))))], []⟩) rfl ⟨(w_laws_szIntS a1 a2 v1 hk1), trivial⟩ rfl ?_
  rcases bif_some h with ⟨hd2, h⟩ | ⟨hd2, h⟩
  · refine Tri.run 2 [.g true] [.keep [4] []] (K' := [.code [(2, 0), (1, 0)] 1, .code [] 3]) (σ' := ⟨[(4, .int .i64 (-1 : Int))], []⟩) rfl ⟨hd2, trivial⟩ rfl ?_
    have h := Option.some.inj h
    subst h
    exact Tri.ret rfl ⟨.inl rfl, rfl, rfl⟩
  · refine Tri.run 2 [.g false] [.keep [4] []] (K' := [.code [] 4]) (σ' := ⟨[(4, .int .i64 v1)], []⟩) rfl ⟨hd2, trivial⟩ rfl ?_
    have h := Option.some.inj h
    subst h
    exact Tri.ret rfl ⟨.inl rfl, rfl, rfl⟩
/-! laws.toIntS -/
noncomputable def E_laws_toIntS : Env := ⟨Try.prog, tys, (Try.f31.body).getD .skip, 22, tysOk, mixedOk⟩
abbrev q_laws_toIntS (r : List Int) (σ' : ASt) : Prop := resAV E_laws_toIntS.T σ' Try.f31.results.toList = some (.sl 1000 0) ∧ keepO σ'.ob (namesO [(1000, .arr 3 0 0 (.ints r))]) = [(1000, .arr 3 0 0 (.ints r))]
noncomputable def l_laws_toIntS_0 (a0 : List Int) : (Int × (List Int)) → Option ((Int × (List Int)) ⊕ ((List Int)))
  | (v1, v2) => (
bif decide (v1 < (a0.length : Int)) then
(grd ((0 : Int) ≤ v1 ∧ v1 < (a0.length : Int)) <|
grd ((0 : Int) ≤ v1 ∧ v1 < (v2.length : Int)) <|
some (.inl (IntKind.i64.wrap (v1 + (1 : Int)), v2.set v1.toNat (a0.getD v1.toNat 0))))
else
(some (.inr v2)))
noncomputable def m_laws_toIntS (a0 : List Int) : Option (List Int) :=
grd ((0 : Int) ≤ (a0.length : Int) ∧ (a0.length : Int) = (a0.length : Int) ∧ (a0.length : Int) ≤ (room : Int)) <|
(iter (l_laws_toIntS_0 a0) ((0 : Int), List.replicate (a0.length : Int).toNat (0 : Int))).bind fun
| v3 => (
some v3)
theorem w_laws_toIntS (a0 : List Int) (r : List Int) (h : m_laws_toIntS a0 = some r) : AM.Spec Try.prog 31 [.list (.ints a0)] [] (.sl 1000 0) [(1000, .arr 3 0 0 (.ints r))] := by
  refine spec_of (E := E_laws_toIntS) Try.func31 rfl rfl rfl rfl ?_
  obtain ⟨hg1, h⟩ := grd_some h
  refine Tri.run 3 [] [.keep [0, 3, 4] [7]] (K' := [.code [(2, 0), (1, 0)] 0, .blk 0, .code [] 3]) (σ' := ⟨[(0, .list (.ints a0)), (3, .sl 7 0), (4, .int .i64 (0 : Int))], [(7, .arr 3 0 0 (.ints (List.replicate (a0.length : Int).toNat (0 : Int))))]⟩) rfl ⟨hg1, trivial⟩ rfl ?_
  obtain ⟨v3, hk5, h⟩ := bind_some h
  refine Tri.loop (K1 := [.code [(2, 0), (1, 0), (0, 0)] 0]) (K2 := [.blk 0, .code [] 3]) (fun (v1, v2) => ⟨[(0, .list (.ints a0)), (3, .sl 7 0), (4, .int .i64 v1)], [(7, .arr 3 0 0 (.ints v2))]⟩) (fun x e σ' => match x with | v3 => e = .exit 0 ∧ σ' = ⟨[(3, .sl 7 0)], [(7, .arr 3 0 0 (.ints v3))]⟩) hk5 rfl rfl ?_ ?_
  · intro s x hs
    clear h
    have h := hs
    clear hs
    obtain ⟨v1, v2⟩ := s
    refine Tri.run 1 [] [.keep [0, 3, 4, 11] [7]] (K' := [.code [(2, 0), (1, 0), (0, 0), (0, 0)] 1, .code [(2, 0), (1, 0), (0, 0)] 1]) (σ' := ⟨[(0, .list (.ints a0)), (3, .sl 7 0), (4, .int .i64 v1), (11, .bool (decide (v1 < (a0.length : Int))))], [(7, .arr 3 0 0 (.ints v2))]⟩) rfl trivial rfl ?_
    rcases bif_some h with ⟨hd2, h⟩ | ⟨hd2, h⟩
    · obtain ⟨hg3, h⟩ := grd_some h
      obtain ⟨hg4, h⟩ := grd_some h
      refine Tri.run 3 [.g true] [.keep [0, 3, 4] [7]] (K' := []) (σ' := ⟨[(0, .list (.ints a0)), (3, .sl 7 0), (4, .int .i64 (IntKind.i64.wrap (v1 + (1 : Int))))], [(7, .arr 3 0 0 (.ints (v2.set v1.toNat (a0.getD v1.toNat 0))))]⟩) rfl ⟨hg4, hg3, hd2, trivial⟩ rfl ?_
      have h := Option.some.inj h
      subst h
      exact Tri.nil ⟨rfl, rfl⟩
    · refine Tri.run 1 [.g false] [.keep [3] [7]] (K' := [.code [(2, 0), (1, 0), (0, 0), (0, 0), (1, 1)] 0, .code [(2, 0), (1, 0), (0, 0)] 1]) (σ' := ⟨[(3, .sl 7 0)], [(7, .arr 3 0 0 (.ints v2))]⟩) rfl ⟨hd2, trivial⟩ rfl ?_
      have h := Option.some.inj h
      subst h
      exact Tri.out 0 rfl ⟨nofun, rfl, rfl⟩
  · intro e σ' hne hq
    obtain ⟨rfl, rfl⟩ := hq
    refine TriX.exit (K' := [.code [] 3]) rfl ?_
    refine Tri.run 1 [] [.swap 7 1000, .keep [2] [1000]] (K' := [.code [] 4]) (σ' := ⟨[(2, .sl 1000 0)], [(1000, .arr 3 0 0 (.ints v3))]⟩) rfl trivial rfl ?_
    have h := Option.some.inj h
    subst h
    exact Tri.ret rfl ⟨.inl rfl, rfl, rfl⟩
/-! laws.toGame -/
noncomputable def E_laws_toGame : Env := ⟨Try.prog, tys, (Try.f17.body).getD .skip, 12, tysOk, mixedOk⟩
abbrev q_laws_toGame (r : Int × (List Int)) (σ' : ASt) : Prop := resAV E_laws_toGame.T σ' Try.f17.results.toList = some (.agg [.int .i64 r.1, .sl 1000 0]) ∧ keepO σ'.ob (namesO [(1000, .arr 3 0 0 (.ints r.2))]) = [(1000, .arr 3 0 0 (.ints r.2))]
noncomputable def m_laws_toGame (a0 : Int) (a1 : List Int) : Option (Int × (List Int)) :=
(m_laws_toIntS a1).bind fun v1 =>
some (a0, v1)
theorem w_laws_toGame (a0 : Int) (a1 : List Int) (r : Int × (List Int)) (h : m_laws_toGame a0 a1 = some r) : AM.Spec Try.prog 17 [.agg [.int .i64 a0, .list (.ints a1)]] [] (.agg [.int .i64 r.1, .sl 1000 0]) [(1000, .arr 3 0 0 (.ints r.2))] := by
  refine spec_of (E := E_laws_toGame) Try.func17 rfl rfl rfl rfl ?_
  refine Tri.run 3 [] [.keep [1, 2, 3] [1, 2, 3]] (K' := [.code [(3, 0)] 0, .code [] 4]) (σ' := ⟨[(1, .ptr 1 0), (2, .ptr 2 0), (3, .ptr 3 0)], [(1, .box [.int .i64 a0, .list (.ints a1)]), (2, .box [.int .i64 0, .nil (.ints [])]), (3, .box [.int .i64 a0, .nil (.ints [])])]⟩) rfl trivial rfl ?_
  obtain ⟨v1, hk1, h⟩ := bind_some h
  refine Tri.run 2 [.r ⟨[], .sl 1100 0, [(1100, .arr 3 0 0 (.ints v1))]⟩] [.swap 1100 1000, .keep [2] [2, 1000]] (K' := [.code [] 5]) (σ' := ⟨[(2, .ptr 2 0)], [(2, .box [.int .i64 a0, .sl 1000 0]), (1000, .arr 3 0 0 (.ints v1))]⟩) rfl ⟨((w_laws_toIntS a1 v1 hk1).swap 1000 1100), trivial⟩ rfl ?_
  have h := Option.some.inj h
  subst h
  exact Tri.ret rfl ⟨.inl rfl, rfl, rfl⟩
/-! spec.l1In -/
noncomputable def E_spec_l1In : Env := ⟨Try.prog, tys, (Try.f62.body).getD .skip, 15, tysOk, mixedOk⟩
abbrev q_spec_l1In (r : Bool) (σ' : ASt) : Prop := resAV E_spec_l1In.T σ' Try.f62.results.toList = some (.bool r) ∧ keepO σ'.ob (namesO []) = []
noncomputable def m_spec_l1In (a0 : Int) (a1 : Int) (a2 : Int) : Option Bool :=
bif decide (a0 ≥ a1) then
(some (decide (a0 ≤ a2)))
else
(some false)
theorem w_spec_l1In (a0 : Int) (a1 : Int) (a2 : Int) (r : Bool) (h : m_spec_l1In a0 a1 a2 = some r) : AM.Spec Try.prog 62 [.int .i64 a0, .int .i64 a1, .int .i64 a2] [] (.bool r) [] := by
  refine spec_of (E := E_spec_l1In) Try.func62 rfl rfl rfl rfl ?_
  refine Tri.run 1 [] [.keep [0, 1, 2] []] (K' := [.code [(1, 0)] 0, .code [] 2]) (σ' := ⟨[(0, .int .i64 a0), (1, .int .i64 a1), (2, .int .i64 a2)], []⟩) rfl trivial rfl ?_
  rcases bif_some h with ⟨hd1, h⟩ | ⟨hd1, h⟩
  · refine Tri.run 1 [.g true] [.keep [6] []] (K' := [.code [] 2]) (σ' := ⟨[(6, .bool (decide (a0 ≤ a2)))], []⟩) rfl ⟨hd1, trivial⟩ rfl ?_
    have h := Option.some.inj h
    subst h
    exact Tri.ret rfl ⟨.inl rfl, rfl, rfl⟩
  · refine Tri.run 1 [.g false] [.keep [6] []] (K' := [.code [] 2]) (σ' := ⟨[(6, .bool false)], []⟩) rfl ⟨hd1, trivial⟩ rfl ?_
    have h := Option.some.inj h
    subst h
    exact Tri.ret rfl ⟨.inl rfl, rfl, rfl⟩
/-! spec.CountCoalitions -/
noncomputable def E_spec_CountCoalitions : Env := ⟨Try.prog, tys, (Try.f63.body).getD .skip, 16, tysOk, mixedOk⟩
abbrev q_spec_CountCoalitions (r : Int) (σ' : ASt) : Prop := resAV E_spec_CountCoalitions.T σ' Try.f63.results.toList = some (.int .i64 r) ∧ keepO σ'.ob (namesO []) = []
noncomputable def l_spec_CountCoalitions_0 (a0 : Int) : (Int × Int) → Option ((Int × Int) ⊕ Int)
  | (v2, v3) => (
bif decide (v3 < a0) then
(some (.inl (IntKind.i64.wrap (v2 * (2 : Int)), IntKind.i64.wrap (v3 + (1 : Int)))))
else
(some (.inr v2)))
noncomputable def m_spec_CountCoalitions (a0 : Int) : Option Int :=
(m_spec_l1In a0 (0 : Int) (5 : Int)).bind fun v1 =>
bif !v1 then
(some (0 : Int))
else
((iter (l_spec_CountCoalitions_0 a0) ((1 : Int), (0 : Int))).bind fun
| v4 => (
some v4))
theorem w_spec_CountCoalitions (a0 : Int) (r : Int) (h : m_spec_CountCoalitions a0 = some r) : AM.Spec Try.prog 63 [.int .i64 a0] [] (.int .i64 r) [] := by
  refine spec_of (E := E_spec_CountCoalitions) Try.func63 rfl rfl rfl rfl ?_
  refine Tri.run 1 [] [.keep [0] []] (K' := [.code [(1, 0), (0, 0)] 0, .code [(1, 0)] 1, .code [] 2]) (σ' := ⟨[(0, .int .i64 a0)], []⟩) rfl trivial rfl ?_
  obtain ⟨v1, hk1, h⟩ := bind_some h
  refine Tri.run 1 [.r ⟨[], .bool v1, []⟩] [.keep [0, 7] []] (K' := [.code [(1, 0)] 1, .code [] 2]) (σ' := ⟨[(0, .int .i64 a0), (7, .bool (!v1))], []⟩) rfl ⟨(w_spec_l1In a0 (0 : Int) (5 : Int) v1 hk1), trivial⟩ rfl ?_
  rcases bif_some h with ⟨hd2, h⟩ | ⟨hd2, h⟩
  · refine Tri.run 2 [.g true] [.keep [2] []] (K' := [.code [(1, 0), (1, 0)] 1, .code [] 2]) (σ' := ⟨[(2, .int .i64 (0 : Int))], []⟩) rfl ⟨hd2, trivial⟩ rfl ?_
    have h := Option.some.inj h
    subst h
    exact Tri.ret rfl ⟨.inl rfl, rfl, rfl⟩
  · refine Tri.run 3 [.g false] [.keep [0, 3, 4] []] (K' := [.code [(3, 0), (1, 0)] 0, .blk 0, .code [] 4]) (σ' := ⟨[(0, .int .i64 a0), (3, .int .i64 (1 : Int)), (4, .int .i64 (0 : Int))], []⟩) rfl ⟨hd2, trivial⟩ rfl ?_
    obtain ⟨v4, hk4, h⟩ := bind_some h
    refine Tri.loop (K1 := [.code [(3, 0), (1, 0), (0, 0)] 0]) (K2 := [.blk 0, .code [] 4]) (fun (v2, v3) => ⟨[(0, .int .i64 a0), (3, .int .i64 v2), (4, .int .i64 v3)], []⟩) (fun x e σ' => match x with | v4 => e = .exit 0 ∧ σ' = ⟨[(3, .int .i64 v4)], []⟩) hk4 rfl rfl ?_ ?_
    · intro s x hs
      clear h
      have h := hs
      clear hs
      obtain ⟨v2, v3⟩ := s
      refine Tri.run 1 [] [.keep [0, 3, 4, 10] []] (K' := [.code [(3, 0), (1, 0), (0, 0), (0, 0)] 1, .code [(3, 0), (1, 0), (0, 0)] 1]) (σ' := ⟨[(0, .int .i64 a0), (3, .int .i64 v2), (4, .int .i64 v3), (10, .bool (decide (v3 < a0)))], []⟩) rfl trivial rfl ?_
      rcases bif_some h with ⟨hd3, h⟩ | ⟨hd3, h⟩
      · refine Tri.run 3 [.g true] [.keep [0, 3, 4] []] (K' := []) (σ' := ⟨[(0, .int .i64 a0), (3, .int .i64 (IntKind.i64.wrap (v2 * (2 : Int)))), (4, .int .i64 (IntKind.i64.wrap (v3 + (1 : Int))))], []⟩) rfl ⟨hd3, trivial⟩ rfl ?_
        have h := Option.some.inj h
        subst h
        exact Tri.nil ⟨rfl, rfl⟩
      · refine Tri.run 1 [.g false] [.keep [3] []] (K' := [.code [(3, 0), (1, 0), (0, 0), (0, 0), (1, 1)] 0, .code [(3, 0), (1, 0), (0, 0)] 1]) (σ' := ⟨[(3, .int .i64 v2)], []⟩) rfl ⟨hd3, trivial⟩ rfl ?_
        have h := Option.some.inj h
        subst h
        exact Tri.out 0 rfl ⟨nofun, rfl, rfl⟩
    · intro e σ' hne hq
      obtain ⟨rfl, rfl⟩ := hq
      refine TriX.exit (K' := [.code [] 4]) rfl ?_
      refine Tri.run 1 [] [.keep [2] []] (K' := [.code [] 5]) (σ' := ⟨[(2, .int .i64 v4)], []⟩) rfl trivial rfl ?_
      have h := Option.some.inj h
      subst h
      exact Tri.ret rfl ⟨.inl rfl, rfl, rfl⟩
/-! spec.IsValidGame -/
noncomputable def E_spec_IsValidGame : Env := ⟨Try.prog, tys, (Try.f65.body).getD .skip, 37, tysOk, mixedOk⟩
abbrev q_spec_IsValidGame (r : Bool) (σ' : ASt) : Prop := resAV E_spec_IsValidGame.T σ' Try.f65.results.toList = some (.bool r) ∧ keepO σ'.ob (namesO []) = []
noncomputable def l_spec_IsValidGame_0 (a1 : List Int) (v1 : Int) : Option (Int ⊕ (Unit ⊕ Bool)) :=
bif decide (v1 < (a1.length : Int)) then
(grd ((0 : Int) ≤ v1 ∧ v1 < (a1.length : Int)) <|
(m_spec_l1In (a1.getD v1.toNat 0) (-500 : Int) (500 : Int)).bind fun v2 =>
bif !v2 then
(some (.inr (.inr false)))
else
(some (.inl (IntKind.i64.wrap (v1 + (1 : Int))))))
else
(some (.inr (.inl ())))
noncomputable def m_spec_IsValidGame (a0 : Int) (a1 : List Int) : Option Bool :=
(iter (l_spec_IsValidGame_0 a1) (0 : Int)).bind fun
| (.inl _) => (
(m_spec_l1In a0 (1 : Int) (5 : Int)).bind fun v3 =>
bif v3 then
((m_spec_CountCoalitions a0).bind fun v4 =>
bif (a1.length : Int) == v4 then
(grd ((0 : Int) ≤ (0 : Int) ∧ (0 : Int) < (a1.length : Int)) <|
some ((a1.getD ((0 : Int).toNat) 0) == (0 : Int)))
else
(some false))
else
(some false))
| (.inr r) => some r
theorem w_spec_IsValidGame (a0 : Int) (a1 : List Int) (r : Bool) (h : m_spec_IsValidGame a0 a1 = some r) : AM.Spec Try.prog 65 [.agg [.int .i64 a0, .list (.ints a1)]] [] (.bool r) [] := by
  refine spec_of (E := E_spec_IsValidGame) Try.func65 rfl rfl rfl rfl ?_
  refine Tri.run 2 [] [.keep [1, 3] [1]] (K' := [.code [(1, 0), (1, 0)] 0, .blk 0, .code [] 2]) (σ' := ⟨[(1, .ptr 1 0), (3, .int .i64 (0 : Int))], [(1, .box [.int .i64 a0, .list (.ints a1)])]⟩) rfl trivial rfl ?_
  obtain ⟨x1, hk5, h⟩ := bind_some h
  refine Tri.loop (K1 := [.code [(1, 0), (1, 0), (0, 0)] 0]) (K2 := [.blk 0, .code [] 2]) (fun v1 => ⟨[(1, .ptr 1 0), (3, .int .i64 v1)], [(1, .box [.int .i64 a0, .list (.ints a1)])]⟩) (fun x e σ' => match x with | (.inl _) => e = .exit 0 ∧ σ' = ⟨[(1, .ptr 1 0)], [(1, .box [.int .i64 a0, .list (.ints a1)])]⟩ | (.inr r) => e = .ret ∧ q_spec_IsValidGame r σ') hk5 rfl rfl ?_ ?_
  · intro v1 x hs
    clear h
    have h := hs
    clear hs
    refine Tri.run 1 [] [.keep [1, 3, 8] [1]] (K' := [.code [(1, 0), (1, 0), (0, 0), (0, 0)] 1, .code [(1, 0), (1, 0), (0, 0)] 1]) (σ' := ⟨[(1, .ptr 1 0), (3, .int .i64 v1), (8, .bool (decide (v1 < (a1.length : Int))))], [(1, .box [.int .i64 a0, .list (.ints a1)])]⟩) rfl trivial rfl ?_
    rcases bif_some h with ⟨hd1, h⟩ | ⟨hd1, h⟩
    · obtain ⟨hg2, h⟩ := grd_some h
      obtain ⟨v2, hk3, h⟩ := bind_some h
      refine Tri.run 2 [.g true, .r ⟨[], .bool v2, []⟩] [.keep [1, 3, 17] [1]] (K' := [.code [(1, 0), (1, 0), (0, 0), (1, 0), (0, 0)] 1, .blk 1, .code [(1, 0), (1, 0), (0, 0)] 2]) (σ' := ⟨[(1, .ptr 1 0), (3, .int .i64 v1), (17, .bool (!v2))], [(1, .box [.int .i64 a0, .list (.ints a1)])]⟩) rfl ⟨(w_spec_l1In (a1.getD v1.toNat 0) (-500 : Int) (500 : Int) v2 hk3), hg2, hd1, trivial⟩ rfl ?_
      rcases bif_some h with ⟨hd4, h⟩ | ⟨hd4, h⟩
      · refine Tri.run 2 [.g true] [.keep [2] []] (K' := [.code [(1, 0), (1, 0), (0, 0), (1, 0), (0, 0), (1, 0)] 1, .blk 1, .code [(1, 0), (1, 0), (0, 0)] 2]) (σ' := ⟨[(2, .bool false)], []⟩) rfl ⟨hd4, trivial⟩ rfl ?_
        have h := Option.some.inj h
        subst h
        exact Tri.ret rfl ⟨nofun, rfl, rfl, rfl⟩
      · refine Tri.run 2 [.g false] [.keep [1, 3] [1]] (K' := []) (σ' := ⟨[(1, .ptr 1 0), (3, .int .i64 (IntKind.i64.wrap (v1 + (1 : Int))))], [(1, .box [.int .i64 a0, .list (.ints a1)])]⟩) rfl ⟨hd4, trivial⟩ rfl ?_
        have h := Option.some.inj h
        subst h
        exact Tri.nil ⟨rfl, rfl⟩
    · refine Tri.run 1 [.g false] [.keep [1] [1]] (K' := [.code [(1, 0), (1, 0), (0, 0), (0, 0), (1, 1)] 0, .code [(1, 0), (1, 0), (0, 0)] 1]) (σ' := ⟨[(1, .ptr 1 0)], [(1, .box [.int .i64 a0, .list (.ints a1)])]⟩) rfl ⟨hd1, trivial⟩ rfl ?_
      have h := Option.some.inj h
      subst h
      exact Tri.out 0 rfl ⟨nofun, rfl, rfl⟩
  · intro e σ' hne hq
    rcases x1 with _ | r
    · obtain ⟨rfl, rfl⟩ := hq
      refine TriX.exit (K' := [.code [] 2]) rfl ?_
      obtain ⟨v3, hk6, h⟩ := bind_some h
      rcases bif_some h with ⟨hd7, h⟩ | ⟨hd7, h⟩
      · obtain ⟨v4, hk8, h⟩ := bind_some h
        rcases bif_some h with ⟨hd9, h⟩ | ⟨hd9, h⟩
        · obtain ⟨hg10, h⟩ := grd_some h
          refine Tri.run 1 [.r ⟨[], .bool v3, []⟩, .g true, .r ⟨[], .int .i64 v4, []⟩, .g true] [.keep [2] []] (K' := [.code [] 3]) (σ' := ⟨[(2, .bool ((a1.getD ((0 : Int).toNat) 0) == (0 : Int)))], []⟩) rfl ⟨hg10, hd9, (w_spec_CountCoalitions a0 v4 hk8), hd7, (w_spec_l1In a0 (1 : Int) (5 : Int) v3 hk6), trivial⟩ rfl ?_
          have h := Option.some.inj h
          subst h
          exact Tri.ret rfl ⟨.inl rfl, rfl, rfl⟩
        · refine Tri.run 1 [.r ⟨[], .bool v3, []⟩, .g true, .r ⟨[], .int .i64 v4, []⟩, .g false] [.keep [2] []] (K' := [.code [] 3]) (σ' := ⟨[(2, .bool false)], []⟩) rfl ⟨hd9, (w_spec_CountCoalitions a0 v4 hk8), hd7, (w_spec_l1In a0 (1 : Int) (5 : Int) v3 hk6), trivial⟩ rfl ?_
          have h := Option.some.inj h
          subst h
          exact Tri.ret rfl ⟨.inl rfl, rfl, rfl⟩
      · refine Tri.run 1 [.r ⟨[], .bool v3, []⟩, .g false, .g false] [.keep [2] []] (K' := [.code [] 3]) (σ' := ⟨[(2, .bool false)], []⟩) rfl ⟨rfl, hd7, (w_spec_l1In a0 (1 : Int) (5 : Int) v3 hk6), trivial⟩ rfl ?_
        have h := Option.some.inj h
        subst h
        exact Tri.ret rfl ⟨.inl rfl, rfl, rfl⟩
    · obtain ⟨rfl, hq⟩ := hq
      have h := Option.some.inj h
      subst h
      exact TriX.ret ⟨.inl rfl, hq⟩
/-! spec.l8Copy -/
noncomputable def E_spec_l8Copy : Env := ⟨Try.prog, tys, (Try.f71.body).getD .skip, 10, tysOk, mixedOk⟩
abbrev q_spec_l8Copy (r : Int × (List Int)) (σ' : ASt) : Prop := resAV E_spec_l8Copy.T σ' Try.f71.results.toList = some (.agg [.int .i64 r.1, .sl 1000 0]) ∧ keepO σ'.ob (namesO [(1000, .arr 3 0 0 (.ints r.2))]) = [(1000, .arr 3 0 0 (.ints r.2))]
noncomputable def m_spec_l8Copy (a0 : Int) (a1 : List Int) : Option (Int × (List Int)) :=
grd (([] : List Int).length + a1.length ≤ room) <|
some (a0, [] ++ a1)
theorem w_spec_l8Copy (a0 : Int) (a1 : List Int) (r : Int × (List Int)) (h : m_spec_l8Copy a0 a1 = some r) : AM.Spec Try.prog 71 [.agg [.int .i64 a0, .list (.ints a1)]] [] (.agg [.int .i64 r.1, .sl 1000 0]) [(1000, .arr 3 0 0 (.ints r.2))] := by
  refine spec_of (E := E_spec_l8Copy) Try.func71 rfl rfl rfl rfl ?_
  obtain ⟨hg1, h⟩ := grd_some h
  refine Tri.run 2 [] [.rever 5, .swap 5 1000, .keep [2] [2, 1000]] (K' := [.code [] 2]) (σ' := ⟨[(2, .ptr 2 0)], [(2, .box [.int .i64 a0, .sl 1000 0]), (1000, .arr 3 0 0 (.ints ([] ++ a1)))]⟩) rfl ⟨hg1, trivial⟩ rfl ?_
  have h := Option.some.inj h
  subst h
  exact Tri.ret rfl ⟨.inl rfl, rfl, rfl⟩
/-! spec.l2Bit -/
noncomputable def E_spec_l2Bit : Env := ⟨Try.prog, tys, (Try.f105.body).getD .skip, 5, tysOk, mixedOk⟩
abbrev q_spec_l2Bit (r : Int) (σ' : ASt) : Prop := resAV E_spec_l2Bit.T σ' Try.f105.results.toList = some (.int .i64 r) ∧ keepO σ'.ob (namesO []) = []
noncomputable def m_spec_l2Bit (a0 : Int) : Option Int :=
(m_spec_CountCoalitions a0).bind fun v1 =>
some v1
theorem w_spec_l2Bit (a0 : Int) (r : Int) (h : m_spec_l2Bit a0 = some r) : AM.Spec Try.prog 105 [.int .i64 a0] [] (.int .i64 r) [] := by
  refine spec_of (E := E_spec_l2Bit) Try.func105 rfl rfl rfl rfl ?_
  refine Tri.run 1 [] [.keep [0] []] (K' := [.code [(1, 0)] 0, .code [] 2]) (σ' := ⟨[(0, .int .i64 a0)], []⟩) rfl trivial rfl ?_
  obtain ⟨v1, hk1, h⟩ := bind_some h
  refine Tri.run 1 [.r ⟨[], .int .i64 v1, []⟩] [.keep [2] []] (K' := [.code [] 2]) (σ' := ⟨[(2, .int .i64 v1)], []⟩) rfl ⟨(w_spec_CountCoalitions a0 v1 hk1), trivial⟩ rfl ?_
  have h := Option.some.inj h
  subst h
  exact Tri.ret rfl ⟨.inl rfl, rfl, rfl⟩
/-! spec.HasPlayer -/
noncomputable def E_spec_HasPlayer : Env := ⟨Try.prog, tys, (Try.f72.body).getD .skip, 19, tysOk, mixedOk⟩
abbrev q_spec_HasPlayer (r : Bool) (σ' : ASt) : Prop := resAV E_spec_HasPlayer.T σ' Try.f72.results.toList = some (.bool r) ∧ keepO σ'.ob (namesO []) = []
noncomputable def m_spec_HasPlayer (a0 : Int) (a1 : Int) : Option Bool :=
(m_spec_l1In a1 (0 : Int) (4 : Int)).bind fun v1 =>
bif v1 then
(bif decide (a0 ≥ (0 : Int)) then
((m_spec_l2Bit a1).bind fun v2 =>
grd (v2 ≠ 0) <|
grd ((2 : Int) ≠ 0) <|
some (((IntKind.i64.wrap (a0.tdiv v2)).tmod (2 : Int)) == (1 : Int)))
else
(some false))
else
(some false)
theorem w_spec_HasPlayer (a0 : Int) (a1 : Int) (r : Bool) (h : m_spec_HasPlayer a0 a1 = some r) : AM.Spec Try.prog 72 [.int .i64 a0, .int .i64 a1] [] (.bool r) [] := by
  refine spec_of (E := E_spec_HasPlayer) Try.func72 rfl rfl rfl rfl ?_
  refine Tri.run 1 [] [.keep [0, 1] []] (K' := [.code [(1, 0)] 0, .code [] 2]) (σ' := ⟨[(0, .int .i64 a0), (1, .int .i64 a1)], []⟩) rfl trivial rfl ?_
  obtain ⟨v1, hk1, h⟩ := bind_some h
  rcases bif_some h with ⟨hd2, h⟩ | ⟨hd2, h⟩
  · rcases bif_some h with ⟨hd3, h⟩ | ⟨hd3, h⟩
    · obtain ⟨v2, hk4, h⟩ := bind_some h
      obtain ⟨hg5, h⟩ := grd_some h
      obtain ⟨hg6, h⟩ := grd_some h
      refine Tri.run 1 [.r ⟨[], .bool v1, []⟩, .g true, .g true, .r ⟨[], .int .i64 v2, []⟩] [.keep [4] []] (K' := [.code [] 2]) (σ' := ⟨[(4, .bool (((IntKind.i64.wrap (a0.tdiv v2)).tmod (2 : Int)) == (1 : Int)))], []⟩) rfl ⟨hg6, hg5, (w_spec_l2Bit a1 v2 hk4), hd3, hd2, (w_spec_l1In a1 (0 : Int) (4 : Int) v1 hk1), trivial⟩ rfl ?_
      have h := Option.some.inj h
      subst h
      exact Tri.ret rfl ⟨.inl rfl, rfl, rfl⟩
    · refine Tri.run 1 [.r ⟨[], .bool v1, []⟩, .g true, .g false] [.keep [4] []] (K' := [.code [] 2]) (σ' := ⟨[(4, .bool false)], []⟩) rfl ⟨hd3, hd2, (w_spec_l1In a1 (0 : Int) (4 : Int) v1 hk1), trivial⟩ rfl ?_
      have h := Option.some.inj h
      subst h
      exact Tri.ret rfl ⟨.inl rfl, rfl, rfl⟩
  · refine Tri.run 1 [.r ⟨[], .bool v1, []⟩, .g false, .g false] [.keep [4] []] (K' := [.code [] 2]) (σ' := ⟨[(4, .bool false)], []⟩) rfl ⟨rfl, hd2, (w_spec_l1In a1 (0 : Int) (4 : Int) v1 hk1), trivial⟩ rfl ?_
    have h := Option.some.inj h
    subst h
    exact Tri.ret rfl ⟨.inl rfl, rfl, rfl⟩
/-! spec.ScaleGame -/
noncomputable def E_spec_ScaleGame : Env := ⟨Try.prog, tys, (Try.f37.body).getD .skip, 76, tysOk, mixedOk⟩
abbrev q_spec_ScaleGame (r : Int × Bool × (List Int)) (σ' : ASt) : Prop := resAV E_spec_ScaleGame.T σ' Try.f37.results.toList = some (.tuple [.agg [.int .i64 r.1, .sl 1000 0], .bool r.2.1]) ∧ keepO σ'.ob (namesO [(1000, .arr 3 0 0 (.ints r.2.2))]) = [(1000, .arr 3 0 0 (.ints r.2.2))]
noncomputable def l_spec_ScaleGame_1 (a3 : List Int) (v5 : Int) : (Int × Int) → Option ((Int × Int) ⊕ (Int ⊕ ((Int × Bool × (List Int)))))
  | (v7, v8) => (
bif decide (v8 < (a3.length : Int)) then
(grd ((0 : Int) ≤ v8 ∧ v8 < (a3.length : Int)) <|
(m_spec_l1In (a3.getD v8.toNat 0) (-500 : Int) (500 : Int)).bind fun v9 =>
bif !v9 then
(some (.inr (.inr (0, false, []))))
else
((m_spec_HasPlayer v5 v8).bind fun v10 =>
bif v10 then
(grd ((0 : Int) ≤ v8 ∧ v8 < (a3.length : Int)) <|
some (.inl (IntKind.i64.wrap (v7 + (a3.getD v8.toNat 0)), IntKind.i64.wrap (v8 + (1 : Int)))))
else
(some (.inl (v7, IntKind.i64.wrap (v8 + (1 : Int)))))))
else
(some (.inr (.inl v7))))
noncomputable def l_spec_ScaleGame_0 (a1 : List Int) (a2 : Int) (a3 : List Int) : (Int × (List Int)) → Option ((Int × (List Int)) ⊕ ((List Int) ⊕ ((Int × Bool × (List Int)))))
  | (v5, v6) => (
bif decide (v5 < (v6.length : Int)) then
(grd ((0 : Int) ≤ v5 ∧ v5 < (a1.length : Int)) <|
(iter (l_spec_ScaleGame_1 a3 v5) (IntKind.i64.wrap (a2 * (a1.getD v5.toNat 0)), (0 : Int))).bind fun
| (.inl v11) => (
grd ((0 : Int) ≤ v5 ∧ v5 < (v6.length : Int)) <|
some (.inl (IntKind.i64.wrap (v5 + (1 : Int)), v6.set v5.toNat v11)))
| (.inr r) => some (.inr (.inr r)))
else
(some (.inr (.inl v6))))
noncomputable def m_spec_ScaleGame (a0 : Int) (a1 : List Int) (a2 : Int) (a3 : List Int) : Option (Int × Bool × (List Int)) :=
(m_spec_IsValidGame a0 a1).bind fun v1 =>
bif !v1 then
(some (0, false, []))
else
(bif (a3.length : Int) != a0 then
(some (0, false, []))
else
((m_spec_l1In a2 (-500 : Int) (500 : Int)).bind fun v2 =>
bif !v2 then
(some (0, false, []))
else
((m_spec_l8Copy a0 a1).bind fun (v3, v4) =>
(iter (l_spec_ScaleGame_0 a1 a2 a3) ((0 : Int), v4)).bind fun
| (.inl v12) => (
(m_spec_IsValidGame v3 v12).bind fun v13 =>
bif !v13 then
(some (0, false, []))
else
(some (v3, true, v12)))
| (.inr r) => some r)))
theorem w_spec_ScaleGame (a0 : Int) (a1 : List Int) (a2 : Int) (a3 : List Int) (r : Int × Bool × (List Int)) (h : m_spec_ScaleGame a0 a1 a2 a3 = some r) : AM.Spec Try.prog 37 [.agg [.int .i64 a0, .list (.ints a1)], .int .i64 a2, .list (.ints a3)] [] (.tuple [.agg [.int .i64 r.1, .sl 1000 0], .bool r.2.1]) [(1000, .arr 3 0 0 (.ints r.2.2))] := by
  refine spec_of (E := E_spec_ScaleGame) Try.func37 rfl rfl rfl rfl ?_
  refine Tri.run 1 [] [.keep [1, 2, 3, 6] [3, 6]] (K' := [.code [(1, 0), (0, 0)] 0, .code [(1, 0)] 1, .code [] 2]) (σ' := ⟨[(1, .int .i64 a2), (2, .list (.ints a3)), (3, .ptr 3 0), (6, .ptr 6 0)], [(3, .box [.int .i64 a0, .list (.ints a1)]), (6, .box [.int .i64 0, .nil (.ints [])])]⟩) rfl trivial rfl ?_
  obtain ⟨v1, hk1, h⟩ := bind_some h
  rcases bif_some h with ⟨hd2, h⟩ | ⟨hd2, h⟩
  · refine Tri.run 1 [.r ⟨[], .bool v1, []⟩, .g true, .g true] [.keep [1, 2, 3, 6, 26] [3, 6]] (K' := [.code [(1, 0)] 1, .code [] 2]) (σ' := ⟨[(1, .int .i64 a2), (2, .list (.ints a3)), (3, .ptr 3 0), (6, .ptr 6 0), (26, .bool true)], [(3, .box [.int .i64 a0, .list (.ints a1)]), (6, .box [.int .i64 0, .nil (.ints [])])]⟩) rfl ⟨rfl, hd2, (w_spec_IsValidGame a0 a1 v1 hk1), trivial⟩ rfl ?_
    refine Tri.run 2 [.g true] [.ownc 6 1 1100 3, .swap 1100 1000, .keep [6, 7] [6, 1000]] (K' := [.code [(1, 0), (1, 0)] 1, .code [] 2]) (σ' := ⟨[(6, .ptr 6 0), (7, .bool false)], [(6, .box [.int .i64 0, .sl 1000 0]), (1000, .arr 3 0 0 (.ints []))]⟩) rfl ⟨rfl, trivial⟩ rfl ?_
    have h := Option.some.inj h
    subst h
    exact Tri.ret rfl ⟨.inl rfl, rfl, rfl⟩
  · rcases bif_some h with ⟨hd3, h⟩ | ⟨hd3, h⟩
    · refine Tri.run 1 [.r ⟨[], .bool v1, []⟩, .g false, .g true] [.keep [1, 2, 3, 6, 26] [3, 6]] (K' := [.code [(1, 0)] 1, .code [] 2]) (σ' := ⟨[(1, .int .i64 a2), (2, .list (.ints a3)), (3, .ptr 3 0), (6, .ptr 6 0), (26, .bool true)], [(3, .box [.int .i64 a0, .list (.ints a1)]), (6, .box [.int .i64 0, .nil (.ints [])])]⟩) rfl ⟨hd3, hd2, (w_spec_IsValidGame a0 a1 v1 hk1), trivial⟩ rfl ?_
      refine Tri.run 2 [.g true] [.ownc 6 1 1101 3, .swap 1101 1000, .keep [6, 7] [6, 1000]] (K' := [.code [(1, 0), (1, 0)] 1, .code [] 2]) (σ' := ⟨[(6, .ptr 6 0), (7, .bool false)], [(6, .box [.int .i64 0, .sl 1000 0]), (1000, .arr 3 0 0 (.ints []))]⟩) rfl ⟨rfl, trivial⟩ rfl ?_
      have h := Option.some.inj h
      subst h
      exact Tri.ret rfl ⟨.inl rfl, rfl, rfl⟩
    · obtain ⟨v2, hk4, h⟩ := bind_some h
      refine Tri.run 1 [.r ⟨[], .bool v1, []⟩, .g false, .g false, .r ⟨[], .bool v2, []⟩] [.keep [1, 2, 3, 6, 26] [3, 6]] (K' := [.code [(1, 0)] 1, .code [] 2]) (σ' := ⟨[(1, .int .i64 a2), (2, .list (.ints a3)), (3, .ptr 3 0), (6, .ptr 6 0), (26, .bool (!v2))], [(3, .box [.int .i64 a0, .list (.ints a1)]), (6, .box [.int .i64 0, .nil (.ints [])])]⟩) rfl ⟨(w_spec_l1In a2 (-500 : Int) (500 : Int) v2 hk4), hd3, hd2, (w_spec_IsValidGame a0 a1 v1 hk1), trivial⟩ rfl ?_
      rcases bif_some h with ⟨hd5, h⟩ | ⟨hd5, h⟩
      · refine Tri.run 2 [.g true] [.ownc 6 1 1102 3, .swap 1102 1000, .keep [6, 7] [6, 1000]] (K' := [.code [(1, 0), (1, 0)] 1, .code [] 2]) (σ' := ⟨[(6, .ptr 6 0), (7, .bool false)], [(6, .box [.int .i64 0, .sl 1000 0]), (1000, .arr 3 0 0 (.ints []))]⟩) rfl ⟨hd5, trivial⟩ rfl ?_
        have h := Option.some.inj h
        subst h
        exact Tri.ret rfl ⟨.inl rfl, rfl, rfl⟩
      · obtain ⟨⟨v3, v4⟩, hk6, h⟩ := bind_some h
        refine Tri.run 3 [.g false, .r ⟨[], .agg [.int .i64 v3, .sl 1103 0], [(1103, .arr 3 0 0 (.ints v4))]⟩] [.ownc 6 1 1104 3, .keep [1, 2, 3, 6, 8, 9] [3, 6, 8, 1103, 1104]] (K' := [.code [(3, 0), (1, 0)] 0, .blk 0, .code [] 4]) (σ' := ⟨[(1, .int .i64 a2), (2, .list (.ints a3)), (3, .ptr 3 0), (6, .ptr 6 0), (8, .ptr 8 0), (9, .int .i64 (0 : Int))], [(3, .box [.int .i64 a0, .list (.ints a1)]), (6, .box [.int .i64 0, .sl 1104 0]), (8, .box [.int .i64 v3, .sl 1103 0]), (1103, .arr 3 0 0 (.ints v4)), (1104, .arr 3 0 0 (.ints []))]⟩) rfl ⟨((w_spec_l8Copy a0 a1 (v3, v4) hk6).swap 1000 1103), hd5, trivial⟩ rfl ?_
        obtain ⟨x2, hk18, h⟩ := bind_some h
        refine Tri.loop (K1 := [.code [(3, 0), (1, 0), (0, 0)] 0]) (K2 := [.blk 0, .code [] 4]) (fun (v5, v6) => ⟨[(1, .int .i64 a2), (2, .list (.ints a3)), (3, .ptr 3 0), (6, .ptr 6 0), (8, .ptr 8 0), (9, .int .i64 v5)], [(3, .box [.int .i64 a0, .list (.ints a1)]), (6, .box [.int .i64 0, .sl 1104 0]), (8, .box [.int .i64 v3, .sl 1103 0]), (1103, .arr 3 0 0 (.ints v6)), (1104, .arr 3 0 0 (.ints []))]⟩) (fun x e σ' => match x with | (.inl v12) => e = .exit 0 ∧ σ' = ⟨[(6, .ptr 6 0), (8, .ptr 8 0)], [(6, .box [.int .i64 0, .sl 1104 0]), (8, .box [.int .i64 v3, .sl 1103 0]), (1103, .arr 3 0 0 (.ints v12)), (1104, .arr 3 0 0 (.ints []))]⟩ | (.inr r) => e = .ret ∧ q_spec_ScaleGame r σ') hk18 rfl rfl ?_ ?_
        · intro s x hs
          clear h
          have h := hs
          clear hs
          obtain ⟨v5, v6⟩ := s
          refine Tri.run 1 [] [.keep [1, 2, 3, 6, 8, 9, 34] [3, 6, 8, 1103, 1104]] (K' := [.code [(3, 0), (1, 0), (0, 0), (0, 0)] 1, .code [(3, 0), (1, 0), (0, 0)] 1]) (σ' := ⟨[(1, .int .i64 a2), (2, .list (.ints a3)), (3, .ptr 3 0), (6, .ptr 6 0), (8, .ptr 8 0), (9, .int .i64 v5), (34, .bool (decide (v5 < (v6.length : Int))))], [(3, .box [.int .i64 a0, .list (.ints a1)]), (6, .box [.int .i64 0, .sl 1104 0]), (8, .box [.int .i64 v3, .sl 1103 0]), (1103, .arr 3 0 0 (.ints v6)), (1104, .arr 3 0 0 (.ints []))]⟩) rfl trivial rfl ?_
          rcases bif_some h with ⟨hd7, h⟩ | ⟨hd7, h⟩
          · obtain ⟨hg8, h⟩ := grd_some h
            refine Tri.run 3 [.g true] [.keep [1, 2, 3, 6, 8, 9, 10, 11] [3, 6, 8, 1103, 1104]] (K' := [.code [(3, 0), (1, 0), (0, 0), (1, 0), (0, 0), (1, 0), (1, 0)] 0, .blk 2, .code [(3, 0), (1, 0), (0, 0), (1, 0), (0, 0)] 2, .blk 1, .code [(3, 0), (1, 0), (0, 0)] 2]) (σ' := ⟨[(1, .int .i64 a2), (2, .list (.ints a3)), (3, .ptr 3 0), (6, .ptr 6 0), (8, .ptr 8 0), (9, .int .i64 v5), (10, .int .i64 (IntKind.i64.wrap (a2 * (a1.getD v5.toNat 0)))), (11, .int .i64 (0 : Int))], [(3, .box [.int .i64 a0, .list (.ints a1)]), (6, .box [.int .i64 0, .sl 1104 0]), (8, .box [.int .i64 v3, .sl 1103 0]), (1103, .arr 3 0 0 (.ints v6)), (1104, .arr 3 0 0 (.ints []))]⟩) rfl ⟨hg8, hd7, trivial⟩ rfl ?_
            obtain ⟨x2, hk16, h⟩ := bind_some h
            refine Tri.loop (K1 := [.code [(3, 0), (1, 0), (0, 0), (1, 0), (0, 0), (1, 0), (1, 0), (0, 0)] 0]) (K2 := [.blk 2, .code [(3, 0), (1, 0), (0, 0), (1, 0), (0, 0)] 2, .blk 1, .code [(3, 0), (1, 0), (0, 0)] 2]) (fun (v7, v8) => ⟨[(1, .int .i64 a2), (2, .list (.ints a3)), (3, .ptr 3 0), (6, .ptr 6 0), (8, .ptr 8 0), (9, .int .i64 v5), (10, .int .i64 v7), (11, .int .i64 v8)], [(3, .box [.int .i64 a0, .list (.ints a1)]), (6, .box [.int .i64 0, .sl 1104 0]), (8, .box [.int .i64 v3, .sl 1103 0]), (1103, .arr 3 0 0 (.ints v6)), (1104, .arr 3 0 0 (.ints []))]⟩) (fun x e σ' => match x with | (.inl v11) => e = .exit 2 ∧ σ' = ⟨[(1, .int .i64 a2), (2, .list (.ints a3)), (3, .ptr 3 0), (6, .ptr 6 0), (8, .ptr 8 0), (9, .int .i64 v5), (10, .int .i64 v11)], [(3, .box [.int .i64 a0, .list (.ints a1)]), (6, .box [.int .i64 0, .sl 1104 0]), (8, .box [.int .i64 v3, .sl 1103 0]), (1103, .arr 3 0 0 (.ints v6)), (1104, .arr 3 0 0 (.ints []))]⟩ | (.inr r) => e = .ret ∧ q_spec_ScaleGame r σ') hk16 rfl rfl ?_ ?_
            · intro s x hs
              clear h
              have h := hs
              clear hs
              obtain ⟨v7, v8⟩ := s
              refine Tri.run 1 [] [.keep [1, 2, 3, 6, 8, 9, 10, 11, 47] [3, 6, 8, 1103, 1104]] (K' := [.code [(3, 0), (1, 0), (0, 0), (1, 0), (0, 0), (1, 0), (1, 0), (0, 0), (0, 0)] 1, .code [(3, 0), (1, 0), (0, 0), (1, 0), (0, 0), (1, 0), (1, 0), (0, 0)] 1]) (σ' := ⟨[(1, .int .i64 a2), (2, .list (.ints a3)), (3, .ptr 3 0), (6, .ptr 6 0), (8, .ptr 8 0), (9, .int .i64 v5), (10, .int .i64 v7), (11, .int .i64 v8), (47, .bool (decide (v8 < (a3.length : Int))))], [(3, .box [.int .i64 a0, .list (.ints a1)]), (6, .box [.int .i64 0, .sl 1104 0]), (8, .box [.int .i64 v3, .sl 1103 0]), (1103, .arr 3 0 0 (.ints v6)), (1104, .arr 3 0 0 (.ints []))]⟩) rfl trivial rfl ?_
              rcases bif_some h with ⟨hd9, h⟩ | ⟨hd9, h⟩
              · obtain ⟨hg10, h⟩ := grd_some h
                obtain ⟨v9, hk11, h⟩ := bind_some h
                refine Tri.run 2 [.g true, .r ⟨[], .bool v9, []⟩] [.keep [1, 2, 3, 6, 8, 9, 10, 11, 55] [3, 6, 8, 1103, 1104]] (K' := [.code [(3, 0), (1, 0), (0, 0), (1, 0), (0, 0), (1, 0), (1, 0), (0, 0), (1, 0), (0, 0), (0, 0)] 1, .code [(3, 0), (1, 0), (0, 0), (1, 0), (0, 0), (1, 0), (1, 0), (0, 0), (1, 0), (0, 0)] 1, .blk 3, .code [(3, 0), (1, 0), (0, 0), (1, 0), (0, 0), (1, 0), (1, 0), (0, 0)] 2]) (σ' := ⟨[(1, .int .i64 a2), (2, .list (.ints a3)), (3, .ptr 3 0), (6, .ptr 6 0), (8, .ptr 8 0), (9, .int .i64 v5), (10, .int .i64 v7), (11, .int .i64 v8), (55, .bool (!v9))], [(3, .box [.int .i64 a0, .list (.ints a1)]), (6, .box [.int .i64 0, .sl 1104 0]), (8, .box [.int .i64 v3, .sl 1103 0]), (1103, .arr 3 0 0 (.ints v6)), (1104, .arr 3 0 0 (.ints []))]⟩) rfl ⟨(w_spec_l1In (a3.getD v8.toNat 0) (-500 : Int) (500 : Int) v9 hk11), hg10, hd9, trivial⟩ rfl ?_
                rcases bif_some h with ⟨hd12, h⟩ | ⟨hd12, h⟩
                · refine Tri.run 2 [.g true] [.ownc 6 1 1105 3, .swap 1105 1000, .keep [6, 7] [6, 1000]] (K' := [.code [(3, 0), (1, 0), (0, 0), (1, 0), (0, 0), (1, 0), (1, 0), (0, 0), (1, 0), (0, 0), (0, 0), (1, 0)] 1, .code [(3, 0), (1, 0), (0, 0), (1, 0), (0, 0), (1, 0), (1, 0), (0, 0), (1, 0), (0, 0)] 1, .blk 3, .code [(3, 0), (1, 0), (0, 0), (1, 0), (0, 0), (1, 0), (1, 0), (0, 0)] 2]) (σ' := ⟨[(6, .ptr 6 0), (7, .bool false)], [(6, .box [.int .i64 0, .sl 1000 0]), (1000, .arr 3 0 0 (.ints []))]⟩) rfl ⟨hd12, trivial⟩ rfl ?_
                  have h := Option.some.inj h
                  subst h
                  exact Tri.ret rfl ⟨nofun, rfl, rfl, rfl⟩
                · obtain ⟨v10, hk13, h⟩ := bind_some h
                  refine Tri.run 2 [.g false, .r ⟨[], .bool v10, []⟩] [.keep [1, 2, 3, 6, 8, 9, 10, 11, 59] [3, 6, 8, 1103, 1104]] (K' := [.code [(3, 0), (1, 0), (0, 0), (1, 0), (0, 0), (1, 0), (1, 0), (0, 0), (1, 0), (0, 0)] 2, .blk 3, .code [(3, 0), (1, 0), (0, 0), (1, 0), (0, 0), (1, 0), (1, 0), (0, 0)] 2]) (σ' := ⟨[(1, .int .i64 a2), (2, .list (.ints a3)), (3, .ptr 3 0), (6, .ptr 6 0), (8, .ptr 8 0), (9, .int .i64 v5), (10, .int .i64 v7), (11, .int .i64 v8), (59, .bool v10)], [(3, .box [.int .i64 a0, .list (.ints a1)]), (6, .box [.int .i64 0, .sl 1104 0]), (8, .box [.int .i64 v3, .sl 1103 0]), (1103, .arr 3 0 0 (.ints v6)), (1104, .arr 3 0 0 (.ints []))]⟩) rfl ⟨(w_spec_HasPlayer v5 v8 v10 hk13), hd12, trivial⟩ rfl ?_
                  rcases bif_some h with ⟨hd14, h⟩ | ⟨hd14, h⟩
                  · obtain ⟨hg15, h⟩ := grd_some h
                    refine Tri.run 3 [.g true] [.keep [1, 2, 3, 6, 8, 9, 10, 11] [3, 6, 8, 1103, 1104]] (K' := []) (σ' := ⟨[(1, .int .i64 a2), (2, .list (.ints a3)), (3, .ptr 3 0), (6, .ptr 6 0), (8, .ptr 8 0), (9, .int .i64 v5), (10, .int .i64 (IntKind.i64.wrap (v7 + (a3.getD v8.toNat 0)))), (11, .int .i64 (IntKind.i64.wrap (v8 + (1 : Int))))], [(3, .box [.int .i64 a0, .list (.ints a1)]), (6, .box [.int .i64 0, .sl 1104 0]), (8, .box [.int .i64 v3, .sl 1103 0]), (1103, .arr 3 0 0 (.ints v6)), (1104, .arr 3 0 0 (.ints []))]⟩) rfl ⟨hg15, hd14, trivial⟩ rfl ?_
                    have h := Option.some.inj h
                    subst h
                    exact Tri.nil ⟨rfl, rfl⟩
                  · refine Tri.run 2 [.g false] [.keep [1, 2, 3, 6, 8, 9, 10, 11] [3, 6, 8, 1103, 1104]] (K' := []) (σ' := ⟨[(1, .int .i64 a2), (2, .list (.ints a3)), (3, .ptr 3 0), (6, .ptr 6 0), (8, .ptr 8 0), (9, .int .i64 v5), (10, .int .i64 v7), (11, .int .i64 (IntKind.i64.wrap (v8 + (1 : Int))))], [(3, .box [.int .i64 a0, .list (.ints a1)]), (6, .box [.int .i64 0, .sl 1104 0]), (8, .box [.int .i64 v3, .sl 1103 0]), (1103, .arr 3 0 0 (.ints v6)), (1104, .arr 3 0 0 (.ints []))]⟩) rfl ⟨hd14, trivial⟩ rfl ?_
                    have h := Option.some.inj h
                    subst h
                    exact Tri.nil ⟨rfl, rfl⟩
              · refine Tri.run 1 [.g false] [.keep [1, 2, 3, 6, 8, 9, 10] [3, 6, 8, 1103, 1104]] (K' := [.code [(3, 0), (1, 0), (0, 0), (1, 0), (0, 0), (1, 0), (1, 0), (0, 0), (0, 0), (1, 1)] 0, .code [(3, 0), (1, 0), (0, 0), (1, 0), (0, 0), (1, 0), (1, 0), (0, 0)] 1]) (σ' := ⟨[(1, .int .i64 a2), (2, .list (.ints a3)), (3, .ptr 3 0), (6, .ptr 6 0), (8, .ptr 8 0), (9, .int .i64 v5), (10, .int .i64 v7)], [(3, .box [.int .i64 a0, .list (.ints a1)]), (6, .box [.int .i64 0, .sl 1104 0]), (8, .box [.int .i64 v3, .sl 1103 0]), (1103, .arr 3 0 0 (.ints v6)), (1104, .arr 3 0 0 (.ints []))]⟩) rfl ⟨hd9, trivial⟩ rfl ?_
                have h := Option.some.inj h
                subst h
                exact Tri.out 2 rfl ⟨nofun, rfl, rfl⟩
            · intro e σ' hne hq
              rcases x2 with v11 | r
              · obtain ⟨rfl, rfl⟩ := hq
                refine TriX.exit (K' := [.code [(3, 0), (1, 0), (0, 0), (1, 0), (0, 0)] 2, .blk 1, .code [(3, 0), (1, 0), (0, 0)] 2]) rfl ?_
                obtain ⟨hg17, h⟩ := grd_some h
                refine Tri.run 2 [] [.keep [1, 2, 3, 6, 8, 9] [3, 6, 8, 1103, 1104]] (K' := []) (σ' := ⟨[(1, .int .i64 a2), (2, .list (.ints a3)), (3, .ptr 3 0), (6, .ptr 6 0), (8, .ptr 8 0), (9, .int .i64 (IntKind.i64.wrap (v5 + (1 : Int))))], [(3, .box [.int .i64 a0, .list (.ints a1)]), (6, .box [.int .i64 0, .sl 1104 0]), (8, .box [.int .i64 v3, .sl 1103 0]), (1103, .arr 3 0 0 (.ints (v6.set v5.toNat v11))), (1104, .arr 3 0 0 (.ints []))]⟩) rfl ⟨hg17, trivial⟩ rfl ?_
                have h := Option.some.inj h
                subst h
                exact Tri.nil ⟨rfl, rfl⟩
              · obtain ⟨rfl, hq⟩ := hq
                have h := Option.some.inj h
                subst h
                exact TriX.ret ⟨nofun, rfl, hq⟩
          · refine Tri.run 1 [.g false] [.keep [6, 8] [6, 8, 1103, 1104]] (K' := [.code [(3, 0), (1, 0), (0, 0), (0, 0), (1, 1)] 0, .code [(3, 0), (1, 0), (0, 0)] 1]) (σ' := ⟨[(6, .ptr 6 0), (8, .ptr 8 0)], [(6, .box [.int .i64 0, .sl 1104 0]), (8, .box [.int .i64 v3, .sl 1103 0]), (1103, .arr 3 0 0 (.ints v6)), (1104, .arr 3 0 0 (.ints []))]⟩) rfl ⟨hd7, trivial⟩ rfl ?_
            have h := Option.some.inj h
            subst h
            exact Tri.out 0 rfl ⟨nofun, rfl, rfl⟩
        · intro e σ' hne hq
          rcases x2 with v12 | r
          · obtain ⟨rfl, rfl⟩ := hq
            refine TriX.exit (K' := [.code [] 4]) rfl ?_
            obtain ⟨v13, hk19, h⟩ := bind_some h
            refine Tri.run 1 [.r ⟨[], .bool v13, []⟩] [.keep [6, 8, 73] [6, 8, 1103, 1104]] (K' := [.code [(4, 0)] 1, .code [] 5]) (σ' := ⟨[(6, .ptr 6 0), (8, .ptr 8 0), (73, .bool (!v13))], [(6, .box [.int .i64 0, .sl 1104 0]), (8, .box [.int .i64 v3, .sl 1103 0]), (1103, .arr 3 0 0 (.ints v12)), (1104, .arr 3 0 0 (.ints []))]⟩) rfl ⟨(w_spec_IsValidGame v3 v12 v13 hk19), trivial⟩ rfl ?_
            rcases bif_some h with ⟨hd20, h⟩ | ⟨hd20, h⟩
            · refine Tri.run 2 [.g true] [.ownc 6 1 1106 3, .swap 1106 1000, .keep [6, 7] [6, 1000]] (K' := [.code [(4, 0), (1, 0)] 1, .code [] 5]) (σ' := ⟨[(6, .ptr 6 0), (7, .bool false)], [(6, .box [.int .i64 0, .sl 1000 0]), (1000, .arr 3 0 0 (.ints []))]⟩) rfl ⟨hd20, trivial⟩ rfl ?_
              have h := Option.some.inj h
              subst h
              exact Tri.ret rfl ⟨.inl rfl, rfl, rfl⟩
            · refine Tri.run 2 [.g false] [.swap 1103 1000, .keep [6, 7] [6, 1000]] (K' := [.code [] 6]) (σ' := ⟨[(6, .ptr 6 0), (7, .bool true)], [(6, .box [.int .i64 v3, .sl 1000 0]), (1000, .arr 3 0 0 (.ints v12))]⟩) rfl ⟨hd20, trivial⟩ rfl ?_
              have h := Option.some.inj h
              subst h
              exact Tri.ret rfl ⟨.inl rfl, rfl, rfl⟩
          · obtain ⟨rfl, hq⟩ := hq
            have h := Option.some.inj h
            subst h
            exact TriX.ret ⟨.inl rfl, hq⟩
/-! impl.within -/
noncomputable def E_impl_within : Env := ⟨Try.prog, tys, (Try.f66.body).getD .skip, 15, tysOk, mixedOk⟩
abbrev q_impl_within (r : Bool) (σ' : ASt) : Prop := resAV E_impl_within.T σ' Try.f66.results.toList = some (.bool r) ∧ keepO σ'.ob (namesO []) = []
noncomputable def m_impl_within (a0 : Int) (a1 : Int) (a2 : Int) : Option Bool :=
bif decide (a0 ≥ a1) then
(some (decide (a0 ≤ a2)))
else
(some false)
theorem w_impl_within (a0 : Int) (a1 : Int) (a2 : Int) (r : Bool) (h : m_impl_within a0 a1 a2 = some r) : AM.Spec Try.prog 66 [.int .i64 a0, .int .i64 a1, .int .i64 a2] [] (.bool r) [] := by
  refine spec_of (E := E_impl_within) Try.func66 rfl rfl rfl rfl ?_
  refine Tri.run 1 [] [.keep [0, 1, 2] []] (K' := [.code [(1, 0)] 0, .code [] 2]) (σ' := ⟨[(0, .int .i64 a0), (1, .int .i64 a1), (2, .int .i64 a2)], []⟩) rfl trivial rfl ?_
  rcases bif_some h with ⟨hd1, h⟩ | ⟨hd1, h⟩
  · refine Tri.run 1 [.g true] [.keep [6] []] (K' := [.code [] 2]) (σ' := ⟨[(6, .bool (decide (a0 ≤ a2)))], []⟩) rfl ⟨hd1, trivial⟩ rfl ?_
    have h := Option.some.inj h
    subst h
    exact Tri.ret rfl ⟨.inl rfl, rfl, rfl⟩
  · refine Tri.run 1 [.g false] [.keep [6] []] (K' := [.code [] 2]) (σ' := ⟨[(6, .bool false)], []⟩) rfl ⟨hd1, trivial⟩ rfl ?_
    have h := Option.some.inj h
    subst h
    exact Tri.ret rfl ⟨.inl rfl, rfl, rfl⟩
/-! impl.IsValidGame$1 -/
noncomputable def E_impl_IsValidGame_1 : Env := ⟨Try.prog, tys, (Try.f103.body).getD .skip, 6, tysOk, mixedOk⟩
abbrev q_impl_IsValidGame_1 (r : Bool) (σ' : ASt) : Prop := resAV E_impl_IsValidGame_1.T σ' Try.f103.results.toList = some (.bool r) ∧ keepO σ'.ob (namesO []) = []
noncomputable def m_impl_IsValidGame_1 (a0 : Int) : Option Bool :=
(m_impl_within a0 (-500 : Int) (500 : Int)).bind fun v1 =>
some (!v1)
theorem w_impl_IsValidGame_1 (a0 : Int) (r : Bool) (h : m_impl_IsValidGame_1 a0 = some r) : AM.Spec Try.prog 103 [.int .i64 a0] [] (.bool r) [] := by
  refine spec_of (E := E_impl_IsValidGame_1) Try.func103 rfl rfl rfl rfl ?_
  refine Tri.run 1 [] [.keep [0] []] (K' := [.code [(1, 0)] 0, .code [] 2]) (σ' := ⟨[(0, .int .i64 a0)], []⟩) rfl trivial rfl ?_
  obtain ⟨v1, hk1, h⟩ := bind_some h
  refine Tri.run 1 [.r ⟨[], .bool v1, []⟩] [.keep [2] []] (K' := [.code [] 2]) (σ' := ⟨[(2, .bool (!v1))], []⟩) rfl ⟨(w_impl_within a0 (-500 : Int) (500 : Int) v1 hk1), trivial⟩ rfl ?_
  have h := Option.some.inj h
  subst h
  exact Tri.ret rfl ⟨.inl rfl, rfl, rfl⟩
/-! slices.IndexFunc(()int,int) -/
noncomputable def E_slices_IndexFunc_int_int : Env := ⟨Try.prog, tys, (Try.f106.body).getD .skip, 19, tysOk, mixedOk⟩
abbrev q_slices_IndexFunc_int_int_impl_IsValidGame_1 (r : Int) (σ' : ASt) : Prop := resAV E_slices_IndexFunc_int_int.T σ' Try.f106.results.toList = some (.int .i64 r) ∧ keepO σ'.ob (namesO []) = []
noncomputable def l_slices_IndexFunc_int_int_impl_IsValidGame_1_0 (a0 : List Int) (v1 : Int) : Option (Int ⊕ (Unit ⊕ Int)) :=
bif decide (v1 < (a0.length : Int)) then
(grd ((0 : Int) ≤ v1 ∧ v1 < (a0.length : Int)) <|
(m_impl_IsValidGame_1 (a0.getD v1.toNat 0)).bind fun v2 =>
bif v2 then
(some (.inr (.inr v1)))
else
(some (.inl (IntKind.i64.wrap (v1 + (1 : Int))))))
else
(some (.inr (.inl ())))
noncomputable def m_slices_IndexFunc_int_int_impl_IsValidGame_1 (a0 : List Int) : Option Int :=
(iter (l_slices_IndexFunc_int_int_impl_IsValidGame_1_0 a0) (0 : Int)).bind fun
| (.inl _) => (
some (-1 : Int))
| (.inr r) => some r
theorem w_slices_IndexFunc_int_int_impl_IsValidGame_1 (a0 : List Int) (r : Int) (h : m_slices_IndexFunc_int_int_impl_IsValidGame_1 a0 = some r) : AM.Spec Try.prog 106 [.list (.ints a0), .func 103 [] []] [] (.int .i64 r) [] := by
  refine spec_of (E := E_slices_IndexFunc_int_int) Try.func106 rfl rfl rfl rfl ?_
  refine Tri.run 2 [] [.keep [0, 1, 7, 8] []] (K' := [.code [(1, 0), (1, 0)] 0, .blk 0, .code [] 2]) (σ' := ⟨[(0, .list (.ints a0)), (1, .func 103 [] []), (7, .int .i64 (a0.length : Int)), (8, .int .i64 (0 : Int))], []⟩) rfl trivial rfl ?_
  obtain ⟨x1, hk5, h⟩ := bind_some h
  refine Tri.loop (K1 := [.code [(1, 0), (1, 0), (0, 0)] 0]) (K2 := [.blk 0, .code [] 2]) (fun v1 => ⟨[(0, .list (.ints a0)), (1, .func 103 [] []), (7, .int .i64 (a0.length : Int)), (8, .int .i64 v1)], []⟩) (fun x e σ' => match x with | (.inl _) => e = .exit 0 ∧ σ' = ⟨[], []⟩ | (.inr r) => e = .ret ∧ q_slices_IndexFunc_int_int_impl_IsValidGame_1 r σ') hk5 rfl rfl ?_ ?_
  · intro v1 x hs
    clear h
    have h := hs
    clear hs
    refine Tri.run 1 [] [.keep [0, 1, 7, 8, 9] []] (K' := [.code [(1, 0), (1, 0), (0, 0), (1, 0)] 0, .code [(1, 0), (1, 0), (0, 0)] 2]) (σ' := ⟨[(0, .list (.ints a0)), (1, .func 103 [] []), (7, .int .i64 (a0.length : Int)), (8, .int .i64 v1), (9, .bool (decide (v1 < (a0.length : Int))))], []⟩) rfl trivial rfl ?_
    rcases bif_some h with ⟨hd1, h⟩ | ⟨hd1, h⟩
    · refine Tri.run 2 [.g true] [.keep [0, 1, 5, 7, 8] []] (K' := [.code [(1, 0), (1, 0), (0, 0), (2, 0), (0, 0), (1, 0)] 0, .code [(1, 0), (1, 0), (0, 0), (2, 0), (0, 0)] 2, .blk 1, .code [(1, 0), (1, 0), (0, 0)] 3]) (σ' := ⟨[(0, .list (.ints a0)), (1, .func 103 [] []), (5, .int .i64 v1), (7, .int .i64 (a0.length : Int)), (8, .int .i64 v1)], []⟩) rfl ⟨hd1, trivial⟩ rfl ?_
      obtain ⟨hg2, h⟩ := grd_some h
      obtain ⟨v2, hk3, h⟩ := bind_some h
      refine Tri.run 1 [.r ⟨[], .bool v2, []⟩] [.keep [0, 1, 5, 7, 8, 16] []] (K' := [.code [(1, 0), (1, 0), (0, 0), (2, 0), (0, 0)] 2, .blk 1, .code [(1, 0), (1, 0), (0, 0)] 3]) (σ' := ⟨[(0, .list (.ints a0)), (1, .func 103 [] []), (5, .int .i64 v1), (7, .int .i64 (a0.length : Int)), (8, .int .i64 v1), (16, .bool v2)], []⟩) rfl ⟨(w_impl_IsValidGame_1 (a0.getD v1.toNat 0) v2 hk3), hg2, trivial⟩ rfl ?_
      rcases bif_some h with ⟨hd4, h⟩ | ⟨hd4, h⟩
      · refine Tri.run 2 [.g true] [.keep [4] []] (K' := [.code [(1, 0), (1, 0), (0, 0), (2, 0), (0, 0), (2, 0)] 1, .blk 1, .code [(1, 0), (1, 0), (0, 0)] 3]) (σ' := ⟨[(4, .int .i64 v1)], []⟩) rfl ⟨hd4, trivial⟩ rfl ?_
        have h := Option.some.inj h
        subst h
        exact Tri.ret rfl ⟨nofun, rfl, rfl, rfl⟩
      · refine Tri.run 2 [.g false] [.keep [0, 1, 7, 8] []] (K' := []) (σ' := ⟨[(0, .list (.ints a0)), (1, .func 103 [] []), (7, .int .i64 (a0.length : Int)), (8, .int .i64 (IntKind.i64.wrap (v1 + (1 : Int))))], []⟩) rfl ⟨hd4, trivial⟩ rfl ?_
        have h := Option.some.inj h
        subst h
        exact Tri.nil ⟨rfl, rfl⟩
    · refine Tri.run 1 [.g false] [.keep [] []] (K' := [.code [(1, 0), (1, 0), (0, 0), (1, 0), (0, 1)] 0, .code [(1, 0), (1, 0), (0, 0)] 2]) (σ' := ⟨[], []⟩) rfl ⟨hd1, trivial⟩ rfl ?_
      have h := Option.some.inj h
      subst h
      exact Tri.out 0 rfl ⟨nofun, rfl, rfl⟩
  · intro e σ' hne hq
    rcases x1 with _ | r
    · obtain ⟨rfl, rfl⟩ := hq
      refine TriX.exit (K' := [.code [] 2]) rfl ?_
      refine Tri.run 1 [] [.keep [4] []] (K' := [.code [] 3]) (σ' := ⟨[(4, .int .i64 (-1 : Int))], []⟩) rfl trivial rfl ?_
      have h := Option.some.inj h
      subst h
      exact Tri.ret rfl ⟨.inl rfl, rfl, rfl⟩
    · obtain ⟨rfl, hq⟩ := hq
      have h := Option.some.inj h
      subst h
      exact TriX.ret ⟨.inl rfl, hq⟩
/-! slices.ContainsFunc(()int,int) -/
noncomputable def E_slices_ContainsFunc_int_int : Env := ⟨Try.prog, tys, (Try.f74.body).getD .skip, 9, tysOk, mixedOk⟩
abbrev q_slices_ContainsFunc_int_int_impl_IsValidGame_1 (r : Bool) (σ' : ASt) : Prop := resAV E_slices_ContainsFunc_int_int.T σ' Try.f74.results.toList = some (.bool r) ∧ keepO σ'.ob (namesO []) = []
noncomputable def m_slices_ContainsFunc_int_int_impl_IsValidGame_1 (a0 : List Int) : Option Bool :=
(m_slices_IndexFunc_int_int_impl_IsValidGame_1 a0).bind fun v1 =>
some (decide (v1 ≥ (0 : Int)))
theorem w_slices_ContainsFunc_int_int_impl_IsValidGame_1 (a0 : List Int) (r : Bool) (h : m_slices_ContainsFunc_int_int_impl_IsValidGame_1 a0 = some r) : AM.Spec Try.prog 74 [.list (.ints a0), .func 103 [] []] [] (.bool r) [] := by
  refine spec_of (E := E_slices_ContainsFunc_int_int) Try.func74 rfl rfl rfl rfl ?_
  refine Tri.run 1 [] [.keep [0, 1] []] (K' := [.code [(1, 0)] 0, .code [] 2]) (σ' := ⟨[(0, .list (.ints a0)), (1, .func 103 [] [])], []⟩) rfl trivial rfl ?_
  obtain ⟨v1, hk1, h⟩ := bind_some h
  refine Tri.run 1 [.r ⟨[], .int .i64 v1, []⟩] [.keep [4] []] (K' := [.code [] 2]) (σ' := ⟨[(4, .bool (decide (v1 ≥ (0 : Int))))], []⟩) rfl ⟨(w_slices_IndexFunc_int_int_impl_IsValidGame_1 a0 v1 hk1), trivial⟩ rfl ?_
  have h := Option.some.inj h
  subst h
  exact Tri.ret rfl ⟨.inl rfl, rfl, rfl⟩
/-! impl.IsValidGame -/
noncomputable def E_impl_IsValidGame : Env := ⟨Try.prog, tys, (Try.f61.body).getD .skip, 27, tysOk, mixedOk⟩
abbrev q_impl_IsValidGame (r : Bool) (σ' : ASt) : Prop := resAV E_impl_IsValidGame.T σ' Try.f61.results.toList = some (.bool r) ∧ keepO σ'.ob (namesO []) = []
noncomputable def m_impl_IsValidGame (a0 : Int) (a1 : List Int) : Option Bool :=
(m_impl_within a0 (1 : Int) (5 : Int)).bind fun v1 =>
bif !v1 then
(some false)
else
(grd ((0 : Int) ≤ a0) <|
bif (a1.length : Int) != (IntKind.i64.wrap ((1 : Int) * 2 ^ (min a0.toNat 64))) then
(some false)
else
(grd ((0 : Int) ≤ (0 : Int) ∧ (0 : Int) < (a1.length : Int)) <|
bif (a1.getD ((0 : Int).toNat) 0) != (0 : Int) then
(some false)
else
((m_slices_ContainsFunc_int_int_impl_IsValidGame_1 a1).bind fun v2 =>
some (!v2))))
theorem w_impl_IsValidGame (a0 : Int) (a1 : List Int) (r : Bool) (h : m_impl_IsValidGame a0 a1 = some r) : AM.Spec Try.prog 61 [.agg [.int .i64 a0, .list (.ints a1)]] [] (.bool r) [] := by
  refine spec_of (E := E_impl_IsValidGame) Try.func61 rfl rfl rfl rfl ?_
  refine Tri.run 1 [] [.keep [1] [1]] (K' := [.code [(1, 0), (0, 0)] 0, .code [(1, 0)] 1, .code [] 2]) (σ' := ⟨[(1, .ptr 1 0)], [(1, .box [.int .i64 a0, .list (.ints a1)])]⟩) rfl trivial rfl ?_
  obtain ⟨v1, hk1, h⟩ := bind_some h
  rcases bif_some h with ⟨hd2, h⟩ | ⟨hd2, h⟩
  · refine Tri.run 1 [.r ⟨[], .bool v1, []⟩, .g true, .g true] [.keep [1, 22] [1]] (K' := [.code [(1, 0)] 1, .code [] 2]) (σ' := ⟨[(1, .ptr 1 0), (22, .bool true)], [(1, .box [.int .i64 a0, .list (.ints a1)])]⟩) rfl ⟨rfl, hd2, (w_impl_within a0 (1 : Int) (5 : Int) v1 hk1), trivial⟩ rfl ?_
    refine Tri.run 2 [.g true] [.keep [2] []] (K' := [.code [(1, 0), (1, 0)] 1, .code [] 2]) (σ' := ⟨[(2, .bool false)], []⟩) rfl ⟨rfl, trivial⟩ rfl ?_
    have h := Option.some.inj h
    subst h
    exact Tri.ret rfl ⟨.inl rfl, rfl, rfl⟩
  · obtain ⟨hg3, h⟩ := grd_some h
    rcases bif_some h with ⟨hd4, h⟩ | ⟨hd4, h⟩
    · refine Tri.run 1 [.r ⟨[], .bool v1, []⟩, .g false, .g true] [.keep [1, 22] [1]] (K' := [.code [(1, 0)] 1, .code [] 2]) (σ' := ⟨[(1, .ptr 1 0), (22, .bool true)], [(1, .box [.int .i64 a0, .list (.ints a1)])]⟩) rfl ⟨hd4, hg3, hd2, (w_impl_within a0 (1 : Int) (5 : Int) v1 hk1), trivial⟩ rfl ?_
      refine Tri.run 2 [.g true] [.keep [2] []] (K' := [.code [(1, 0), (1, 0)] 1, .code [] 2]) (σ' := ⟨[(2, .bool false)], []⟩) rfl ⟨rfl, trivial⟩ rfl ?_
      have h := Option.some.inj h
      subst h
      exact Tri.ret rfl ⟨.inl rfl, rfl, rfl⟩
    · obtain ⟨hg5, h⟩ := grd_some h
      refine Tri.run 1 [.r ⟨[], .bool v1, []⟩, .g false, .g false] [.keep [1, 22] [1]] (K' := [.code [(1, 0)] 1, .code [] 2]) (σ' := ⟨[(1, .ptr 1 0), (22, .bool ((a1.getD ((0 : Int).toNat) 0) != (0 : Int)))], [(1, .box [.int .i64 a0, .list (.ints a1)])]⟩) rfl ⟨hg5, hd4, hg3, hd2, (w_impl_within a0 (1 : Int) (5 : Int) v1 hk1), trivial⟩ rfl ?_
      rcases bif_some h with ⟨hd6, h⟩ | ⟨hd6, h⟩
      · refine Tri.run 2 [.g true] [.keep [2] []] (K' := [.code [(1, 0), (1, 0)] 1, .code [] 2]) (σ' := ⟨[(2, .bool false)], []⟩) rfl ⟨hd6, trivial⟩ rfl ?_
        have h := Option.some.inj h
        subst h
        exact Tri.ret rfl ⟨.inl rfl, rfl, rfl⟩
      · obtain ⟨v2, hk7, h⟩ := bind_some h
        refine Tri.run 2 [.g false, .r ⟨[], .bool v2, []⟩] [.keep [2] []] (K' := [.code [] 3]) (σ' := ⟨[(2, .bool (!v2))], []⟩) rfl ⟨(w_slices_ContainsFunc_int_int_impl_IsValidGame_1 a1 v2 hk7), hd6, trivial⟩ rfl ?_
        have h := Option.some.inj h
        subst h
        exact Tri.ret rfl ⟨.inl rfl, rfl, rfl⟩
/-! impl.ScaleGame$1 -/
noncomputable def E_impl_ScaleGame_1 : Env := ⟨Try.prog, tys, (Try.f73.body).getD .skip, 6, tysOk, mixedOk⟩
abbrev q_impl_ScaleGame_1 (r : Bool) (σ' : ASt) : Prop := resAV E_impl_ScaleGame_1.T σ' Try.f73.results.toList = some (.bool r) ∧ keepO σ'.ob (namesO []) = []
noncomputable def m_impl_ScaleGame_1 (a0 : Int) : Option Bool :=
(m_impl_within a0 (-500 : Int) (500 : Int)).bind fun v1 =>
some (!v1)
theorem w_impl_ScaleGame_1 (a0 : Int) (r : Bool) (h : m_impl_ScaleGame_1 a0 = some r) : AM.Spec Try.prog 73 [.int .i64 a0] [] (.bool r) [] := by
  refine spec_of (E := E_impl_ScaleGame_1) Try.func73 rfl rfl rfl rfl ?_
  refine Tri.run 1 [] [.keep [0] []] (K' := [.code [(1, 0)] 0, .code [] 2]) (σ' := ⟨[(0, .int .i64 a0)], []⟩) rfl trivial rfl ?_
  obtain ⟨v1, hk1, h⟩ := bind_some h
  refine Tri.run 1 [.r ⟨[], .bool v1, []⟩] [.keep [2] []] (K' := [.code [] 2]) (σ' := ⟨[(2, .bool (!v1))], []⟩) rfl ⟨(w_impl_within a0 (-500 : Int) (500 : Int) v1 hk1), trivial⟩ rfl ?_
  have h := Option.some.inj h
  subst h
  exact Tri.ret rfl ⟨.inl rfl, rfl, rfl⟩
/-! slices.IndexFunc(()int,int) -/
abbrev q_slices_IndexFunc_int_int_impl_ScaleGame_1 (r : Int) (σ' : ASt) : Prop := resAV E_slices_IndexFunc_int_int.T σ' Try.f106.results.toList = some (.int .i64 r) ∧ keepO σ'.ob (namesO []) = []
noncomputable def l_slices_IndexFunc_int_int_impl_ScaleGame_1_0 (a0 : List Int) (v1 : Int) : Option (Int ⊕ (Unit ⊕ Int)) :=
bif decide (v1 < (a0.length : Int)) then
(grd ((0 : Int) ≤ v1 ∧ v1 < (a0.length : Int)) <|
(m_impl_ScaleGame_1 (a0.getD v1.toNat 0)).bind fun v2 =>
bif v2 then
(some (.inr (.inr v1)))
else
(some (.inl (IntKind.i64.wrap (v1 + (1 : Int))))))
else
(some (.inr (.inl ())))
noncomputable def m_slices_IndexFunc_int_int_impl_ScaleGame_1 (a0 : List Int) : Option Int :=
(iter (l_slices_IndexFunc_int_int_impl_ScaleGame_1_0 a0) (0 : Int)).bind fun
| (.inl _) => (
some (-1 : Int))
| (.inr r) => some r
theorem w_slices_IndexFunc_int_int_impl_ScaleGame_1 (a0 : List Int) (r : Int) (h : m_slices_IndexFunc_int_int_impl_ScaleGame_1 a0 = some r) : AM.Spec Try.prog 106 [.list (.ints a0), .func 73 [] []] [] (.int .i64 r) [] := by
  refine spec_of (E := E_slices_IndexFunc_int_int) Try.func106 rfl rfl rfl rfl ?_
  refine Tri.run 2 [] [.keep [0, 1, 7, 8] []] (K' := [.code [(1, 0), (1, 0)] 0, .blk 0, .code [] 2]) (σ' := ⟨[(0, .list (.ints a0)), (1, .func 73 [] []), (7, .int .i64 (a0.length : Int)), (8, .int .i64 (0 : Int))], []⟩) rfl trivial rfl ?_
  obtain ⟨x1, hk5, h⟩ := bind_some h
  refine Tri.loop (K1 := [.code [(1, 0), (1, 0), (0, 0)] 0]) (K2 := [.blk 0, .code [] 2]) (fun v1 => ⟨[(0, .list (.ints a0)), (1, .func 73 [] []), (7, .int .i64 (a0.length : Int)), (8, .int .i64 v1)], []⟩) (fun x e σ' => match x with | (.inl _) => e = .exit 0 ∧ σ' = ⟨[], []⟩ | (.inr r) => e = .ret ∧ q_slices_IndexFunc_int_int_impl_ScaleGame_1 r σ') hk5 rfl rfl ?_ ?_
  · intro v1 x hs
    clear h
    have h := hs
    clear hs
    refine Tri.run 1 [] [.keep [0, 1, 7, 8, 9] []] (K' := [.code [(1, 0), (1, 0), (0, 0), (1, 0)] 0, .code [(1, 0), (1, 0), (0, 0)] 2]) (σ' := ⟨[(0, .list (.ints a0)), (1, .func 73 [] []), (7, .int .i64 (a0.length : Int)), (8, .int .i64 v1), (9, .bool (decide (v1 < (a0.length : Int))))], []⟩) rfl trivial rfl ?_
    rcases bif_some h with ⟨hd1, h⟩ | ⟨hd1, h⟩
    · refine Tri.run 2 [.g true] [.keep [0, 1, 5, 7, 8] []] (K' := [.code [(1, 0), (1, 0), (0, 0), (2, 0), (0, 0), (1, 0)] 0, .code [(1, 0), (1, 0), (0, 0), (2, 0), (0, 0)] 2, .blk 1, .code [(1, 0), (1, 0), (0, 0)] 3]) (σ' := ⟨[(0, .list (.ints a0)), (1, .func 73 [] []), (5, .int .i64 v1), (7, .int .i64 (a0.length : Int)), (8, .int .i64 v1)], []⟩) rfl ⟨hd1, trivial⟩ rfl ?_
      obtain ⟨hg2, h⟩ := grd_some h
      obtain ⟨v2, hk3, h⟩ := bind_some h
      refine Tri.run 1 [.r ⟨[], .bool v2, []⟩] [.keep [0, 1, 5, 7, 8, 16] []] (K' := [.code [(1, 0), (1, 0), (0, 0), (2, 0), (0, 0)] 2, .blk 1, .code [(1, 0), (1, 0), (0, 0)] 3]) (σ' := ⟨[(0, .list (.ints a0)), (1, .func 73 [] []), (5, .int .i64 v1), (7, .int .i64 (a0.length : Int)), (8, .int .i64 v1), (16, .bool v2)], []⟩) rfl ⟨(w_impl_ScaleGame_1 (a0.getD v1.toNat 0) v2 hk3), hg2, trivial⟩ rfl ?_
      rcases bif_some h with ⟨hd4, h⟩ | ⟨hd4, h⟩
      · refine Tri.run 2 [.g true] [.keep [4] []] (K' := [.code [(1, 0), (1, 0), (0, 0), (2, 0), (0, 0), (2, 0)] 1, .blk 1, .code [(1, 0), (1, 0), (0, 0)] 3]) (σ' := ⟨[(4, .int .i64 v1)], []⟩) rfl ⟨hd4, trivial⟩ rfl ?_
        have h := Option.some.inj h
        subst h
        exact Tri.ret rfl ⟨nofun, rfl, rfl, rfl⟩
      · refine Tri.run 2 [.g false] [.keep [0, 1, 7, 8] []] (K' := []) (σ' := ⟨[(0, .list (.ints a0)), (1, .func 73 [] []), (7, .int .i64 (a0.length : Int)), (8, .int .i64 (IntKind.i64.wrap (v1 + (1 : Int))))], []⟩) rfl ⟨hd4, trivial⟩ rfl ?_
        have h := Option.some.inj h
        subst h
        exact Tri.nil ⟨rfl, rfl⟩
    · refine Tri.run 1 [.g false] [.keep [] []] (K' := [.code [(1, 0), (1, 0), (0, 0), (1, 0), (0, 1)] 0, .code [(1, 0), (1, 0), (0, 0)] 2]) (σ' := ⟨[], []⟩) rfl ⟨hd1, trivial⟩ rfl ?_
      have h := Option.some.inj h
      subst h
      exact Tri.out 0 rfl ⟨nofun, rfl, rfl⟩
  · intro e σ' hne hq
    rcases x1 with _ | r
    · obtain ⟨rfl, rfl⟩ := hq
      refine TriX.exit (K' := [.code [] 2]) rfl ?_
      refine Tri.run 1 [] [.keep [4] []] (K' := [.code [] 3]) (σ' := ⟨[(4, .int .i64 (-1 : Int))], []⟩) rfl trivial rfl ?_
      have h := Option.some.inj h
      subst h
      exact Tri.ret rfl ⟨.inl rfl, rfl, rfl⟩
    · obtain ⟨rfl, hq⟩ := hq
      have h := Option.some.inj h
      subst h
      exact TriX.ret ⟨.inl rfl, hq⟩
/-! slices.ContainsFunc(()int,int) -/
abbrev q_slices_ContainsFunc_int_int_impl_ScaleGame_1 (r : Bool) (σ' : ASt) : Prop := resAV E_slices_ContainsFunc_int_int.T σ' Try.f74.results.toList = some (.bool r) ∧ keepO σ'.ob (namesO []) = []
noncomputable def m_slices_ContainsFunc_int_int_impl_ScaleGame_1 (a0 : List Int) : Option Bool :=
(m_slices_IndexFunc_int_int_impl_ScaleGame_1 a0).bind fun v1 =>
some (decide (v1 ≥ (0 : Int)))
theorem w_slices_ContainsFunc_int_int_impl_ScaleGame_1 (a0 : List Int) (r : Bool) (h : m_slices_ContainsFunc_int_int_impl_ScaleGame_1 a0 = some r) : AM.Spec Try.prog 74 [.list (.ints a0), .func 73 [] []] [] (.bool r) [] := by
  refine spec_of (E := E_slices_ContainsFunc_int_int) Try.func74 rfl rfl rfl rfl ?_
  refine Tri.run 1 [] [.keep [0, 1] []] (K' := [.code [(1, 0)] 0, .code [] 2]) (σ' := ⟨[(0, .list (.ints a0)), (1, .func 73 [] [])], []⟩) rfl trivial rfl ?_
  obtain ⟨v1, hk1, h⟩ := bind_some h
  refine Tri.run 1 [.r ⟨[], .int .i64 v1, []⟩] [.keep [4] []] (K' := [.code [] 2]) (σ' := ⟨[(4, .bool (decide (v1 ≥ (0 : Int))))], []⟩) rfl ⟨(w_slices_IndexFunc_int_int_impl_ScaleGame_1 a0 v1 hk1), trivial⟩ rfl ?_
  have h := Option.some.inj h
  subst h
  exact Tri.ret rfl ⟨.inl rfl, rfl, rfl⟩
/-! impl.CountCoalitions -/
noncomputable def E_impl_CountCoalitions : Env := ⟨Try.prog, tys, (Try.f67.body).getD .skip, 8, tysOk, mixedOk⟩
abbrev q_impl_CountCoalitions (r : Int) (σ' : ASt) : Prop := resAV E_impl_CountCoalitions.T σ' Try.f67.results.toList = some (.int .i64 r) ∧ keepO σ'.ob (namesO []) = []
noncomputable def m_impl_CountCoalitions (a0 : Int) : Option Int :=
(m_impl_within a0 (0 : Int) (5 : Int)).bind fun v1 =>
bif !v1 then
(some (0 : Int))
else
(grd ((0 : Int) ≤ a0) <|
some (IntKind.i64.wrap ((1 : Int) * 2 ^ (min a0.toNat 64))))
theorem w_impl_CountCoalitions (a0 : Int) (r : Int) (h : m_impl_CountCoalitions a0 = some r) : AM.Spec Try.prog 67 [.int .i64 a0] [] (.int .i64 r) [] := by
  refine spec_of (E := E_impl_CountCoalitions) Try.func67 rfl rfl rfl rfl ?_
  refine Tri.run 1 [] [.keep [0] []] (K' := [.code [(1, 0), (0, 0)] 0, .code [(1, 0)] 1, .code [] 2]) (σ' := ⟨[(0, .int .i64 a0)], []⟩) rfl trivial rfl ?_
  obtain ⟨v1, hk1, h⟩ := bind_some h
  refine Tri.run 1 [.r ⟨[], .bool v1, []⟩] [.keep [0, 5] []] (K' := [.code [(1, 0)] 1, .code [] 2]) (σ' := ⟨[(0, .int .i64 a0), (5, .bool (!v1))], []⟩) rfl ⟨(w_impl_within a0 (0 : Int) (5 : Int) v1 hk1), trivial⟩ rfl ?_
  rcases bif_some h with ⟨hd2, h⟩ | ⟨hd2, h⟩
  · refine Tri.run 2 [.g true] [.keep [2] []] (K' := [.code [(1, 0), (1, 0)] 1, .code [] 2]) (σ' := ⟨[(2, .int .i64 (0 : Int))], []⟩) rfl ⟨hd2, trivial⟩ rfl ?_
    have h := Option.some.inj h
    subst h
    exact Tri.ret rfl ⟨.inl rfl, rfl, rfl⟩
  · obtain ⟨hg3, h⟩ := grd_some h
    refine Tri.run 2 [.g false] [.keep [2] []] (K' := [.code [] 3]) (σ' := ⟨[(2, .int .i64 (IntKind.i64.wrap ((1 : Int) * 2 ^ (min a0.toNat 64))))], []⟩) rfl ⟨hg3, hd2, trivial⟩ rfl ?_
    have h := Option.some.inj h
    subst h
    exact Tri.ret rfl ⟨.inl rfl, rfl, rfl⟩
/-! impl.sumOver -/
noncomputable def E_impl_sumOver : Env := ⟨Try.prog, tys, (Try.f76.body).getD .skip, 25, tysOk, mixedOk⟩
abbrev q_impl_sumOver (r : Int) (σ' : ASt) : Prop := resAV E_impl_sumOver.T σ' Try.f76.results.toList = some (.int .i64 r) ∧ keepO σ'.ob (namesO []) = []
noncomputable def l_impl_sumOver_0 (a0 : List Int) (a1 : Int) : (Int × Int) → Option ((Int × Int) ⊕ Int)
  | (v1, v2) => (
bif decide (v2 < (a0.length : Int)) then
(grd ((0 : Int) ≤ v2 ∧ v2 < (a0.length : Int)) <|
grd ((0 : Int) ≤ v2) <|
bif (bitsOf .and .i64 (a1.fdiv (2 ^ (min v2.toNat 64))) (1 : Int)) == (1 : Int) then
(some (.inl (IntKind.i64.wrap (v1 + (a0.getD v2.toNat 0)), IntKind.i64.wrap (v2 + (1 : Int)))))
else
(some (.inl (v1, IntKind.i64.wrap (v2 + (1 : Int))))))
else
(some (.inr v1)))
noncomputable def m_impl_sumOver (a0 : List Int) (a1 : Int) : Option Int :=
(iter (l_impl_sumOver_0 a0 a1) ((0 : Int), (0 : Int))).bind fun
| v3 => (
some v3)
theorem w_impl_sumOver (a0 : List Int) (a1 : Int) (r : Int) (h : m_impl_sumOver a0 a1 = some r) : AM.Spec Try.prog 76 [.list (.ints a0), .int .i64 a1] [] (.int .i64 r) [] := by
  refine spec_of (E := E_impl_sumOver) Try.func76 rfl rfl rfl rfl ?_
  refine Tri.run 3 [] [.keep [1, 5, 8, 9, 10] []] (K' := [.code [(2, 0), (1, 0)] 0, .blk 0, .code [] 3]) (σ' := ⟨[(1, .int .i64 a1), (5, .int .i64 (0 : Int)), (8, .list (.ints a0)), (9, .int .i64 (a0.length : Int)), (10, .int .i64 (0 : Int))], []⟩) rfl trivial rfl ?_
  obtain ⟨v3, hk5, h⟩ := bind_some h
  refine Tri.loop (K1 := [.code [(2, 0), (1, 0), (0, 0)] 0]) (K2 := [.blk 0, .code [] 3]) (fun (v1, v2) => ⟨[(1, .int .i64 a1), (5, .int .i64 v1), (8, .list (.ints a0)), (9, .int .i64 (a0.length : Int)), (10, .int .i64 v2)], []⟩) (fun x e σ' => match x with | v3 => e = .exit 0 ∧ σ' = ⟨[(5, .int .i64 v3)], []⟩) hk5 rfl rfl ?_ ?_
  · intro s x hs
    clear h
    have h := hs
    clear hs
    obtain ⟨v1, v2⟩ := s
    refine Tri.run 1 [] [.keep [1, 5, 8, 9, 10, 11] []] (K' := [.code [(2, 0), (1, 0), (0, 0), (1, 0)] 0, .code [(2, 0), (1, 0), (0, 0)] 2]) (σ' := ⟨[(1, .int .i64 a1), (5, .int .i64 v1), (8, .list (.ints a0)), (9, .int .i64 (a0.length : Int)), (10, .int .i64 v2), (11, .bool (decide (v2 < (a0.length : Int))))], []⟩) rfl trivial rfl ?_
    rcases bif_some h with ⟨hd1, h⟩ | ⟨hd1, h⟩
    · obtain ⟨hg2, h⟩ := grd_some h
      obtain ⟨hg3, h⟩ := grd_some h
      refine Tri.run 3 [.g true] [.keep [1, 5, 7, 8, 9, 10, 19] []] (K' := [.code [(2, 0), (1, 0), (0, 0), (2, 0), (0, 0)] 2, .blk 1, .code [(2, 0), (1, 0), (0, 0)] 3]) (σ' := ⟨[(1, .int .i64 a1), (5, .int .i64 v1), (7, .int .i64 (a0.getD v2.toNat 0)), (8, .list (.ints a0)), (9, .int .i64 (a0.length : Int)), (10, .int .i64 v2), (19, .bool ((bitsOf .and .i64 (a1.fdiv (2 ^ (min v2.toNat 64))) (1 : Int)) == (1 : Int)))], []⟩) rfl ⟨hg3, hg2, hd1, trivial⟩ rfl ?_
      rcases bif_some h with ⟨hd4, h⟩ | ⟨hd4, h⟩
      · refine Tri.run 3 [.g true] [.keep [1, 5, 8, 9, 10] []] (K' := []) (σ' := ⟨[(1, .int .i64 a1), (5, .int .i64 (IntKind.i64.wrap (v1 + (a0.getD v2.toNat 0)))), (8, .list (.ints a0)), (9, .int .i64 (a0.length : Int)), (10, .int .i64 (IntKind.i64.wrap (v2 + (1 : Int))))], []⟩) rfl ⟨hd4, trivial⟩ rfl ?_
        have h := Option.some.inj h
        subst h
        exact Tri.nil ⟨rfl, rfl⟩
      · refine Tri.run 2 [.g false] [.keep [1, 5, 8, 9, 10] []] (K' := []) (σ' := ⟨[(1, .int .i64 a1), (5, .int .i64 v1), (8, .list (.ints a0)), (9, .int .i64 (a0.length : Int)), (10, .int .i64 (IntKind.i64.wrap (v2 + (1 : Int))))], []⟩) rfl ⟨hd4, trivial⟩ rfl ?_
        have h := Option.some.inj h
        subst h
        exact Tri.nil ⟨rfl, rfl⟩
    · refine Tri.run 1 [.g false] [.keep [5] []] (K' := [.code [(2, 0), (1, 0), (0, 0), (1, 0), (0, 1)] 0, .code [(2, 0), (1, 0), (0, 0)] 2]) (σ' := ⟨[(5, .int .i64 v1)], []⟩) rfl ⟨hd1, trivial⟩ rfl ?_
      have h := Option.some.inj h
      subst h
      exact Tri.out 0 rfl ⟨nofun, rfl, rfl⟩
  · intro e σ' hne hq
    obtain ⟨rfl, rfl⟩ := hq
    refine TriX.exit (K' := [.code [] 3]) rfl ?_
    refine Tri.run 1 [] [.keep [4] []] (K' := [.code [] 4]) (σ' := ⟨[(4, .int .i64 v3)], []⟩) rfl trivial rfl ?_
    have h := Option.some.inj h
    subst h
    exact Tri.ret rfl ⟨.inl rfl, rfl, rfl⟩
/-! impl.ScaleGame$2 -/
noncomputable def E_impl_ScaleGame_2 : Env := ⟨Try.prog, tys, (Try.f75.body).getD .skip, 17, tysOk, mixedOk⟩
abbrev q_impl_ScaleGame_2 (r : Int) (σ' : ASt) : Prop := resAV E_impl_ScaleGame_2.T σ' Try.f75.results.toList = some (.int .i64 r) ∧ keepO σ'.ob (namesO []) = []
noncomputable def m_impl_ScaleGame_2 (a0 : Int) (a1 : Int) (_a2 : Int) (a3 : List Int) (a4 : List Int) : Option Int :=
grd ((0 : Int) ≤ a0 ∧ a0 < (a3.length : Int)) <|
(m_impl_sumOver a4 a0).bind fun v1 =>
some (IntKind.i64.wrap ((IntKind.i64.wrap (a1 * (a3.getD a0.toNat 0))) + v1))
theorem w_impl_ScaleGame_2 (a0 : Int) (a1 : Int) (a2 : Int) (a3 : List Int) (a4 : List Int) (r : Int) (h : m_impl_ScaleGame_2 a0 a1 a2 a3 a4 = some r) : AM.Spec Try.prog 75 [.int .i64 a0, .pbox [.int .i64 a1] 0, .pbox [.int .i64 a2, .list (.ints a3)] 0, .pbox [.list (.ints a4)] 0] [] (.int .i64 r) [] := by
  refine spec_of (E := E_impl_ScaleGame_2) Try.func75 rfl rfl rfl rfl ?_
  refine Tri.run 1 [] [.keep [0, 1, 2, 3] []] (K' := [.code [(1, 0)] 0, .code [] 2]) (σ' := ⟨[(0, .int .i64 a0), (1, .pbox [.int .i64 a1] 0), (2, .pbox [.int .i64 a2, .list (.ints a3)] 0), (3, .pbox [.list (.ints a4)] 0)], []⟩) rfl trivial rfl ?_
  obtain ⟨hg1, h⟩ := grd_some h
  obtain ⟨v1, hk2, h⟩ := bind_some h
  refine Tri.run 1 [.r ⟨[], .int .i64 v1, []⟩] [.keep [5] []] (K' := [.code [] 2]) (σ' := ⟨[(5, .int .i64 (IntKind.i64.wrap ((IntKind.i64.wrap (a1 * (a3.getD a0.toNat 0))) + v1)))], []⟩) rfl ⟨(w_impl_sumOver a4 a0 v1 hk2), hg1, trivial⟩ rfl ?_
  have h := Option.some.inj h
  subst h
  exact Tri.ret rfl ⟨.inl rfl, rfl, rfl⟩
/-! impl.made -/
noncomputable def E_impl_made : Env := ⟨Try.prog, tys, (Try.f68.body).getD .skip, 29, tysOk, mixedOk⟩
abbrev q_impl_made_impl_ScaleGame_2 (r : Int × Bool × (List Int)) (σ' : ASt) : Prop := resAV E_impl_made.T σ' Try.f68.results.toList = some (.tuple [.agg [.int .i64 r.1, .sl 1000 0], .bool r.2.1]) ∧ keepO σ'.ob (namesO [(1000, .arr 3 0 0 (.ints r.2.2))]) = [(1000, .arr 3 0 0 (.ints r.2.2))]
noncomputable def l_impl_made_impl_ScaleGame_2_0 (a1 : Int) (a2 : Int) (a3 : List Int) (a4 : List Int) (v1 : Int) : (Int × (List Int)) → Option ((Int × (List Int)) ⊕ ((List Int)))
  | (v2, v3) => (
bif decide (v2 < v1) then
((m_impl_ScaleGame_2 v2 a1 a2 a3 a4).bind fun v4 =>
grd (v3.length + ([v4] : List Int).length ≤ room) <|
some (.inl (IntKind.i64.wrap (v2 + (1 : Int)), v3 ++ [v4])))
else
(some (.inr v3)))
noncomputable def m_impl_made_impl_ScaleGame_2 (a0 : Int) (a1 : Int) (a2 : Int) (a3 : List Int) (a4 : List Int) : Option (Int × Bool × (List Int)) :=
(m_impl_CountCoalitions a0).bind fun v1 =>
(iter (l_impl_made_impl_ScaleGame_2_0 a1 a2 a3 a4 v1) ((0 : Int), [])).bind fun
| v5 => (
(m_impl_IsValidGame a0 v5).bind fun v6 =>
bif !v6 then
(some (0, false, []))
else
(some (a0, true, v5)))
theorem w_impl_made_impl_ScaleGame_2 (a0 : Int) (a1 : Int) (a2 : Int) (a3 : List Int) (a4 : List Int) (r : Int × Bool × (List Int)) (h : m_impl_made_impl_ScaleGame_2 a0 a1 a2 a3 a4 = some r) : AM.Spec Try.prog 68 [.int .i64 a0, .func 75 [] [.pbox [.int .i64 a1] 0, .pbox [.int .i64 a2, .list (.ints a3)] 0, .pbox [.list (.ints a4)] 0]] [] (.tuple [.agg [.int .i64 r.1, .sl 1000 0], .bool r.2.1]) [(1000, .arr 3 0 0 (.ints r.2.2))] := by
  refine spec_of (E := E_impl_made) Try.func68 rfl rfl rfl rfl ?_
  refine Tri.run 2 [] [.keep [0, 1, 4, 6] [4, 6]] (K' := [.code [(2, 0), (0, 0)] 0, .code [(2, 0)] 1, .code [] 3]) (σ' := ⟨[(0, .int .i64 a0), (1, .func 75 [] [.pbox [.int .i64 a1] 0, .pbox [.int .i64 a2, .list (.ints a3)] 0, .pbox [.list (.ints a4)] 0]), (4, .ptr 4 0), (6, .ptr 6 0)], [(4, .box [.int .i64 0, .nil (.ints [])]), (6, .box [.int .i64 a0, .nil (.ints [])])]⟩) rfl trivial rfl ?_
  obtain ⟨v1, hk1, h⟩ := bind_some h
  refine Tri.run 1 [.r ⟨[], .int .i64 v1, []⟩] [.ownc 4 1 1100 3, .ownc 6 1 1101 3, .keep [1, 4, 6, 11, 12] [4, 6, 1100, 1101]] (K' := [.code [(2, 0), (1, 0)] 0, .blk 0, .code [] 3]) (σ' := ⟨[(1, .func 75 [] [.pbox [.int .i64 a1] 0, .pbox [.int .i64 a2, .list (.ints a3)] 0, .pbox [.list (.ints a4)] 0]), (4, .ptr 4 0), (6, .ptr 6 0), (11, .int .i64 v1), (12, .int .i64 (0 : Int))], [(4, .box [.int .i64 0, .sl 1100 0]), (6, .box [.int .i64 a0, .sl 1101 0]), (1100, .arr 3 0 0 (.ints [])), (1101, .arr 3 0 0 (.ints []))]⟩) rfl ⟨(w_impl_CountCoalitions a0 v1 hk1), trivial⟩ rfl ?_
  obtain ⟨v5, hk5, h⟩ := bind_some h
  refine Tri.loop (K1 := [.code [(2, 0), (1, 0), (0, 0)] 0]) (K2 := [.blk 0, .code [] 3]) (fun (v2, v3) => ⟨[(1, .func 75 [] [.pbox [.int .i64 a1] 0, .pbox [.int .i64 a2, .list (.ints a3)] 0, .pbox [.list (.ints a4)] 0]), (4, .ptr 4 0), (6, .ptr 6 0), (11, .int .i64 v1), (12, .int .i64 v2)], [(4, .box [.int .i64 0, .sl 1100 0]), (6, .box [.int .i64 a0, .sl 1101 0]), (1100, .arr 3 0 0 (.ints [])), (1101, .arr 3 0 0 (.ints v3))]⟩) (fun x e σ' => match x with | v5 => e = .exit 0 ∧ σ' = ⟨[(4, .ptr 4 0), (6, .ptr 6 0)], [(4, .box [.int .i64 0, .sl 1100 0]), (6, .box [.int .i64 a0, .sl 1101 0]), (1100, .arr 3 0 0 (.ints [])), (1101, .arr 3 0 0 (.ints v5))]⟩) hk5 rfl rfl ?_ ?_
  · intro s x hs
    clear h
    have h := hs
    clear hs
    obtain ⟨v2, v3⟩ := s
    refine Tri.run 1 [] [.keep [1, 4, 6, 11, 12, 13] [4, 6, 1100, 1101]] (K' := [.code [(2, 0), (1, 0), (0, 0), (1, 0)] 0, .code [(2, 0), (1, 0), (0, 0)] 2]) (σ' := ⟨[(1, .func 75 [] [.pbox [.int .i64 a1] 0, .pbox [.int .i64 a2, .list (.ints a3)] 0, .pbox [.list (.ints a4)] 0]), (4, .ptr 4 0), (6, .ptr 6 0), (11, .int .i64 v1), (12, .int .i64 v2), (13, .bool (decide (v2 < v1)))], [(4, .box [.int .i64 0, .sl 1100 0]), (6, .box [.int .i64 a0, .sl 1101 0]), (1100, .arr 3 0 0 (.ints [])), (1101, .arr 3 0 0 (.ints v3))]⟩) rfl trivial rfl ?_
    rcases bif_some h with ⟨hd2, h⟩ | ⟨hd2, h⟩
    · refine Tri.run 2 [.g true] [.keep [1, 4, 6, 7, 11, 12] [4, 6, 1100, 1101]] (K' := [.code [(2, 0), (1, 0), (0, 0), (2, 0), (0, 0)] 1, .blk 1, .code [(2, 0), (1, 0), (0, 0)] 3]) (σ' := ⟨[(1, .func 75 [] [.pbox [.int .i64 a1] 0, .pbox [.int .i64 a2, .list (.ints a3)] 0, .pbox [.list (.ints a4)] 0]), (4, .ptr 4 0), (6, .ptr 6 0), (7, .int .i64 v2), (11, .int .i64 v1), (12, .int .i64 v2)], [(4, .box [.int .i64 0, .sl 1100 0]), (6, .box [.int .i64 a0, .sl 1101 0]), (1100, .arr 3 0 0 (.ints [])), (1101, .arr 3 0 0 (.ints v3))]⟩) rfl ⟨hd2, trivial⟩ rfl ?_
      obtain ⟨v4, hk3, h⟩ := bind_some h
      obtain ⟨hg4, h⟩ := grd_some h
      refine Tri.run 2 [.r ⟨[], .int .i64 v4, []⟩] [.rever 1101, .keep [1, 4, 6, 11, 12] [4, 6, 1100, 1101]] (K' := []) (σ' := ⟨[(1, .func 75 [] [.pbox [.int .i64 a1] 0, .pbox [.int .i64 a2, .list (.ints a3)] 0, .pbox [.list (.ints a4)] 0]), (4, .ptr 4 0), (6, .ptr 6 0), (11, .int .i64 v1), (12, .int .i64 (IntKind.i64.wrap (v2 + (1 : Int))))], [(4, .box [.int .i64 0, .sl 1100 0]), (6, .box [.int .i64 a0, .sl 1101 0]), (1100, .arr 3 0 0 (.ints [])), (1101, .arr 3 0 0 (.ints (v3 ++ [v4])))]⟩) rfl ⟨hg4, (w_impl_ScaleGame_2 v2 a1 a2 a3 a4 v4 hk3), trivial⟩ rfl ?_
      have h := Option.some.inj h
      subst h
      exact Tri.nil ⟨rfl, rfl⟩
    · refine Tri.run 1 [.g false] [.keep [4, 6] [4, 6, 1100, 1101]] (K' := [.code [(2, 0), (1, 0), (0, 0), (1, 0), (0, 1)] 0, .code [(2, 0), (1, 0), (0, 0)] 2]) (σ' := ⟨[(4, .ptr 4 0), (6, .ptr 6 0)], [(4, .box [.int .i64 0, .sl 1100 0]), (6, .box [.int .i64 a0, .sl 1101 0]), (1100, .arr 3 0 0 (.ints [])), (1101, .arr 3 0 0 (.ints v3))]⟩) rfl ⟨hd2, trivial⟩ rfl ?_
      have h := Option.some.inj h
      subst h
      exact Tri.out 0 rfl ⟨nofun, rfl, rfl⟩
  · intro e σ' hne hq
    obtain ⟨rfl, rfl⟩ := hq
    refine TriX.exit (K' := [.code [] 3]) rfl ?_
    obtain ⟨v6, hk6, h⟩ := bind_some h
    refine Tri.run 1 [.r ⟨[], .bool v6, []⟩] [.keep [4, 6, 26] [4, 6, 1100, 1101]] (K' := [.code [(3, 0)] 1, .code [] 4]) (σ' := ⟨[(4, .ptr 4 0), (6, .ptr 6 0), (26, .bool (!v6))], [(4, .box [.int .i64 0, .sl 1100 0]), (6, .box [.int .i64 a0, .sl 1101 0]), (1100, .arr 3 0 0 (.ints [])), (1101, .arr 3 0 0 (.ints v5))]⟩) rfl ⟨(w_impl_IsValidGame a0 v5 v6 hk6), trivial⟩ rfl ?_
    rcases bif_some h with ⟨hd7, h⟩ | ⟨hd7, h⟩
    · refine Tri.run 2 [.g true] [.ownc 4 1 1102 3, .swap 1102 1000, .keep [4, 5] [4, 1000]] (K' := [.code [(3, 0), (1, 0)] 1, .code [] 4]) (σ' := ⟨[(4, .ptr 4 0), (5, .bool false)], [(4, .box [.int .i64 0, .sl 1000 0]), (1000, .arr 3 0 0 (.ints []))]⟩) rfl ⟨hd7, trivial⟩ rfl ?_
      have h := Option.some.inj h
      subst h
      exact Tri.ret rfl ⟨.inl rfl, rfl, rfl⟩
    · refine Tri.run 2 [.g false] [.swap 1101 1000, .keep [4, 5] [4, 1000]] (K' := [.code [] 5]) (σ' := ⟨[(4, .ptr 4 0), (5, .bool true)], [(4, .box [.int .i64 a0, .sl 1000 0]), (1000, .arr 3 0 0 (.ints v5))]⟩) rfl ⟨hd7, trivial⟩ rfl ?_
      have h := Option.some.inj h
      subst h
      exact Tri.ret rfl ⟨.inl rfl, rfl, rfl⟩
/-! impl.ScaleGame -/
noncomputable def E_impl_ScaleGame : Env := ⟨Try.prog, tys, (Try.f38.body).getD .skip, 36, tysOk, mixedOk⟩
abbrev q_impl_ScaleGame (r : Int × Bool × (List Int)) (σ' : ASt) : Prop := resAV E_impl_ScaleGame.T σ' Try.f38.results.toList = some (.tuple [.agg [.int .i64 r.1, .sl 1000 0], .bool r.2.1]) ∧ keepO σ'.ob (namesO [(1000, .arr 3 0 0 (.ints r.2.2))]) = [(1000, .arr 3 0 0 (.ints r.2.2))]
noncomputable def m_impl_ScaleGame (a0 : Int) (a1 : List Int) (a2 : Int) (a3 : List Int) : Option (Int × Bool × (List Int)) :=
(m_impl_IsValidGame a0 a1).bind fun v1 =>
bif !v1 then
(some (0, false, []))
else
((m_impl_ScaleGame_1 a2).bind fun v2 =>
bif v2 then
(some (0, false, []))
else
(bif (a3.length : Int) != a0 then
(some (0, false, []))
else
((m_slices_ContainsFunc_int_int_impl_ScaleGame_1 a3).bind fun v3 =>
bif v3 then
(some (0, false, []))
else
((m_impl_made_impl_ScaleGame_2 a0 a2 a0 a1 a3).bind fun (v4, v5, v6) =>
some (v4, v5, v6)))))
theorem w_impl_ScaleGame (a0 : Int) (a1 : List Int) (a2 : Int) (a3 : List Int) (r : Int × Bool × (List Int)) (h : m_impl_ScaleGame a0 a1 a2 a3 = some r) : AM.Spec Try.prog 38 [.agg [.int .i64 a0, .list (.ints a1)], .int .i64 a2, .list (.ints a3)] [] (.tuple [.agg [.int .i64 r.1, .sl 1000 0], .bool r.2.1]) [(1000, .arr 3 0 0 (.ints r.2.2))] := by
  refine spec_of (E := E_impl_ScaleGame) Try.func38 rfl rfl rfl rfl ?_
  refine Tri.run 2 [] [.keep [3, 4, 5, 6, 8] [3, 4, 5, 6]] (K' := [.code [(2, 0), (0, 0)] 0, .code [(2, 0)] 1, .code [] 3]) (σ' := ⟨[(3, .ptr 3 0), (4, .ptr 4 0), (5, .ptr 5 0), (6, .ptr 6 0), (8, .func 73 [] [])], [(3, .box [.int .i64 a0, .list (.ints a1)]), (4, .box [.int .i64 a2]), (5, .box [.list (.ints a3)]), (6, .box [.int .i64 0, .nil (.ints [])])]⟩) rfl trivial rfl ?_
  obtain ⟨v1, hk1, h⟩ := bind_some h
  rcases bif_some h with ⟨hd2, h⟩ | ⟨hd2, h⟩
  · refine Tri.run 1 [.r ⟨[], .bool v1, []⟩, .g true, .g true, .g true] [.keep [3, 4, 5, 6, 28] [3, 4, 5, 6]] (K' := [.code [(2, 0)] 1, .code [] 3]) (σ' := ⟨[(3, .ptr 3 0), (4, .ptr 4 0), (5, .ptr 5 0), (6, .ptr 6 0), (28, .bool true)], [(3, .box [.int .i64 a0, .list (.ints a1)]), (4, .box [.int .i64 a2]), (5, .box [.list (.ints a3)]), (6, .box [.int .i64 0, .nil (.ints [])])]⟩) rfl ⟨rfl, rfl, hd2, (w_impl_IsValidGame a0 a1 v1 hk1), trivial⟩ rfl ?_
    refine Tri.run 2 [.g true] [.ownc 6 1 1100 3, .swap 1100 1000, .keep [6, 7] [6, 1000]] (K' := [.code [(2, 0), (1, 0)] 1, .code [] 3]) (σ' := ⟨[(6, .ptr 6 0), (7, .bool false)], [(6, .box [.int .i64 0, .sl 1000 0]), (1000, .arr 3 0 0 (.ints []))]⟩) rfl ⟨rfl, trivial⟩ rfl ?_
    have h := Option.some.inj h
    subst h
    exact Tri.ret rfl ⟨.inl rfl, rfl, rfl⟩
  · obtain ⟨v2, hk3, h⟩ := bind_some h
    rcases bif_some h with ⟨hd4, h⟩ | ⟨hd4, h⟩
    · refine Tri.run 1 [.r ⟨[], .bool v1, []⟩, .g false, .r ⟨[], .bool v2, []⟩, .g true, .g true] [.keep [3, 4, 5, 6, 28] [3, 4, 5, 6]] (K' := [.code [(2, 0)] 1, .code [] 3]) (σ' := ⟨[(3, .ptr 3 0), (4, .ptr 4 0), (5, .ptr 5 0), (6, .ptr 6 0), (28, .bool true)], [(3, .box [.int .i64 a0, .list (.ints a1)]), (4, .box [.int .i64 a2]), (5, .box [.list (.ints a3)]), (6, .box [.int .i64 0, .nil (.ints [])])]⟩) rfl ⟨rfl, hd4, (w_impl_ScaleGame_1 a2 v2 hk3), hd2, (w_impl_IsValidGame a0 a1 v1 hk1), trivial⟩ rfl ?_
      refine Tri.run 2 [.g true] [.ownc 6 1 1101 3, .swap 1101 1000, .keep [6, 7] [6, 1000]] (K' := [.code [(2, 0), (1, 0)] 1, .code [] 3]) (σ' := ⟨[(6, .ptr 6 0), (7, .bool false)], [(6, .box [.int .i64 0, .sl 1000 0]), (1000, .arr 3 0 0 (.ints []))]⟩) rfl ⟨rfl, trivial⟩ rfl ?_
      have h := Option.some.inj h
      subst h
      exact Tri.ret rfl ⟨.inl rfl, rfl, rfl⟩
    · rcases bif_some h with ⟨hd5, h⟩ | ⟨hd5, h⟩
      · refine Tri.run 1 [.r ⟨[], .bool v1, []⟩, .g false, .r ⟨[], .bool v2, []⟩, .g false, .g true] [.keep [3, 4, 5, 6, 28] [3, 4, 5, 6]] (K' := [.code [(2, 0)] 1, .code [] 3]) (σ' := ⟨[(3, .ptr 3 0), (4, .ptr 4 0), (5, .ptr 5 0), (6, .ptr 6 0), (28, .bool true)], [(3, .box [.int .i64 a0, .list (.ints a1)]), (4, .box [.int .i64 a2]), (5, .box [.list (.ints a3)]), (6, .box [.int .i64 0, .nil (.ints [])])]⟩) rfl ⟨hd5, hd4, (w_impl_ScaleGame_1 a2 v2 hk3), hd2, (w_impl_IsValidGame a0 a1 v1 hk1), trivial⟩ rfl ?_
        refine Tri.run 2 [.g true] [.ownc 6 1 1102 3, .swap 1102 1000, .keep [6, 7] [6, 1000]] (K' := [.code [(2, 0), (1, 0)] 1, .code [] 3]) (σ' := ⟨[(6, .ptr 6 0), (7, .bool false)], [(6, .box [.int .i64 0, .sl 1000 0]), (1000, .arr 3 0 0 (.ints []))]⟩) rfl ⟨rfl, trivial⟩ rfl ?_
        have h := Option.some.inj h
        subst h
        exact Tri.ret rfl ⟨.inl rfl, rfl, rfl⟩
      · obtain ⟨v3, hk6, h⟩ := bind_some h
        refine Tri.run 1 [.r ⟨[], .bool v1, []⟩, .g false, .r ⟨[], .bool v2, []⟩, .g false, .g false, .r ⟨[], .bool v3, []⟩] [.keep [3, 4, 5, 6, 28] [3, 4, 5, 6]] (K' := [.code [(2, 0)] 1, .code [] 3]) (σ' := ⟨[(3, .ptr 3 0), (4, .ptr 4 0), (5, .ptr 5 0), (6, .ptr 6 0), (28, .bool v3)], [(3, .box [.int .i64 a0, .list (.ints a1)]), (4, .box [.int .i64 a2]), (5, .box [.list (.ints a3)]), (6, .box [.int .i64 0, .nil (.ints [])])]⟩) rfl ⟨(w_slices_ContainsFunc_int_int_impl_ScaleGame_1 a3 v3 hk6), hd5, hd4, (w_impl_ScaleGame_1 a2 v2 hk3), hd2, (w_impl_IsValidGame a0 a1 v1 hk1), trivial⟩ rfl ?_
        rcases bif_some h with ⟨hd7, h⟩ | ⟨hd7, h⟩
        · refine Tri.run 2 [.g true] [.ownc 6 1 1103 3, .swap 1103 1000, .keep [6, 7] [6, 1000]] (K' := [.code [(2, 0), (1, 0)] 1, .code [] 3]) (σ' := ⟨[(6, .ptr 6 0), (7, .bool false)], [(6, .box [.int .i64 0, .sl 1000 0]), (1000, .arr 3 0 0 (.ints []))]⟩) rfl ⟨hd7, trivial⟩ rfl ?_
          have h := Option.some.inj h
          subst h
          exact Tri.ret rfl ⟨.inl rfl, rfl, rfl⟩
        · obtain ⟨⟨v4, v5, v6⟩, hk8, h⟩ := bind_some h
          refine Tri.run 2 [.g false, .r ⟨[], .tuple [.agg [.int .i64 v4, .sl 1104 0], .bool v5], [(1104, .arr 3 0 0 (.ints v6))]⟩] [.swap 1104 1000, .keep [6, 7] [6, 1000]] (K' := [.code [] 4]) (σ' := ⟨[(6, .ptr 6 0), (7, .bool v5)], [(6, .box [.int .i64 v4, .sl 1000 0]), (1000, .arr 3 0 0 (.ints v6))]⟩) rfl ⟨((w_impl_made_impl_ScaleGame_2 a0 a2 a0 a1 a3 (v4, v5, v6) hk8).swap 1000 1104), hd7, trivial⟩ rfl ?_
          have h := Option.some.inj h
          subst h
          exact Tri.ret rfl ⟨.inl rfl, rfl, rfl⟩
/-! laws.eqIntS -/
noncomputable def E_laws_eqIntS : Env := ⟨Try.prog, tys, (Try.f33.body).getD .skip, 26, tysOk, mixedOk⟩
abbrev q_laws_eqIntS (r : Bool) (σ' : ASt) : Prop := resAV E_laws_eqIntS.T σ' Try.f33.results.toList = some (.bool r) ∧ keepO σ'.ob (namesO []) = []
noncomputable def l_laws_eqIntS_0 (a0 : List Int) (a1 : List Int) (v1 : Int) : Option (Int ⊕ (Unit ⊕ Bool)) :=
bif decide (v1 < (a0.length : Int)) then
(grd ((0 : Int) ≤ v1 ∧ v1 < (a0.length : Int)) <|
grd ((0 : Int) ≤ v1 ∧ v1 < (a1.length : Int)) <|
bif (a0.getD v1.toNat 0) != (a1.getD v1.toNat 0) then
(some (.inr (.inr false)))
else
(some (.inl (IntKind.i64.wrap (v1 + (1 : Int))))))
else
(some (.inr (.inl ())))
noncomputable def m_laws_eqIntS (a0 : List Int) (a1 : List Int) : Option Bool :=
bif (a0.length : Int) != (a1.length : Int) then
(some false)
else
((iter (l_laws_eqIntS_0 a0 a1) (0 : Int)).bind fun
| (.inl _) => (
some true)
| (.inr r) => some r)
theorem w_laws_eqIntS (a0 : List Int) (a1 : List Int) (r : Bool) (h : m_laws_eqIntS a0 a1 = some r) : AM.Spec Try.prog 33 [.list (.ints a0), .list (.ints a1)] [] (.bool r) [] := by
  refine spec_of (E := E_laws_eqIntS) Try.func33 rfl rfl rfl rfl ?_
  refine Tri.run 2 [] [.keep [0, 1, 10] []] (K' := [.code [(1, 0)] 1, .code [] 2]) (σ' := ⟨[(0, .list (.ints a0)), (1, .list (.ints a1)), (10, .bool ((a0.length : Int) != (a1.length : Int)))], []⟩) rfl trivial rfl ?_
  rcases bif_some h with ⟨hd1, h⟩ | ⟨hd1, h⟩
  · refine Tri.run 2 [.g true] [.keep [4] []] (K' := [.code [(1, 0), (1, 0)] 1, .code [] 2]) (σ' := ⟨[(4, .bool false)], []⟩) rfl ⟨hd1, trivial⟩ rfl ?_
    have h := Option.some.inj h
    subst h
    exact Tri.ret rfl ⟨.inl rfl, rfl, rfl⟩
  · refine Tri.run 2 [.g false] [.keep [0, 1, 5] []] (K' := [.code [(2, 0), (1, 0)] 0, .blk 0, .code [] 3]) (σ' := ⟨[(0, .list (.ints a0)), (1, .list (.ints a1)), (5, .int .i64 (0 : Int))], []⟩) rfl ⟨hd1, trivial⟩ rfl ?_
    obtain ⟨x1, hk6, h⟩ := bind_some h
    refine Tri.loop (K1 := [.code [(2, 0), (1, 0), (0, 0)] 0]) (K2 := [.blk 0, .code [] 3]) (fun v1 => ⟨[(0, .list (.ints a0)), (1, .list (.ints a1)), (5, .int .i64 v1)], []⟩) (fun x e σ' => match x with | (.inl _) => e = .exit 0 ∧ σ' = ⟨[], []⟩ | (.inr r) => e = .ret ∧ q_laws_eqIntS r σ') hk6 rfl rfl ?_ ?_
    · intro v1 x hs
      clear h
      have h := hs
      clear hs
      refine Tri.run 1 [] [.keep [0, 1, 5, 14] []] (K' := [.code [(2, 0), (1, 0), (0, 0), (0, 0)] 1, .code [(2, 0), (1, 0), (0, 0)] 1]) (σ' := ⟨[(0, .list (.ints a0)), (1, .list (.ints a1)), (5, .int .i64 v1), (14, .bool (decide (v1 < (a0.length : Int))))], []⟩) rfl trivial rfl ?_
      rcases bif_some h with ⟨hd2, h⟩ | ⟨hd2, h⟩
      · obtain ⟨hg3, h⟩ := grd_some h
        obtain ⟨hg4, h⟩ := grd_some h
        refine Tri.run 2 [.g true] [.keep [0, 1, 5, 25] []] (K' := [.code [(2, 0), (1, 0), (0, 0), (1, 0), (0, 0)] 1, .blk 1, .code [(2, 0), (1, 0), (0, 0)] 2]) (σ' := ⟨[(0, .list (.ints a0)), (1, .list (.ints a1)), (5, .int .i64 v1), (25, .bool ((a0.getD v1.toNat 0) != (a1.getD v1.toNat 0)))], []⟩) rfl ⟨hg4, hg3, hd2, trivial⟩ rfl ?_
        rcases bif_some h with ⟨hd5, h⟩ | ⟨hd5, h⟩
        · refine Tri.run 2 [.g true] [.keep [4] []] (K' := [.code [(2, 0), (1, 0), (0, 0), (1, 0), (0, 0), (1, 0)] 1, .blk 1, .code [(2, 0), (1, 0), (0, 0)] 2]) (σ' := ⟨[(4, .bool false)], []⟩) rfl ⟨hd5, trivial⟩ rfl ?_
          have h := Option.some.inj h
          subst h
          exact Tri.ret rfl ⟨nofun, rfl, rfl, rfl⟩
        · refine Tri.run 2 [.g false] [.keep [0, 1, 5] []] (K' := []) (σ' := ⟨[(0, .list (.ints a0)), (1, .list (.ints a1)), (5, .int .i64 (IntKind.i64.wrap (v1 + (1 : Int))))], []⟩) rfl ⟨hd5, trivial⟩ rfl ?_
          have h := Option.some.inj h
          subst h
          exact Tri.nil ⟨rfl, rfl⟩
      · refine Tri.run 1 [.g false] [.keep [] []] (K' := [.code [(2, 0), (1, 0), (0, 0), (0, 0), (1, 1)] 0, .code [(2, 0), (1, 0), (0, 0)] 1]) (σ' := ⟨[], []⟩) rfl ⟨hd2, trivial⟩ rfl ?_
        have h := Option.some.inj h
        subst h
        exact Tri.out 0 rfl ⟨nofun, rfl, rfl⟩
    · intro e σ' hne hq
      rcases x1 with _ | r
      · obtain ⟨rfl, rfl⟩ := hq
        refine TriX.exit (K' := [.code [] 3]) rfl ?_
        refine Tri.run 1 [] [.keep [4] []] (K' := [.code [] 4]) (σ' := ⟨[(4, .bool true)], []⟩) rfl trivial rfl ?_
        have h := Option.some.inj h
        subst h
        exact Tri.ret rfl ⟨.inl rfl, rfl, rfl⟩
      · obtain ⟨rfl, hq⟩ := hq
        have h := Option.some.inj h
        subst h
        exact TriX.ret ⟨.inl rfl, hq⟩
/-! laws.eqGame -/
noncomputable def E_laws_eqGame : Env := ⟨Try.prog, tys, (Try.f19.body).getD .skip, 16, tysOk, mixedOk⟩
abbrev q_laws_eqGame (r : Bool) (σ' : ASt) : Prop := resAV E_laws_eqGame.T σ' Try.f19.results.toList = some (.bool r) ∧ keepO σ'.ob (namesO []) = []
noncomputable def m_laws_eqGame (a0 : Int) (a1 : List Int) (a2 : Int) (a3 : List Int) : Option Bool :=
bif a0 != a2 then
(some false)
else
((m_laws_eqIntS a1 a3).bind fun v1 =>
bif !v1 then
(some false)
else
(some true))
theorem w_laws_eqGame (a0 : Int) (a1 : List Int) (a2 : Int) (a3 : List Int) (r : Bool) (h : m_laws_eqGame a0 a1 a2 a3 = some r) : AM.Spec Try.prog 19 [.agg [.int .i64 a0, .list (.ints a1)], .agg [.int .i64 a2, .list (.ints a3)]] [] (.bool r) [] := by
  refine spec_of (E := E_laws_eqGame) Try.func19 rfl rfl rfl rfl ?_
  refine Tri.run 2 [] [.keep [2, 3, 9] [2, 3]] (K' := [.code [(1, 0)] 1, .code [] 2]) (σ' := ⟨[(2, .ptr 2 0), (3, .ptr 3 0), (9, .bool (a0 != a2))], [(2, .box [.int .i64 a0, .list (.ints a1)]), (3, .box [.int .i64 a2, .list (.ints a3)])]⟩) rfl trivial rfl ?_
  rcases bif_some h with ⟨hd1, h⟩ | ⟨hd1, h⟩
  · refine Tri.run 2 [.g true] [.keep [4] []] (K' := [.code [(1, 0), (1, 0)] 1, .code [] 2]) (σ' := ⟨[(4, .bool false)], []⟩) rfl ⟨hd1, trivial⟩ rfl ?_
    have h := Option.some.inj h
    subst h
    exact Tri.ret rfl ⟨.inl rfl, rfl, rfl⟩
  · obtain ⟨v1, hk2, h⟩ := bind_some h
    refine Tri.run 2 [.g false, .r ⟨[], .bool v1, []⟩] [.keep [15] []] (K' := [.code [(2, 0)] 1, .code [] 3]) (σ' := ⟨[(15, .bool (!v1))], []⟩) rfl ⟨(w_laws_eqIntS a1 a3 v1 hk2), hd1, trivial⟩ rfl ?_
    rcases bif_some h with ⟨hd3, h⟩ | ⟨hd3, h⟩
    · refine Tri.run 2 [.g true] [.keep [4] []] (K' := [.code [(2, 0), (1, 0)] 1, .code [] 3]) (σ' := ⟨[(4, .bool false)], []⟩) rfl ⟨hd3, trivial⟩ rfl ?_
      have h := Option.some.inj h
      subst h
      exact Tri.ret rfl ⟨.inl rfl, rfl, rfl⟩
    · refine Tri.run 2 [.g false] [.keep [4] []] (K' := [.code [] 4]) (σ' := ⟨[(4, .bool true)], []⟩) rfl ⟨hd3, trivial⟩ rfl ?_
      have h := Option.some.inj h
      subst h
      exact Tri.ret rfl ⟨.inl rfl, rfl, rfl⟩
/-! laws.markIntS -/
noncomputable def E_laws_markIntS : Env := ⟨Try.prog, tys, (Try.f34.body).getD .skip, 19, tysOk, mixedOk⟩
abbrev q_laws_markIntS_io1 (r : Int × (List Int)) (σ' : ASt) : Prop := resAV E_laws_markIntS.T σ' Try.f34.results.toList = some (.int .i64 r.1) ∧ keepO σ'.ob (namesO [(2020, .arr 3 0 0 (.ints r.2))]) = [(2020, .arr 3 0 0 (.ints r.2))]
noncomputable def l_laws_markIntS_io1_0 : (Int × Int × (List Int)) → Option ((Int × Int × (List Int)) ⊕ ((Int × (List Int))))
  | (v1, v2, v3) => (
bif decide (v2 < (v3.length : Int)) then
(grd ((0 : Int) ≤ v2 ∧ v2 < (v3.length : Int)) <|
some (.inl (IntKind.i64.wrap (v1 + (1 : Int)), IntKind.i64.wrap (v2 + (1 : Int)), v3.set v2.toNat v1)))
else
(some (.inr (v1, v3))))
noncomputable def m_laws_markIntS_io1 (a0 : List Int) (a1 : Int) : Option (Int × (List Int)) :=
(iter (l_laws_markIntS_io1_0) (a1, (0 : Int), a0)).bind fun
| (v4, v5) => (
some (v4, v5))
theorem w_laws_markIntS_io1 (a0 : List Int) (a1 : Int) (r : Int × (List Int)) (h : m_laws_markIntS_io1 a0 a1 = some r) : AM.Spec Try.prog 34 [.sl 2020 0, .int .i64 a1] [(2020, .arr 3 0 0 (.ints a0))] (.int .i64 r.1) [(2020, .arr 3 0 0 (.ints r.2))] := by
  refine spec_of (E := E_laws_markIntS) Try.func34 rfl rfl rfl rfl ?_
  refine Tri.run 2 [] [.keep [0, 1, 5] [2020]] (K' := [.code [(1, 0), (1, 0)] 0, .blk 0, .code [] 2]) (σ' := ⟨[(0, .sl 2020 0), (1, .int .i64 a1), (5, .int .i64 (0 : Int))], [(2020, .arr 3 0 0 (.ints a0))]⟩) rfl trivial rfl ?_
  obtain ⟨x1, hk3, h⟩ := bind_some h
  refine Tri.loop (K1 := [.code [(1, 0), (1, 0), (0, 0)] 0]) (K2 := [.blk 0, .code [] 2]) (fun (v1, v2, v3) => ⟨[(0, .sl 2020 0), (1, .int .i64 v1), (5, .int .i64 v2)], [(2020, .arr 3 0 0 (.ints v3))]⟩) (fun x e σ' => match x with | (v4, v5) => e = .exit 0 ∧ σ' = ⟨[(1, .int .i64 v4)], [(2020, .arr 3 0 0 (.ints v5))]⟩) hk3 rfl rfl ?_ ?_
  · intro s x hs
    clear h
    have h := hs
    clear hs
    obtain ⟨v1, v2, v3⟩ := s
    refine Tri.run 1 [] [.keep [0, 1, 5, 9] [2020]] (K' := [.code [(1, 0), (1, 0), (0, 0), (0, 0)] 1, .code [(1, 0), (1, 0), (0, 0)] 1]) (σ' := ⟨[(0, .sl 2020 0), (1, .int .i64 v1), (5, .int .i64 v2), (9, .bool (decide (v2 < (v3.length : Int))))], [(2020, .arr 3 0 0 (.ints v3))]⟩) rfl trivial rfl ?_
    rcases bif_some h with ⟨hd1, h⟩ | ⟨hd1, h⟩
    · obtain ⟨hg2, h⟩ := grd_some h
      refine Tri.run 3 [.g true] [.keep [0, 1, 5] [2020]] (K' := [.code [(1, 0), (1, 0), (0, 0)] 2]) (σ' := ⟨[(0, .sl 2020 0), (1, .int .i64 (IntKind.i64.wrap (v1 + (1 : Int)))), (5, .int .i64 v2)], [(2020, .arr 3 0 0 (.ints (v3.set v2.toNat v1)))]⟩) rfl ⟨hg2, hd1, trivial⟩ rfl ?_
      refine Tri.run 1 [] [.keep [0, 1, 5] [2020]] (K' := []) (σ' := ⟨[(0, .sl 2020 0), (1, .int .i64 (IntKind.i64.wrap (v1 + (1 : Int)))), (5, .int .i64 (IntKind.i64.wrap (v2 + (1 : Int))))], [(2020, .arr 3 0 0 (.ints (v3.set v2.toNat v1)))]⟩) rfl trivial rfl ?_
      have h := Option.some.inj h
      subst h
      exact Tri.nil ⟨rfl, rfl⟩
    · refine Tri.run 1 [.g false] [.keep [1] [2020]] (K' := [.code [(1, 0), (1, 0), (0, 0), (0, 0), (1, 1)] 0, .code [(1, 0), (1, 0), (0, 0)] 1]) (σ' := ⟨[(1, .int .i64 v1)], [(2020, .arr 3 0 0 (.ints v3))]⟩) rfl ⟨hd1, trivial⟩ rfl ?_
      have h := Option.some.inj h
      subst h
      exact Tri.out 0 rfl ⟨nofun, rfl, rfl⟩
  · intro e σ' hne hq
    obtain ⟨v4, v5⟩ := x1
    obtain ⟨rfl, rfl⟩ := hq
    refine TriX.exit (K' := [.code [] 2]) rfl ?_
    refine Tri.run 1 [] [.keep [4] [2020]] (K' := [.code [] 3]) (σ' := ⟨[(4, .int .i64 v4)], [(2020, .arr 3 0 0 (.ints v5))]⟩) rfl trivial rfl ?_
    have h := Option.some.inj h
    subst h
    exact Tri.ret rfl ⟨.inl rfl, rfl, rfl⟩
/-! laws.markGame -/
noncomputable def E_laws_markGame : Env := ⟨Try.prog, tys, (Try.f35.body).getD .skip, 10, tysOk, mixedOk⟩
abbrev q_laws_markGame_io1 (r : Int × (List Int)) (σ' : ASt) : Prop := resAV E_laws_markGame.T σ' Try.f35.results.toList = some (.int .i64 r.1) ∧ keepO σ'.ob (namesO [(2000, .arr 3 0 0 (.ints r.2))]) = [(2000, .arr 3 0 0 (.ints r.2))]
noncomputable def m_laws_markGame_io1 (_a0 : Int) (a1 : List Int) (a2 : Int) : Option (Int × (List Int)) :=
(m_laws_markIntS_io1 a1 a2).bind fun (v1, v2) =>
some (v1, v2)
theorem w_laws_markGame_io1 (a0 : Int) (a1 : List Int) (a2 : Int) (r : Int × (List Int)) (h : m_laws_markGame_io1 a0 a1 a2 = some r) : AM.Spec Try.prog 35 [.agg [.int .i64 a0, .sl 2000 0], .int .i64 a2] [(2000, .arr 3 0 0 (.ints a1))] (.int .i64 r.1) [(2000, .arr 3 0 0 (.ints r.2))] := by
  refine spec_of (E := E_laws_markGame) Try.func35 rfl rfl rfl rfl ?_
  refine Tri.run 1 [] [.keep [1, 2] [2, 2000]] (K' := [.code [(1, 0)] 0, .code [] 2]) (σ' := ⟨[(1, .int .i64 a2), (2, .ptr 2 0)], [(2, .box [.int .i64 a0, .sl 2000 0]), (2000, .arr 3 0 0 (.ints a1))]⟩) rfl trivial rfl ?_
  obtain ⟨⟨v1, v2⟩, hk1, h⟩ := bind_some h
  refine Tri.run 2 [.r ⟨[2000], .int .i64 v1, [(2000, .arr 3 0 0 (.ints v2))]⟩] [.keep [4] [2000]] (K' := [.code [] 3]) (σ' := ⟨[(4, .int .i64 v1)], [(2000, .arr 3 0 0 (.ints v2))]⟩) rfl ⟨((w_laws_markIntS_io1 a1 a2 (v1, v2) hk1).swap 2020 2000), trivial⟩ rfl ?_
  have h := Option.some.inj h
  subst h
  exact Tri.ret rfl ⟨.inl rfl, rfl, rfl⟩
/-! laws.heldIntS -/
noncomputable def E_laws_heldIntS : Env := ⟨Try.prog, tys, (Try.f70.body).getD .skip, 21, tysOk, mixedOk⟩
abbrev q_laws_heldIntS (r : Int) (σ' : ASt) : Prop := resAV E_laws_heldIntS.T σ' Try.f70.results.toList = some (.int .i64 r) ∧ keepO σ'.ob (namesO []) = []
noncomputable def l_laws_heldIntS_0 (a0 : List Int) : (Int × Int) → Option ((Int × Int) ⊕ (Int ⊕ Int))
  | (v1, v2) => (
bif decide (v2 < (a0.length : Int)) then
(grd ((0 : Int) ≤ v2 ∧ v2 < (a0.length : Int)) <|
bif (a0.getD v2.toNat 0) != v1 then
(some (.inr (.inr (-1 : Int))))
else
(some (.inl (IntKind.i64.wrap (v1 + (1 : Int)), IntKind.i64.wrap (v2 + (1 : Int))))))
else
(some (.inr (.inl v1))))
noncomputable def m_laws_heldIntS (a0 : List Int) (a1 : Int) : Option Int :=
(iter (l_laws_heldIntS_0 a0) (a1, (0 : Int))).bind fun
| (.inl v3) => (
some v3)
| (.inr r) => some r
theorem w_laws_heldIntS (a0 : List Int) (a1 : Int) (r : Int) (h : m_laws_heldIntS a0 a1 = some r) : AM.Spec Try.prog 70 [.list (.ints a0), .int .i64 a1] [] (.int .i64 r) [] := by
  refine spec_of (E := E_laws_heldIntS) Try.func70 rfl rfl rfl rfl ?_
  refine Tri.run 2 [] [.keep [0, 1, 5] []] (K' := [.code [(1, 0), (1, 0)] 0, .blk 0, .code [] 2]) (σ' := ⟨[(0, .list (.ints a0)), (1, .int .i64 a1), (5, .int .i64 (0 : Int))], []⟩) rfl trivial rfl ?_
  obtain ⟨x1, hk4, h⟩ := bind_some h
  refine Tri.loop (K1 := [.code [(1, 0), (1, 0), (0, 0)] 0]) (K2 := [.blk 0, .code [] 2]) (fun (v1, v2) => ⟨[(0, .list (.ints a0)), (1, .int .i64 v1), (5, .int .i64 v2)], []⟩) (fun x e σ' => match x with | (.inl v3) => e = .exit 0 ∧ σ' = ⟨[(1, .int .i64 v3)], []⟩ | (.inr r) => e = .ret ∧ q_laws_heldIntS r σ') hk4 rfl rfl ?_ ?_
  · intro s x hs
    clear h
    have h := hs
    clear hs
    obtain ⟨v1, v2⟩ := s
    refine Tri.run 1 [] [.keep [0, 1, 5, 9] []] (K' := [.code [(1, 0), (1, 0), (0, 0), (0, 0)] 1, .code [(1, 0), (1, 0), (0, 0)] 1]) (σ' := ⟨[(0, .list (.ints a0)), (1, .int .i64 v1), (5, .int .i64 v2), (9, .bool (decide (v2 < (a0.length : Int))))], []⟩) rfl trivial rfl ?_
    rcases bif_some h with ⟨hd1, h⟩ | ⟨hd1, h⟩
    · obtain ⟨hg2, h⟩ := grd_some h
      refine Tri.run 2 [.g true] [.keep [0, 1, 5, 17] []] (K' := [.code [(1, 0), (1, 0), (0, 0), (1, 0), (0, 0), (0, 0)] 1, .code [(1, 0), (1, 0), (0, 0), (1, 0), (0, 0)] 1, .blk 1, .code [(1, 0), (1, 0), (0, 0)] 2]) (σ' := ⟨[(0, .list (.ints a0)), (1, .int .i64 v1), (5, .int .i64 v2), (17, .bool ((a0.getD v2.toNat 0) != v1))], []⟩) rfl ⟨hg2, hd1, trivial⟩ rfl ?_
      rcases bif_some h with ⟨hd3, h⟩ | ⟨hd3, h⟩
      · refine Tri.run 2 [.g true] [.keep [4] []] (K' := [.code [(1, 0), (1, 0), (0, 0), (1, 0), (0, 0), (0, 0), (1, 0)] 1, .code [(1, 0), (1, 0), (0, 0), (1, 0), (0, 0)] 1, .blk 1, .code [(1, 0), (1, 0), (0, 0)] 2]) (σ' := ⟨[(4, .int .i64 (-1 : Int))], []⟩) rfl ⟨hd3, trivial⟩ rfl ?_
        have h := Option.some.inj h
        subst h
        exact Tri.ret rfl ⟨nofun, rfl, rfl, rfl⟩
      · refine Tri.run 3 [.g false] [.keep [0, 1, 5] []] (K' := []) (σ' := ⟨[(0, .list (.ints a0)), (1, .int .i64 (IntKind.i64.wrap (v1 + (1 : Int)))), (5, .int .i64 (IntKind.i64.wrap (v2 + (1 : Int))))], []⟩) rfl ⟨hd3, trivial⟩ rfl ?_
        have h := Option.some.inj h
        subst h
        exact Tri.nil ⟨rfl, rfl⟩
    · refine Tri.run 1 [.g false] [.keep [1] []] (K' := [.code [(1, 0), (1, 0), (0, 0), (0, 0), (1, 1)] 0, .code [(1, 0), (1, 0), (0, 0)] 1]) (σ' := ⟨[(1, .int .i64 v1)], []⟩) rfl ⟨hd1, trivial⟩ rfl ?_
      have h := Option.some.inj h
      subst h
      exact Tri.out 0 rfl ⟨nofun, rfl, rfl⟩
  · intro e σ' hne hq
    rcases x1 with v3 | r
    · obtain ⟨rfl, rfl⟩ := hq
      refine TriX.exit (K' := [.code [] 2]) rfl ?_
      refine Tri.run 1 [] [.keep [4] []] (K' := [.code [] 3]) (σ' := ⟨[(4, .int .i64 v3)], []⟩) rfl trivial rfl ?_
      have h := Option.some.inj h
      subst h
      exact Tri.ret rfl ⟨.inl rfl, rfl, rfl⟩
    · obtain ⟨rfl, hq⟩ := hq
      have h := Option.some.inj h
      subst h
      exact TriX.ret ⟨.inl rfl, hq⟩
/-! laws.heldGame -/
noncomputable def E_laws_heldGame : Env := ⟨Try.prog, tys, (Try.f36.body).getD .skip, 12, tysOk, mixedOk⟩
abbrev q_laws_heldGame (r : Int) (σ' : ASt) : Prop := resAV E_laws_heldGame.T σ' Try.f36.results.toList = some (.int .i64 r) ∧ keepO σ'.ob (namesO []) = []
noncomputable def m_laws_heldGame (_a0 : Int) (a1 : List Int) (a2 : Int) : Option Int :=
(m_laws_heldIntS a1 a2).bind fun v1 =>
bif decide (v1 < (0 : Int)) then
(some (-1 : Int))
else
(some v1)
theorem w_laws_heldGame (a0 : Int) (a1 : List Int) (a2 : Int) (r : Int) (h : m_laws_heldGame a0 a1 a2 = some r) : AM.Spec Try.prog 36 [.agg [.int .i64 a0, .list (.ints a1)], .int .i64 a2] [] (.int .i64 r) [] := by
  refine spec_of (E := E_laws_heldGame) Try.func36 rfl rfl rfl rfl ?_
  refine Tri.run 1 [] [.keep [1, 2] [2]] (K' := [.code [(1, 0)] 0, .code [] 2]) (σ' := ⟨[(1, .int .i64 a2), (2, .ptr 2 0)], [(2, .box [.int .i64 a0, .list (.ints a1)])]⟩) rfl trivial rfl ?_
  obtain ⟨v1, hk1, h⟩ := bind_some h
  refine Tri.run 2 [.r ⟨[], .int .i64 v1, []⟩] [.keep [1, 10] []] (K' := [.code [(2, 0)] 1, .code [] 3]) (σ' := ⟨[(1, .int .i64 v1), (10, .bool (decide (v1 < (0 : Int))))], []⟩) rfl ⟨(w_laws_heldIntS a1 a2 v1 hk1), trivial⟩ rfl ?_
  rcases bif_some h with ⟨hd2, h⟩ | ⟨hd2, h⟩
  · refine Tri.run 2 [.g true] [.keep [4] []] (K' := [.code [(2, 0), (1, 0)] 1, .code [] 3]) (σ' := ⟨[(4, .int .i64 (-1 : Int))], []⟩) rfl ⟨hd2, trivial⟩ rfl ?_
    have h := Option.some.inj h
    subst h
    exact Tri.ret rfl ⟨.inl rfl, rfl, rfl⟩
  · refine Tri.run 2 [.g false] [.keep [4] []] (K' := [.code [] 4]) (σ' := ⟨[(4, .int .i64 v1)], []⟩) rfl ⟨hd2, trivial⟩ rfl ?_
    have h := Option.some.inj h
    subst h
    exact Tri.ret rfl ⟨.inl rfl, rfl, rfl⟩
/-! laws.FnExactScaleGame -/
noncomputable def E_laws_FnExactScaleGame : Env := ⟨Try.prog, tys, (Try.f10.body).getD .skip, 122, tysOk, mixedOk⟩
abbrev q_laws_FnExactScaleGame (r : Bool) (σ' : ASt) : Prop := resAV E_laws_FnExactScaleGame.T σ' Try.f10.results.toList = some (.bool r) ∧ keepO σ'.ob (namesO []) = []
noncomputable def m_laws_FnExactScaleGame (a0 : Int) (a1 : List Int) (a2 : Int) (a3 : List Int) : Option Bool :=
bif decide ((a3.length : Int) > (1048576 : Int)) then
(some true)
else
((m_laws_szGame a0 a1 (1048576 : Int)).bind fun v1 =>
bif decide (v1 < (0 : Int)) then
(some true)
else
((m_laws_toGame a0 a1).bind fun (v2, v3) =>
(m_laws_toIntS a3).bind fun v4 =>
(m_spec_ScaleGame v2 v3 a2 v4).bind fun (v5, v6, v7) =>
(m_laws_toGame a0 a1).bind fun (v8, v9) =>
(m_laws_toIntS a3).bind fun v10 =>
(m_impl_ScaleGame v8 v9 a2 v10).bind fun (v11, v12, v13) =>
(m_laws_eqGame v11 v13 v5 v7).bind fun v14 =>
bif !v14 then
(some false)
else
(bif v12 != v6 then
(some false)
else
((m_laws_toGame a0 a1).bind fun (v15, v16) =>
(m_laws_eqGame v8 v9 v15 v16).bind fun v17 =>
bif !v17 then
(some false)
else
((m_laws_toIntS a3).bind fun v18 =>
(m_laws_eqIntS v10 v18).bind fun v19 =>
bif !v19 then
(some false)
else
((m_laws_markGame_io1 v8 v9 (1 : Int)).bind fun (v20, _) =>
(m_laws_markIntS_io1 v10 v20).bind fun (v22, _) =>
bif decide (v22 < (0 : Int)) then
(some false)
else
((m_laws_eqGame v11 v13 v5 v7).bind fun v24 =>
bif !v24 then
(some false)
else
(bif v12 != v6 then
(some false)
else
((m_laws_markGame_io1 v11 v13 (1 : Int)).bind fun (v25, v26) =>
(m_laws_heldGame v11 v26 (1 : Int)).bind fun v27 =>
bif decide (v27 < (0 : Int)) then
(some false)
else
(bif v27 != v25 then
(some false)
else
((m_laws_toGame a0 a1).bind fun (v28, v29) =>
(m_laws_toIntS a3).bind fun v30 =>
(m_impl_ScaleGame v28 v29 a2 v30).bind fun (v31, v32, v33) =>
(m_laws_eqGame v31 v33 v5 v7).bind fun v34 =>
bif !v34 then
(some false)
else
(bif v32 != v6 then
(some false)
else
((m_laws_heldGame v11 v26 (1 : Int)).bind fun v35 =>
bif decide (v35 < (0 : Int)) then
(some false)
else
(bif v35 != v25 then
(some false)
else
(some true)))))))))))))))
theorem w_laws_FnExactScaleGame (a0 : Int) (a1 : List Int) (a2 : Int) (a3 : List Int) (r : Bool) (h : m_laws_FnExactScaleGame a0 a1 a2 a3 = some r) : AM.Spec Try.prog 10 [.agg [.int .i64 a0, .list (.ints a1)], .int .i64 a2, .list (.ints a3)] [] (.bool r) [] := by
  refine spec_of (E := E_laws_FnExactScaleGame) Try.func10 rfl rfl rfl rfl ?_
  refine Tri.run 2 [] [.keep [1, 2, 3, 21] [3]] (K' := [.code [(1, 0)] 1, .code [] 2]) (σ' := ⟨[(1, .int .i64 a2), (2, .list (.ints a3)), (3, .ptr 3 0), (21, .bool (decide ((a3.length : Int) > (1048576 : Int))))], [(3, .box [.int .i64 a0, .list (.ints a1)])]⟩) rfl trivial rfl ?_
  rcases bif_some h with ⟨hd1, h⟩ | ⟨hd1, h⟩
  · refine Tri.run 2 [.g true] [.keep [6] []] (K' := [.code [(1, 0), (1, 0)] 1, .code [] 2]) (σ' := ⟨[(6, .bool true)], []⟩) rfl ⟨hd1, trivial⟩ rfl ?_
    have h := Option.some.inj h
    subst h
    exact Tri.ret rfl ⟨.inl rfl, rfl, rfl⟩
  · refine Tri.run 2 [.g false] [.keep [1, 2, 3, 7] [3]] (K' := [.code [(3, 0)] 0, .code [] 4]) (σ' := ⟨[(1, .int .i64 a2), (2, .list (.ints a3)), (3, .ptr 3 0), (7, .int .i64 (1048576 : Int))], [(3, .box [.int .i64 a0, .list (.ints a1)])]⟩) rfl ⟨hd1, trivial⟩ rfl ?_
    obtain ⟨v1, hk2, h⟩ := bind_some h
    refine Tri.run 2 [.r ⟨[], .int .i64 v1, []⟩] [.keep [1, 2, 3, 26] [3]] (K' := [.code [(4, 0)] 1, .code [] 5]) (σ' := ⟨[(1, .int .i64 a2), (2, .list (.ints a3)), (3, .ptr 3 0), (26, .bool (decide (v1 < (0 : Int))))], [(3, .box [.int .i64 a0, .list (.ints a1)])]⟩) rfl ⟨(w_laws_szGame a0 a1 (1048576 : Int) v1 hk2), trivial⟩ rfl ?_
    rcases bif_some h with ⟨hd3, h⟩ | ⟨hd3, h⟩
    · refine Tri.run 2 [.g true] [.keep [6] []] (K' := [.code [(4, 0), (1, 0)] 1, .code [] 5]) (σ' := ⟨[(6, .bool true)], []⟩) rfl ⟨hd3, trivial⟩ rfl ?_
      have h := Option.some.inj h
      subst h
      exact Tri.ret rfl ⟨.inl rfl, rfl, rfl⟩
    · obtain ⟨⟨v2, v3⟩, hk4, h⟩ := bind_some h
      obtain ⟨v4, hk5, h⟩ := bind_some h
      obtain ⟨⟨v5, v6, v7⟩, hk6, h⟩ := bind_some h
      refine Tri.run 2 [.g false, .r ⟨[], .agg [.int .i64 v2, .sl 1100 0], [(1100, .arr 3 0 0 (.ints v3))]⟩, .r ⟨[], .sl 1101 0, [(1101, .arr 3 0 0 (.ints v4))]⟩, .r ⟨[], .tuple [.agg [.int .i64 v5, .sl 1102 0], .bool v6], [(1102, .arr 3 0 0 (.ints v7))]⟩] [.keep [1, 2, 3, 8, 9] [3, 8, 1102]] (K' := [.code [(6, 0)] 0, .code [] 7]) (σ' := ⟨[(1, .int .i64 a2), (2, .list (.ints a3)), (3, .ptr 3 0), (8, .ptr 8 0), (9, .bool v6)], [(3, .box [.int .i64 a0, .list (.ints a1)]), (8, .box [.int .i64 v5, .sl 1102 0]), (1102, .arr 3 0 0 (.ints v7))]⟩) rfl ⟨((w_spec_ScaleGame v2 v3 a2 v4 (v5, v6, v7) hk6).swap 1000 1102), ((w_laws_toIntS a3 v4 hk5).swap 1000 1101), ((w_laws_toGame a0 a1 (v2, v3) hk4).swap 1000 1100), hd3, trivial⟩ rfl ?_
      obtain ⟨⟨v8, v9⟩, hk7, h⟩ := bind_some h
      obtain ⟨v10, hk8, h⟩ := bind_some h
      refine Tri.run 2 [.r ⟨[], .agg [.int .i64 v8, .sl 1103 0], [(1103, .arr 3 0 0 (.ints v9))]⟩, .r ⟨[], .sl 1104 0, [(1104, .arr 3 0 0 (.ints v10))]⟩] [.keep [1, 2, 3, 8, 9, 10, 11] [3, 8, 10, 1102, 1103, 1104]] (K' := [.code [(8, 0)] 0, .code [] 9]) (σ' := ⟨[(1, .int .i64 a2), (2, .list (.ints a3)), (3, .ptr 3 0), (8, .ptr 8 0), (9, .bool v6), (10, .ptr 10 0), (11, .sl 1104 0)], [(3, .box [.int .i64 a0, .list (.ints a1)]), (8, .box [.int .i64 v5, .sl 1102 0]), (10, .box [.int .i64 v8, .sl 1103 0]), (1102, .arr 3 0 0 (.ints v7)), (1103, .arr 3 0 0 (.ints v9)), (1104, .arr 3 0 0 (.ints v10))]⟩) rfl ⟨((w_laws_toIntS a3 v10 hk8).swap 1000 1104), ((w_laws_toGame a0 a1 (v8, v9) hk7).swap 1000 1103), trivial⟩ rfl ?_
      obtain ⟨⟨v11, v12, v13⟩, hk9, h⟩ := bind_some h
      obtain ⟨v14, hk10, h⟩ := bind_some h
      rcases bif_some h with ⟨hd11, h⟩ | ⟨hd11, h⟩
      · refine Tri.run 2 [.r ⟨[], .tuple [.agg [.int .i64 v11, .sl 1105 0], .bool v12], [(1105, .arr 3 0 0 (.ints v13))]⟩, .r ⟨[], .bool v14, []⟩, .g true] [.keep [1, 2, 3, 8, 9, 10, 11, 12, 13, 55] [3, 8, 10, 12, 1102, 1103, 1104, 1105]] (K' := [.code [(9, 0)] 1, .code [] 10]) (σ' := ⟨[(1, .int .i64 a2), (2, .list (.ints a3)), (3, .ptr 3 0), (8, .ptr 8 0), (9, .bool v6), (10, .ptr 10 0), (11, .sl 1104 0), (12, .ptr 12 0), (13, .bool v12), (55, .bool true)], [(3, .box [.int .i64 a0, .list (.ints a1)]), (8, .box [.int .i64 v5, .sl 1102 0]), (10, .box [.int .i64 v8, .sl 1103 0]), (12, .box [.int .i64 v11, .sl 1105 0]), (1102, .arr 3 0 0 (.ints v7)), (1103, .arr 3 0 0 (.ints v9)), (1104, .arr 3 0 0 (.ints v10)), (1105, .arr 3 0 0 (.ints v13))]⟩) rfl ⟨hd11, (w_laws_eqGame v11 v13 v5 v7 v14 hk10), ((w_impl_ScaleGame v8 v9 a2 v10 (v11, v12, v13) hk9).swap 1000 1105), trivial⟩ rfl ?_
        refine Tri.run 2 [.g true] [.keep [6] []] (K' := [.code [(9, 0), (1, 0)] 1, .code [] 10]) (σ' := ⟨[(6, .bool false)], []⟩) rfl ⟨rfl, trivial⟩ rfl ?_
        have h := Option.some.inj h
        subst h
        exact Tri.ret rfl ⟨.inl rfl, rfl, rfl⟩
      · refine Tri.run 2 [.r ⟨[], .tuple [.agg [.int .i64 v11, .sl 1105 0], .bool v12], [(1105, .arr 3 0 0 (.ints v13))]⟩, .r ⟨[], .bool v14, []⟩, .g false] [.keep [1, 2, 3, 8, 9, 10, 11, 12, 13, 55] [3, 8, 10, 12, 1102, 1103, 1104, 1105]] (K' := [.code [(9, 0)] 1, .code [] 10]) (σ' := ⟨[(1, .int .i64 a2), (2, .list (.ints a3)), (3, .ptr 3 0), (8, .ptr 8 0), (9, .bool v6), (10, .ptr 10 0), (11, .sl 1104 0), (12, .ptr 12 0), (13, .bool v12), (55, .bool (v12 != v6))], [(3, .box [.int .i64 a0, .list (.ints a1)]), (8, .box [.int .i64 v5, .sl 1102 0]), (10, .box [.int .i64 v8, .sl 1103 0]), (12, .box [.int .i64 v11, .sl 1105 0]), (1102, .arr 3 0 0 (.ints v7)), (1103, .arr 3 0 0 (.ints v9)), (1104, .arr 3 0 0 (.ints v10)), (1105, .arr 3 0 0 (.ints v13))]⟩) rfl ⟨hd11, (w_laws_eqGame v11 v13 v5 v7 v14 hk10), ((w_impl_ScaleGame v8 v9 a2 v10 (v11, v12, v13) hk9).swap 1000 1105), trivial⟩ rfl ?_
        rcases bif_some h with ⟨hd12, h⟩ | ⟨hd12, h⟩
        · refine Tri.run 2 [.g true] [.keep [6] []] (K' := [.code [(9, 0), (1, 0)] 1, .code [] 10]) (σ' := ⟨[(6, .bool false)], []⟩) rfl ⟨hd12, trivial⟩ rfl ?_
          have h := Option.some.inj h
          subst h
          exact Tri.ret rfl ⟨.inl rfl, rfl, rfl⟩
        · obtain ⟨⟨v15, v16⟩, hk13, h⟩ := bind_some h
          obtain ⟨v17, hk14, h⟩ := bind_some h
          refine Tri.run 2 [.g false, .r ⟨[], .agg [.int .i64 v15, .sl 1106 0], [(1106, .arr 3 0 0 (.ints v16))]⟩, .r ⟨[], .bool v17, []⟩] [.keep [1, 2, 3, 8, 9, 10, 11, 12, 13, 60] [3, 8, 10, 12, 1102, 1103, 1104, 1105]] (K' := [.code [(10, 0)] 1, .code [] 11]) (σ' := ⟨[(1, .int .i64 a2), (2, .list (.ints a3)), (3, .ptr 3 0), (8, .ptr 8 0), (9, .bool v6), (10, .ptr 10 0), (11, .sl 1104 0), (12, .ptr 12 0), (13, .bool v12), (60, .bool (!v17))], [(3, .box [.int .i64 a0, .list (.ints a1)]), (8, .box [.int .i64 v5, .sl 1102 0]), (10, .box [.int .i64 v8, .sl 1103 0]), (12, .box [.int .i64 v11, .sl 1105 0]), (1102, .arr 3 0 0 (.ints v7)), (1103, .arr 3 0 0 (.ints v9)), (1104, .arr 3 0 0 (.ints v10)), (1105, .arr 3 0 0 (.ints v13))]⟩) rfl ⟨(w_laws_eqGame v8 v9 v15 v16 v17 hk14), ((w_laws_toGame a0 a1 (v15, v16) hk13).swap 1000 1106), hd12, trivial⟩ rfl ?_
          rcases bif_some h with ⟨hd15, h⟩ | ⟨hd15, h⟩
          · refine Tri.run 2 [.g true] [.keep [6] []] (K' := [.code [(10, 0), (1, 0)] 1, .code [] 11]) (σ' := ⟨[(6, .bool false)], []⟩) rfl ⟨hd15, trivial⟩ rfl ?_
            have h := Option.some.inj h
            subst h
            exact Tri.ret rfl ⟨.inl rfl, rfl, rfl⟩
          · obtain ⟨v18, hk16, h⟩ := bind_some h
            obtain ⟨v19, hk17, h⟩ := bind_some h
            refine Tri.run 2 [.g false, .r ⟨[], .sl 1107 0, [(1107, .arr 3 0 0 (.ints v18))]⟩, .r ⟨[], .bool v19, []⟩] [.keep [1, 2, 3, 8, 9, 10, 11, 12, 13, 65] [3, 8, 10, 12, 1102, 1103, 1104, 1105]] (K' := [.code [(11, 0)] 1, .code [] 12]) (σ' := ⟨[(1, .int .i64 a2), (2, .list (.ints a3)), (3, .ptr 3 0), (8, .ptr 8 0), (9, .bool v6), (10, .ptr 10 0), (11, .sl 1104 0), (12, .ptr 12 0), (13, .bool v12), (65, .bool (!v19))], [(3, .box [.int .i64 a0, .list (.ints a1)]), (8, .box [.int .i64 v5, .sl 1102 0]), (10, .box [.int .i64 v8, .sl 1103 0]), (12, .box [.int .i64 v11, .sl 1105 0]), (1102, .arr 3 0 0 (.ints v7)), (1103, .arr 3 0 0 (.ints v9)), (1104, .arr 3 0 0 (.ints v10)), (1105, .arr 3 0 0 (.ints v13))]⟩) rfl ⟨(w_laws_eqIntS v10 v18 v19 hk17), ((w_laws_toIntS a3 v18 hk16).swap 1000 1107), hd15, trivial⟩ rfl ?_
            rcases bif_some h with ⟨hd18, h⟩ | ⟨hd18, h⟩
            · refine Tri.run 2 [.g true] [.keep [6] []] (K' := [.code [(11, 0), (1, 0)] 1, .code [] 12]) (σ' := ⟨[(6, .bool false)], []⟩) rfl ⟨hd18, trivial⟩ rfl ?_
              have h := Option.some.inj h
              subst h
              exact Tri.ret rfl ⟨.inl rfl, rfl, rfl⟩
            · refine Tri.run 2 [.g false] [.keep [1, 2, 3, 8, 9, 10, 11, 12, 13, 14] [3, 8, 10, 12, 1102, 1103, 1104, 1105]] (K' := [.code [(13, 0)] 0, .code [] 14]) (σ' := ⟨[(1, .int .i64 a2), (2, .list (.ints a3)), (3, .ptr 3 0), (8, .ptr 8 0), (9, .bool v6), (10, .ptr 10 0), (11, .sl 1104 0), (12, .ptr 12 0), (13, .bool v12), (14, .int .i64 (1 : Int))], [(3, .box [.int .i64 a0, .list (.ints a1)]), (8, .box [.int .i64 v5, .sl 1102 0]), (10, .box [.int .i64 v8, .sl 1103 0]), (12, .box [.int .i64 v11, .sl 1105 0]), (1102, .arr 3 0 0 (.ints v7)), (1103, .arr 3 0 0 (.ints v9)), (1104, .arr 3 0 0 (.ints v10)), (1105, .arr 3 0 0 (.ints v13))]⟩) rfl ⟨hd18, trivial⟩ rfl ?_
              obtain ⟨⟨v20, v21⟩, hk19, h⟩ := bind_some h
              obtain ⟨⟨v22, v23⟩, hk20, h⟩ := bind_some h
              refine Tri.run 2 [.r ⟨[1103], .int .i64 v20, [(1103, .arr 3 0 0 (.ints v21))]⟩, .r ⟨[1104], .int .i64 v22, [(1104, .arr 3 0 0 (.ints v23))]⟩] [.keep [1, 2, 3, 8, 9, 12, 13, 14] [3, 8, 12, 1102, 1105]] (K' := [.code [(15, 0), (0, 0)] 0, .code [(15, 0)] 1, .code [] 16]) (σ' := ⟨[(1, .int .i64 a2), (2, .list (.ints a3)), (3, .ptr 3 0), (8, .ptr 8 0), (9, .bool v6), (12, .ptr 12 0), (13, .bool v12), (14, .int .i64 v22)], [(3, .box [.int .i64 a0, .list (.ints a1)]), (8, .box [.int .i64 v5, .sl 1102 0]), (12, .box [.int .i64 v11, .sl 1105 0]), (1102, .arr 3 0 0 (.ints v7)), (1105, .arr 3 0 0 (.ints v13))]⟩) rfl ⟨((w_laws_markIntS_io1 v10 v20 (v22, v23) hk20).swap 2020 1104), ((w_laws_markGame_io1 v8 v9 (1 : Int) (v20, v21) hk19).swap 2000 1103), trivial⟩ rfl ?_
              rcases bif_some h with ⟨hd21, h⟩ | ⟨hd21, h⟩
              · refine Tri.run 1 [.g true, .g true] [.keep [1, 2, 3, 8, 9, 12, 84] [3, 8, 12, 1102, 1105]] (K' := [.code [(15, 0)] 1, .code [] 16]) (σ' := ⟨[(1, .int .i64 a2), (2, .list (.ints a3)), (3, .ptr 3 0), (8, .ptr 8 0), (9, .bool v6), (12, .ptr 12 0), (84, .bool true)], [(3, .box [.int .i64 a0, .list (.ints a1)]), (8, .box [.int .i64 v5, .sl 1102 0]), (12, .box [.int .i64 v11, .sl 1105 0]), (1102, .arr 3 0 0 (.ints v7)), (1105, .arr 3 0 0 (.ints v13))]⟩) rfl ⟨rfl, hd21, trivial⟩ rfl ?_
                refine Tri.run 2 [.g true] [.keep [6] []] (K' := [.code [(15, 0), (1, 0)] 1, .code [] 16]) (σ' := ⟨[(6, .bool false)], []⟩) rfl ⟨rfl, trivial⟩ rfl ?_
                have h := Option.some.inj h
                subst h
                exact Tri.ret rfl ⟨.inl rfl, rfl, rfl⟩
              · obtain ⟨v24, hk22, h⟩ := bind_some h
                rcases bif_some h with ⟨hd23, h⟩ | ⟨hd23, h⟩
                · refine Tri.run 1 [.g false, .r ⟨[], .bool v24, []⟩, .g true] [.keep [1, 2, 3, 8, 9, 12, 84] [3, 8, 12, 1102, 1105]] (K' := [.code [(15, 0)] 1, .code [] 16]) (σ' := ⟨[(1, .int .i64 a2), (2, .list (.ints a3)), (3, .ptr 3 0), (8, .ptr 8 0), (9, .bool v6), (12, .ptr 12 0), (84, .bool true)], [(3, .box [.int .i64 a0, .list (.ints a1)]), (8, .box [.int .i64 v5, .sl 1102 0]), (12, .box [.int .i64 v11, .sl 1105 0]), (1102, .arr 3 0 0 (.ints v7)), (1105, .arr 3 0 0 (.ints v13))]⟩) rfl ⟨hd23, (w_laws_eqGame v11 v13 v5 v7 v24 hk22), hd21, trivial⟩ rfl ?_
                  refine Tri.run 2 [.g true] [.keep [6] []] (K' := [.code [(15, 0), (1, 0)] 1, .code [] 16]) (σ' := ⟨[(6, .bool false)], []⟩) rfl ⟨rfl, trivial⟩ rfl ?_
                  have h := Option.some.inj h
                  subst h
                  exact Tri.ret rfl ⟨.inl rfl, rfl, rfl⟩
                · refine Tri.run 1 [.g false, .r ⟨[], .bool v24, []⟩, .g false] [.keep [1, 2, 3, 8, 9, 12, 84] [3, 8, 12, 1102, 1105]] (K' := [.code [(15, 0)] 1, .code [] 16]) (σ' := ⟨[(1, .int .i64 a2), (2, .list (.ints a3)), (3, .ptr 3 0), (8, .ptr 8 0), (9, .bool v6), (12, .ptr 12 0), (84, .bool (v12 != v6))], [(3, .box [.int .i64 a0, .list (.ints a1)]), (8, .box [.int .i64 v5, .sl 1102 0]), (12, .box [.int .i64 v11, .sl 1105 0]), (1102, .arr 3 0 0 (.ints v7)), (1105, .arr 3 0 0 (.ints v13))]⟩) rfl ⟨hd23, (w_laws_eqGame v11 v13 v5 v7 v24 hk22), hd21, trivial⟩ rfl ?_
                  rcases bif_some h with ⟨hd24, h⟩ | ⟨hd24, h⟩
                  · refine Tri.run 2 [.g true] [.keep [6] []] (K' := [.code [(15, 0), (1, 0)] 1, .code [] 16]) (σ' := ⟨[(6, .bool false)], []⟩) rfl ⟨hd24, trivial⟩ rfl ?_
                    have h := Option.some.inj h
                    subst h
                    exact Tri.ret rfl ⟨.inl rfl, rfl, rfl⟩
                  · refine Tri.run 2 [.g false] [.keep [1, 2, 3, 8, 9, 12, 15] [3, 8, 12, 1102, 1105]] (K' := [.code [(17, 0)] 0, .code [] 18]) (σ' := ⟨[(1, .int .i64 a2), (2, .list (.ints a3)), (3, .ptr 3 0), (8, .ptr 8 0), (9, .bool v6), (12, .ptr 12 0), (15, .int .i64 (1 : Int))], [(3, .box [.int .i64 a0, .list (.ints a1)]), (8, .box [.int .i64 v5, .sl 1102 0]), (12, .box [.int .i64 v11, .sl 1105 0]), (1102, .arr 3 0 0 (.ints v7)), (1105, .arr 3 0 0 (.ints v13))]⟩) rfl ⟨hd24, trivial⟩ rfl ?_
                    obtain ⟨⟨v25, v26⟩, hk25, h⟩ := bind_some h
                    refine Tri.run 2 [.r ⟨[1105], .int .i64 v25, [(1105, .arr 3 0 0 (.ints v26))]⟩] [.keep [1, 2, 3, 8, 9, 12, 15, 16] [3, 8, 12, 1102, 1105]] (K' := [.code [(19, 0)] 0, .code [] 20]) (σ' := ⟨[(1, .int .i64 a2), (2, .list (.ints a3)), (3, .ptr 3 0), (8, .ptr 8 0), (9, .bool v6), (12, .ptr 12 0), (15, .int .i64 v25), (16, .int .i64 (1 : Int))], [(3, .box [.int .i64 a0, .list (.ints a1)]), (8, .box [.int .i64 v5, .sl 1102 0]), (12, .box [.int .i64 v11, .sl 1105 0]), (1102, .arr 3 0 0 (.ints v7)), (1105, .arr 3 0 0 (.ints v26))]⟩) rfl ⟨((w_laws_markGame_io1 v11 v13 (1 : Int) (v25, v26) hk25).swap 2000 1105), trivial⟩ rfl ?_
                    obtain ⟨v27, hk26, h⟩ := bind_some h
                    refine Tri.run 2 [.r ⟨[], .int .i64 v27, []⟩] [.keep [1, 2, 3, 8, 9, 12, 15, 16, 92] [3, 8, 12, 1102, 1105]] (K' := [.code [(20, 0)] 1, .code [] 21]) (σ' := ⟨[(1, .int .i64 a2), (2, .list (.ints a3)), (3, .ptr 3 0), (8, .ptr 8 0), (9, .bool v6), (12, .ptr 12 0), (15, .int .i64 v25), (16, .int .i64 v27), (92, .bool (decide (v27 < (0 : Int))))], [(3, .box [.int .i64 a0, .list (.ints a1)]), (8, .box [.int .i64 v5, .sl 1102 0]), (12, .box [.int .i64 v11, .sl 1105 0]), (1102, .arr 3 0 0 (.ints v7)), (1105, .arr 3 0 0 (.ints v26))]⟩) rfl ⟨(w_laws_heldGame v11 v26 (1 : Int) v27 hk26), trivial⟩ rfl ?_
                    rcases bif_some h with ⟨hd27, h⟩ | ⟨hd27, h⟩
                    · refine Tri.run 2 [.g true] [.keep [6] []] (K' := [.code [(20, 0), (1, 0)] 1, .code [] 21]) (σ' := ⟨[(6, .bool false)], []⟩) rfl ⟨hd27, trivial⟩ rfl ?_
                      have h := Option.some.inj h
                      subst h
                      exact Tri.ret rfl ⟨.inl rfl, rfl, rfl⟩
                    · refine Tri.run 2 [.g false] [.keep [1, 2, 3, 8, 9, 12, 15, 95] [3, 8, 12, 1102, 1105]] (K' := [.code [(21, 0)] 1, .code [] 22]) (σ' := ⟨[(1, .int .i64 a2), (2, .list (.ints a3)), (3, .ptr 3 0), (8, .ptr 8 0), (9, .bool v6), (12, .ptr 12 0), (15, .int .i64 v25), (95, .bool (v27 != v25))], [(3, .box [.int .i64 a0, .list (.ints a1)]), (8, .box [.int .i64 v5, .sl 1102 0]), (12, .box [.int .i64 v11, .sl 1105 0]), (1102, .arr 3 0 0 (.ints v7)), (1105, .arr 3 0 0 (.ints v26))]⟩) rfl ⟨hd27, trivial⟩ rfl ?_
                      rcases bif_some h with ⟨hd28, h⟩ | ⟨hd28, h⟩
                      · refine Tri.run 2 [.g true] [.keep [6] []] (K' := [.code [(21, 0), (1, 0)] 1, .code [] 22]) (σ' := ⟨[(6, .bool false)], []⟩) rfl ⟨hd28, trivial⟩ rfl ?_
                        have h := Option.some.inj h
                        subst h
                        exact Tri.ret rfl ⟨.inl rfl, rfl, rfl⟩
                      · obtain ⟨⟨v28, v29⟩, hk29, h⟩ := bind_some h
                        obtain ⟨v30, hk30, h⟩ := bind_some h
                        obtain ⟨⟨v31, v32, v33⟩, hk31, h⟩ := bind_some h
                        refine Tri.run 2 [.g false, .r ⟨[], .agg [.int .i64 v28, .sl 1108 0], [(1108, .arr 3 0 0 (.ints v29))]⟩, .r ⟨[], .sl 1109 0, [(1109, .arr 3 0 0 (.ints v30))]⟩, .r ⟨[], .tuple [.agg [.int .i64 v31, .sl 1110 0], .bool v32], [(1110, .arr 3 0 0 (.ints v33))]⟩] [.keep [8, 9, 12, 15, 17, 18] [8, 12, 17, 1102, 1105, 1110]] (K' := [.code [(23, 0), (0, 0)] 0, .code [(23, 0)] 1, .code [] 24]) (σ' := ⟨[(8, .ptr 8 0), (9, .bool v6), (12, .ptr 12 0), (15, .int .i64 v25), (17, .ptr 17 0), (18, .bool v32)], [(8, .box [.int .i64 v5, .sl 1102 0]), (12, .box [.int .i64 v11, .sl 1105 0]), (17, .box [.int .i64 v31, .sl 1110 0]), (1102, .arr 3 0 0 (.ints v7)), (1105, .arr 3 0 0 (.ints v26)), (1110, .arr 3 0 0 (.ints v33))]⟩) rfl ⟨((w_impl_ScaleGame v28 v29 a2 v30 (v31, v32, v33) hk31).swap 1000 1110), ((w_laws_toIntS a3 v30 hk30).swap 1000 1109), ((w_laws_toGame a0 a1 (v28, v29) hk29).swap 1000 1108), hd28, trivial⟩ rfl ?_
                        obtain ⟨v34, hk32, h⟩ := bind_some h
                        rcases bif_some h with ⟨hd33, h⟩ | ⟨hd33, h⟩
                        · refine Tri.run 1 [.r ⟨[], .bool v34, []⟩, .g true] [.keep [12, 15, 113] [12, 1105]] (K' := [.code [(23, 0)] 1, .code [] 24]) (σ' := ⟨[(12, .ptr 12 0), (15, .int .i64 v25), (113, .bool true)], [(12, .box [.int .i64 v11, .sl 1105 0]), (1105, .arr 3 0 0 (.ints v26))]⟩) rfl ⟨hd33, (w_laws_eqGame v31 v33 v5 v7 v34 hk32), trivial⟩ rfl ?_
                          refine Tri.run 2 [.g true] [.keep [6] []] (K' := [.code [(23, 0), (1, 0)] 1, .code [] 24]) (σ' := ⟨[(6, .bool false)], []⟩) rfl ⟨rfl, trivial⟩ rfl ?_
                          have h := Option.some.inj h
                          subst h
                          exact Tri.ret rfl ⟨.inl rfl, rfl, rfl⟩
                        · refine Tri.run 1 [.r ⟨[], .bool v34, []⟩, .g false] [.keep [12, 15, 113] [12, 1105]] (K' := [.code [(23, 0)] 1, .code [] 24]) (σ' := ⟨[(12, .ptr 12 0), (15, .int .i64 v25), (113, .bool (v32 != v6))], [(12, .box [.int .i64 v11, .sl 1105 0]), (1105, .arr 3 0 0 (.ints v26))]⟩) rfl ⟨hd33, (w_laws_eqGame v31 v33 v5 v7 v34 hk32), trivial⟩ rfl ?_
                          rcases bif_some h with ⟨hd34, h⟩ | ⟨hd34, h⟩
                          · refine Tri.run 2 [.g true] [.keep [6] []] (K' := [.code [(23, 0), (1, 0)] 1, .code [] 24]) (σ' := ⟨[(6, .bool false)], []⟩) rfl ⟨hd34, trivial⟩ rfl ?_
                            have h := Option.some.inj h
                            subst h
                            exact Tri.ret rfl ⟨.inl rfl, rfl, rfl⟩
                          · refine Tri.run 2 [.g false] [.keep [12, 15, 16] [12, 1105]] (K' := [.code [(25, 0)] 0, .code [] 26]) (σ' := ⟨[(12, .ptr 12 0), (15, .int .i64 v25), (16, .int .i64 (1 : Int))], [(12, .box [.int .i64 v11, .sl 1105 0]), (1105, .arr 3 0 0 (.ints v26))]⟩) rfl ⟨hd34, trivial⟩ rfl ?_
                            obtain ⟨v35, hk35, h⟩ := bind_some h
                            refine Tri.run 2 [.r ⟨[], .int .i64 v35, []⟩] [.keep [15, 16, 118] []] (K' := [.code [(26, 0)] 1, .code [] 27]) (σ' := ⟨[(15, .int .i64 v25), (16, .int .i64 v35), (118, .bool (decide (v35 < (0 : Int))))], []⟩) rfl ⟨(w_laws_heldGame v11 v26 (1 : Int) v35 hk35), trivial⟩ rfl ?_
                            rcases bif_some h with ⟨hd36, h⟩ | ⟨hd36, h⟩
                            · refine Tri.run 2 [.g true] [.keep [6] []] (K' := [.code [(26, 0), (1, 0)] 1, .code [] 27]) (σ' := ⟨[(6, .bool false)], []⟩) rfl ⟨hd36, trivial⟩ rfl ?_
                              have h := Option.some.inj h
                              subst h
                              exact Tri.ret rfl ⟨.inl rfl, rfl, rfl⟩
                            · refine Tri.run 2 [.g false] [.keep [121] []] (K' := [.code [(27, 0)] 1, .code [] 28]) (σ' := ⟨[(121, .bool (v35 != v25))], []⟩) rfl ⟨hd36, trivial⟩ rfl ?_
                              rcases bif_some h with ⟨hd37, h⟩ | ⟨hd37, h⟩
                              · refine Tri.run 2 [.g true] [.keep [6] []] (K' := [.code [(27, 0), (1, 0)] 1, .code [] 28]) (σ' := ⟨[(6, .bool false)], []⟩) rfl ⟨hd37, trivial⟩ rfl ?_
                                have h := Option.some.inj h
                                subst h
                                exact Tri.ret rfl ⟨.inl rfl, rfl, rfl⟩
                              · refine Tri.run 2 [.g false] [.keep [6] []] (K' := [.code [] 29]) (σ' := ⟨[(6, .bool true)], []⟩) rfl ⟨hd37, trivial⟩ rfl ?_
                                have h := Option.some.inj h
                                subst h
                                exact Tri.ret rfl ⟨.inl rfl, rfl, rfl⟩
end Go.Proofs.Ytdobcjgdhgfedaa
