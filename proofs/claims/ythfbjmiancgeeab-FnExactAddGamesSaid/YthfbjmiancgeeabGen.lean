/- models and walks -/
import Derived.Test.YthfbjmiancgeeabProg
import Derived.Test.YthfbjmiancgeeabAmB
namespace Go.Proofs.Ythfbjmiancgeeab
open Go.AM
set_option maxRecDepth 100000
set_option maxHeartbeats 4000000
noncomputable def tys : TEnv := [(3, .int .i64),
  (4, .bool),
  (22, .slice 3 (.ints [])),
  (24, .struct [(0, 3), (1, 22)] [.int .i64 0, .nil (.ints [])] false),
  (27, .struct [(0, 3), (1, 22)] [.int .i64 0, .nil (.ints [])] false),
  (31, .slice 55 (.rats [])),
  (34, .slice 53 (.rats [])),
  (53, .struct [(0, 3), (1, 3)] [.int .i64 0, .int .i64 0] true),
  (55, .struct [(0, 3), (1, 3)] [.int .i64 0, .int .i64 0] true)]
theorem tysOk : TOk Try.prog tys := tok_of (by kernel_rfl)
theorem mixedOk : Try.prog.follows .mixedOrders = true := by kernel_rfl
/-! laws.szIntS -/
noncomputable def E_laws_szIntS : Env := ⟨Try.prog, tys, (Try.f29.body).getD .skip, 12, tysOk, mixedOk⟩
abbrev q_laws_szIntS (r : Int) (σ' : ASt) : Prop := resAV E_laws_szIntS.T σ' Try.f29.results.toList = some (.int .i64 r) ∧ keepO σ'.ob (namesO []) = []
noncomputable def m_laws_szIntS (a0 : List Int) (a1 : Int) : Option Int :=
bif decide ((IntKind.i64.wrap (a1 - (a0.length : Int))) < (0 : Int)) then
(some (-1 : Int))
else
(some (IntKind.i64.wrap (a1 - (a0.length : Int))))
theorem w_laws_szIntS (a0 : List Int) (a1 : Int) (r : Int) (h : m_laws_szIntS a0 a1 = some r) : AM.Spec Try.prog 29 [.list (.ints a0), .int .i64 a1] [] (.int .i64 r) [] := by
  refine spec_of (E := E_laws_szIntS) Try.func29 rfl rfl rfl rfl ?_
  refine Tri.run 3 [] [.keep [1, 10] []] (K' := [.code [(2, 0)] 1, .code [] 3]) (σ' := ⟨[(1, .int .i64 (IntKind.i64.wrap (a1 - (a0.length : Int)))), (10, .bool (decide ((IntKind.i64.wrap (a1 - (a0.length : Int))) < (0 : Int))))], []⟩) rfl trivial rfl ?_
  rcases bif_some h with ⟨hd1, h⟩ | ⟨hd1, h⟩
  · refine Tri.run 2 [.g true] [.keep [4] []] (K' := [.code [(2, 0), (1, 0)] 1, .code [] 3]) (σ' := ⟨[(4, .int .i64 (-1 : Int))], []⟩) rfl ⟨hd1, trivial⟩ rfl ?_
    have h := Option.some.inj h
    subst h
    exact Tri.ret rfl ⟨.inl rfl, rfl, rfl⟩
  · refine Tri.run 2 [.g false] [.keep [4] []] (K' := [.code [] 4]) (σ' := ⟨[(4, .int .i64 (IntKind.i64.wrap (a1 - (a0.length : Int))))], []⟩) rfl ⟨hd1, trivial⟩ rfl ?_
    have h := Option.some.inj h
    subst h
    exact Tri.ret rfl ⟨.inl rfl, rfl, rfl⟩
/-! laws.szGame -/
noncomputable def E_laws_szGame : Env := ⟨Try.prog, tys, (Try.f8.body).getD .skip, 12, tysOk, mixedOk⟩
abbrev q_laws_szGame (r : Int) (σ' : ASt) : Prop := resAV E_laws_szGame.T σ' Try.f8.results.toList = some (.int .i64 r) ∧ keepO σ'.ob (namesO []) = []
noncomputable def m_laws_szGame (_a0 : Int) (a1 : List Int) (a2 : Int) : Option Int :=
(m_laws_szIntS a1 a2).bind fun v1 =>
bif decide (v1 < (0 : Int)) then
(some (-1 : Int))
else
(some v1)
theorem w_laws_szGame (a0 : Int) (a1 : List Int) (a2 : Int) (r : Int) (h : m_laws_szGame a0 a1 a2 = some r) : AM.Spec Try.prog 8 [.agg [.int .i64 a0, .list (.ints a1)], .int .i64 a2] [] (.int .i64 r) [] := by
  refine spec_of (E := E_laws_szGame) Try.func8 rfl rfl rfl rfl ?_
  refine Tri.run 1 [] [.keep [1, 2] [2]] (K' := [.code [(1, 0)] 0, .code [] 2]) (σ' := ⟨[(1, .int .i64 a2), (2, .ptr 2 0)], [(2, .box [.int .i64 a0, .list (.ints a1)])]⟩) rfl trivial rfl ?_
  obtain ⟨v1, hk1, h⟩ := bind_some h
  refine Tri.run 2 [.r ⟨[], .int .i64 v1, []⟩] [.keep [1, 10] []] (K' := [.code [(2, 0)] 1, .code [] 3]) (σ' := ⟨[(1, .int .i64 v1), (10, .bool (decide (v1 < (0 : Int))))], []⟩) rfl ⟨(w_laws_szIntS a1 a2 v1 hk1), trivial⟩ rfl ?_
  rcases bif_some h with ⟨hd2, h⟩ | ⟨hd2, h⟩
  · refine Tri.run 2 [.g true] [.keep [4] []] (K' := [.code [(2, 0), (1, 0)] 1, .code [] 3]) (σ' := ⟨[(4, .int .i64 (-1 : Int))], []⟩) rfl ⟨hd2, trivial⟩ rfl ?_
    have h := Option.some.inj h
    subst h
    exact Tri.ret rfl ⟨.inl rfl, rfl, rfl⟩
  · refine Tri.run 2 [.g false] [.keep [4] []] (K' := [.code [] 4]) (σ' := ⟨[(4, .int .i64 v1)], []⟩) rfl ⟨hd2, trivial⟩ rfl ?_
    have h := Option.some.inj h
    subst h
    exact Tri.ret rfl ⟨.inl rfl, rfl, rfl⟩
/-! laws.toIntS -/
noncomputable def E_laws_toIntS : Env := ⟨Try.prog, tys, (Try.f34.body).getD .skip, 22, tysOk, mixedOk⟩
abbrev q_laws_toIntS (r : List Int) (σ' : ASt) : Prop := resAV E_laws_toIntS.T σ' Try.f34.results.toList = some (.sl 1000 0) ∧ keepO σ'.ob (namesO [(1000, .arr 3 0 0 (.ints r))]) = [(1000, .arr 3 0 0 (.ints r))]
noncomputable def l_laws_toIntS_0 (a0 : List Int) : (Int × (List Int)) → Option ((Int × (List Int)) ⊕ ((List Int)))
  | (v1, v2) => (
bif decide (v1 < (a0.length : Int)) then
(grd ((0 : Int) ≤ v1 ∧ v1 < (a0.length : Int)) <|
grd ((0 : Int) ≤ v1 ∧ v1 < (v2.length : Int)) <|
some (.inl (IntKind.i64.wrap (v1 + (1 : Int)), v2.set v1.toNat (a0.getD v1.toNat 0))))
else
(some (.inr v2)))
noncomputable def m_laws_toIntS (a0 : List Int) : Option (List Int) :=
grd ((0 : Int) ≤ (a0.length : Int) ∧ (a0.length : Int) = (a0.length : Int) ∧ (a0.length : Int) ≤ (room : Int)) <|
(iter (l_laws_toIntS_0 a0) ((0 : Int), List.replicate (a0.length : Int).toNat (0 : Int))).bind fun
| v3 => (
some v3)
theorem w_laws_toIntS (a0 : List Int) (r : List Int) (h : m_laws_toIntS a0 = some r) : AM.Spec Try.prog 34 [.list (.ints a0)] [] (.sl 1000 0) [(1000, .arr 3 0 0 (.ints r))] := by
  refine spec_of (E := E_laws_toIntS) Try.func34 rfl rfl rfl rfl ?_
  obtain ⟨hg1, h⟩ := grd_some h
  refine Tri.run 3 [] [.keep [0, 3, 4] [7]] (K' := [.code [(2, 0), (1, 0)] 0, .blk 0, .code [] 3]) (σ' := ⟨[(0, .list (.ints a0)), (3, .sl 7 0), (4, .int .i64 (0 : Int))], [(7, .arr 3 0 0 (.ints (List.replicate (a0.length : Int).toNat (0 : Int))))]⟩) rfl ⟨hg1, trivial⟩ rfl ?_
  obtain ⟨v3, hk5, h⟩ := bind_some h
  refine Tri.loop (K1 := [.code [(2, 0), (1, 0), (0, 0)] 0]) (K2 := [.blk 0, .code [] 3]) (fun (v1, v2) => ⟨[(0, .list (.ints a0)), (3, .sl 7 0), (4, .int .i64 v1)], [(7, .arr 3 0 0 (.ints v2))]⟩) (fun x e σ' => match x with | v3 => e = .exit 0 ∧ σ' = ⟨[(3, .sl 7 0)], [(7, .arr 3 0 0 (.ints v3))]⟩) hk5 rfl rfl ?_ ?_
  · intro s x hs
    clear h
    have h := hs
    clear hs
    obtain ⟨v1, v2⟩ := s
    refine Tri.run 1 [] [.keep [0, 3, 4, 11] [7]] (K' := [.code [(2, 0), (1, 0), (0, 0), (0, 0)] 1, .code [(2, 0), (1, 0), (0, 0)] 1]) (σ' := ⟨[(0, .list (.ints a0)), (3, .sl 7 0), (4, .int .i64 v1), (11, .bool (decide (v1 < (a0.length : Int))))], [(7, .arr 3 0 0 (.ints v2))]⟩) rfl trivial rfl ?_
    rcases bif_some h with ⟨hd2, h⟩ | ⟨hd2, h⟩
    · obtain ⟨hg3, h⟩ := grd_some h
      obtain ⟨hg4, h⟩ := grd_some h
      refine Tri.run 3 [.g true] [.keep [0, 3, 4] [7]] (K' := []) (σ' := ⟨[(0, .list (.ints a0)), (3, .sl 7 0), (4, .int .i64 (IntKind.i64.wrap (v1 + (1 : Int))))], [(7, .arr 3 0 0 (.ints (v2.set v1.toNat (a0.getD v1.toNat 0))))]⟩) rfl ⟨hg4, hg3, hd2, trivial⟩ rfl ?_
      have h := Option.some.inj h
      subst h
      exact Tri.nil ⟨rfl, rfl⟩
    · refine Tri.run 1 [.g false] [.keep [3] [7]] (K' := [.code [(2, 0), (1, 0), (0, 0), (0, 0), (1, 1)] 0, .code [(2, 0), (1, 0), (0, 0)] 1]) (σ' := ⟨[(3, .sl 7 0)], [(7, .arr 3 0 0 (.ints v2))]⟩) rfl ⟨hd2, trivial⟩ rfl ?_
      have h := Option.some.inj h
      subst h
      exact Tri.out 0 rfl ⟨nofun, rfl, rfl⟩
  · intro e σ' hne hq
    obtain ⟨rfl, rfl⟩ := hq
    refine TriX.exit (K' := [.code [] 3]) rfl ?_
    refine Tri.run 1 [] [.swap 7 1000, .keep [2] [1000]] (K' := [.code [] 4]) (σ' := ⟨[(2, .sl 1000 0)], [(1000, .arr 3 0 0 (.ints v3))]⟩) rfl trivial rfl ?_
    have h := Option.some.inj h
    subst h
    exact Tri.ret rfl ⟨.inl rfl, rfl, rfl⟩
/-! laws.toGame -/
noncomputable def E_laws_toGame : Env := ⟨Try.prog, tys, (Try.f10.body).getD .skip, 12, tysOk, mixedOk⟩
abbrev q_laws_toGame (r : Int × (List Int)) (σ' : ASt) : Prop := resAV E_laws_toGame.T σ' Try.f10.results.toList = some (.agg [.int .i64 r.1, .sl 1000 0]) ∧ keepO σ'.ob (namesO [(1000, .arr 3 0 0 (.ints r.2))]) = [(1000, .arr 3 0 0 (.ints r.2))]
noncomputable def m_laws_toGame (a0 : Int) (a1 : List Int) : Option (Int × (List Int)) :=
(m_laws_toIntS a1).bind fun v1 =>
some (a0, v1)
theorem w_laws_toGame (a0 : Int) (a1 : List Int) (r : Int × (List Int)) (h : m_laws_toGame a0 a1 = some r) : AM.Spec Try.prog 10 [.agg [.int .i64 a0, .list (.ints a1)]] [] (.agg [.int .i64 r.1, .sl 1000 0]) [(1000, .arr 3 0 0 (.ints r.2))] := by
  refine spec_of (E := E_laws_toGame) Try.func10 rfl rfl rfl rfl ?_
  refine Tri.run 3 [] [.keep [1, 2, 3] [1, 2, 3]] (K' := [.code [(3, 0)] 0, .code [] 4]) (σ' := ⟨[(1, .ptr 1 0), (2, .ptr 2 0), (3, .ptr 3 0)], [(1, .box [.int .i64 a0, .list (.ints a1)]), (2, .box [.int .i64 0, .nil (.ints [])]), (3, .box [.int .i64 a0, .nil (.ints [])])]⟩) rfl trivial rfl ?_
  obtain ⟨v1, hk1, h⟩ := bind_some h
  refine Tri.run 2 [.r ⟨[], .sl 1100 0, [(1100, .arr 3 0 0 (.ints v1))]⟩] [.swap 1100 1000, .keep [2] [2, 1000]] (K' := [.code [] 5]) (σ' := ⟨[(2, .ptr 2 0)], [(2, .box [.int .i64 a0, .sl 1000 0]), (1000, .arr 3 0 0 (.ints v1))]⟩) rfl ⟨((w_laws_toIntS a1 v1 hk1).swap 1000 1100), trivial⟩ rfl ?_
  have h := Option.some.inj h
  subst h
  exact Tri.ret rfl ⟨.inl rfl, rfl, rfl⟩
/-! spec.l1In -/
noncomputable def E_spec_l1In : Env := ⟨Try.prog, tys, (Try.f31.body).getD .skip, 15, tysOk, mixedOk⟩
abbrev q_spec_l1In (r : Bool) (σ' : ASt) : Prop := resAV E_spec_l1In.T σ' Try.f31.results.toList = some (.bool r) ∧ keepO σ'.ob (namesO []) = []
noncomputable def m_spec_l1In (a0 : Int) (a1 : Int) (a2 : Int) : Option Bool :=
bif decide (a0 ≥ a1) then
(some (decide (a0 ≤ a2)))
else
(some false)
theorem w_spec_l1In (a0 : Int) (a1 : Int) (a2 : Int) (r : Bool) (h : m_spec_l1In a0 a1 a2 = some r) : AM.Spec Try.prog 31 [.int .i64 a0, .int .i64 a1, .int .i64 a2] [] (.bool r) [] := by
  refine spec_of (E := E_spec_l1In) Try.func31 rfl rfl rfl rfl ?_
  refine Tri.run 1 [] [.keep [0, 1, 2] []] (K' := [.code [(1, 0)] 0, .code [] 2]) (σ' := ⟨[(0, .int .i64 a0), (1, .int .i64 a1), (2, .int .i64 a2)], []⟩) rfl trivial rfl ?_
  rcases bif_some h with ⟨hd1, h⟩ | ⟨hd1, h⟩
  · refine Tri.run 1 [.g true] [.keep [6] []] (K' := [.code [] 2]) (σ' := ⟨[(6, .bool (decide (a0 ≤ a2)))], []⟩) rfl ⟨hd1, trivial⟩ rfl ?_
    have h := Option.some.inj h
    subst h
    exact Tri.ret rfl ⟨.inl rfl, rfl, rfl⟩
  · refine Tri.run 1 [.g false] [.keep [6] []] (K' := [.code [] 2]) (σ' := ⟨[(6, .bool false)], []⟩) rfl ⟨hd1, trivial⟩ rfl ?_
    have h := Option.some.inj h
    subst h
    exact Tri.ret rfl ⟨.inl rfl, rfl, rfl⟩
/-! spec.CountCoalitions -/
noncomputable def E_spec_CountCoalitions : Env := ⟨Try.prog, tys, (Try.f45.body).getD .skip, 16, tysOk, mixedOk⟩
abbrev q_spec_CountCoalitions (r : Int) (σ' : ASt) : Prop := resAV E_spec_CountCoalitions.T σ' Try.f45.results.toList = some (.int .i64 r) ∧ keepO σ'.ob (namesO []) = []
noncomputable def l_spec_CountCoalitions_0 (a0 : Int) : (Int × Int) → Option ((Int × Int) ⊕ Int)
  | (v2, v3) => (
bif decide (v3 < a0) then
(some (.inl (IntKind.i64.wrap (v2 * (2 : Int)), IntKind.i64.wrap (v3 + (1 : Int)))))
else
(some (.inr v2)))
noncomputable def m_spec_CountCoalitions (a0 : Int) : Option Int :=
(m_spec_l1In a0 (0 : Int) (5 : Int)).bind fun v1 =>
bif !v1 then
(some (0 : Int))
else
((iter (l_spec_CountCoalitions_0 a0) ((1 : Int), (0 : Int))).bind fun
| v4 => (
some v4))
theorem w_spec_CountCoalitions (a0 : Int) (r : Int) (h : m_spec_CountCoalitions a0 = some r) : AM.Spec Try.prog 45 [.int .i64 a0] [] (.int .i64 r) [] := by
  refine spec_of (E := E_spec_CountCoalitions) Try.func45 rfl rfl rfl rfl ?_
  refine Tri.run 1 [] [.keep [0] []] (K' := [.code [(1, 0), (0, 0)] 0, .code [(1, 0)] 1, .code [] 2]) (σ' := ⟨[(0, .int .i64 a0)], []⟩) rfl trivial rfl ?_
  obtain ⟨v1, hk1, h⟩ := bind_some h
  refine Tri.run 1 [.r ⟨[], .bool v1, []⟩] [.keep [0, 7] []] (K' := [.code [(1, 0)] 1, .code [] 2]) (σ' := ⟨[(0, .int .i64 a0), (7, .bool (!v1))], []⟩) rfl ⟨(w_spec_l1In a0 (0 : Int) (5 : Int) v1 hk1), trivial⟩ rfl ?_
  rcases bif_some h with ⟨hd2, h⟩ | ⟨hd2, h⟩
  · refine Tri.run 2 [.g true] [.keep [2] []] (K' := [.code [(1, 0), (1, 0)] 1, .code [] 2]) (σ' := ⟨[(2, .int .i64 (0 : Int))], []⟩) rfl ⟨hd2, trivial⟩ rfl ?_
    have h := Option.some.inj h
    subst h
    exact Tri.ret rfl ⟨.inl rfl, rfl, rfl⟩
  · refine Tri.run 3 [.g false] [.keep [0, 3, 4] []] (K' := [.code [(3, 0), (1, 0)] 0, .blk 0, .code [] 4]) (σ' := ⟨[(0, .int .i64 a0), (3, .int .i64 (1 : Int)), (4, .int .i64 (0 : Int))], []⟩) rfl ⟨hd2, trivial⟩ rfl ?_
    obtain ⟨v4, hk4, h⟩ := bind_some h
    refine Tri.loop (K1 := [.code [(3, 0), (1, 0), (0, 0)] 0]) (K2 := [.blk 0, .code [] 4]) (fun (v2, v3) => ⟨[(0, .int .i64 a0), (3, .int .i64 v2), (4, .int .i64 v3)], []⟩) (fun x e σ' => match x with | v4 => e = .exit 0 ∧ σ' = ⟨[(3, .int .i64 v4)], []⟩) hk4 rfl rfl ?_ ?_
    · intro s x hs
      clear h
      have h := hs
      clear hs
      obtain ⟨v2, v3⟩ := s
      refine Tri.run 1 [] [.keep [0, 3, 4, 10] []] (K' := [.code [(3, 0), (1, 0), (0, 0), (0, 0)] 1, .code [(3, 0), (1, 0), (0, 0)] 1]) (σ' := ⟨[(0, .int .i64 a0), (3, .int .i64 v2), (4, .int .i64 v3), (10, .bool (decide (v3 < a0)))], []⟩) rfl trivial rfl ?_
      rcases bif_some h with ⟨hd3, h⟩ | ⟨hd3, h⟩
      · refine Tri.run 3 [.g true] [.keep [0, 3, 4] []] (K' := []) (σ' := ⟨[(0, .int .i64 a0), (3, .int .i64 (IntKind.i64.wrap (v2 * (2 : Int)))), (4, .int .i64 (IntKind.i64.wrap (v3 + (1 : Int))))], []⟩) rfl ⟨hd3, trivial⟩ rfl ?_
        have h := Option.some.inj h
        subst h
        exact Tri.nil ⟨rfl, rfl⟩
      · refine Tri.run 1 [.g false] [.keep [3] []] (K' := [.code [(3, 0), (1, 0), (0, 0), (0, 0), (1, 1)] 0, .code [(3, 0), (1, 0), (0, 0)] 1]) (σ' := ⟨[(3, .int .i64 v2)], []⟩) rfl ⟨hd3, trivial⟩ rfl ?_
        have h := Option.some.inj h
        subst h
        exact Tri.out 0 rfl ⟨nofun, rfl, rfl⟩
    · intro e σ' hne hq
      obtain ⟨rfl, rfl⟩ := hq
      refine TriX.exit (K' := [.code [] 4]) rfl ?_
      refine Tri.run 1 [] [.keep [2] []] (K' := [.code [] 5]) (σ' := ⟨[(2, .int .i64 v4)], []⟩) rfl trivial rfl ?_
      have h := Option.some.inj h
      subst h
      exact Tri.ret rfl ⟨.inl rfl, rfl, rfl⟩
/-! spec.IsValidGame -/
noncomputable def E_spec_IsValidGame : Env := ⟨Try.prog, tys, (Try.f30.body).getD .skip, 37, tysOk, mixedOk⟩
abbrev q_spec_IsValidGame (r : Bool) (σ' : ASt) : Prop := resAV E_spec_IsValidGame.T σ' Try.f30.results.toList = some (.bool r) ∧ keepO σ'.ob (namesO []) = []
noncomputable def l_spec_IsValidGame_0 (a1 : List Int) (v1 : Int) : Option (Int ⊕ (Unit ⊕ Bool)) :=
bif decide (v1 < (a1.length : Int)) then
(grd ((0 : Int) ≤ v1 ∧ v1 < (a1.length : Int)) <|
(m_spec_l1In (a1.getD v1.toNat 0) (-500 : Int) (500 : Int)).bind fun v2 =>
bif !v2 then
(some (.inr (.inr false)))
else
(some (.inl (IntKind.i64.wrap (v1 + (1 : Int))))))
else
(some (.inr (.inl ())))
noncomputable def m_spec_IsValidGame (a0 : Int) (a1 : List Int) : Option Bool :=
(iter (l_spec_IsValidGame_0 a1) (0 : Int)).bind fun
| (.inl _) => (
(m_spec_l1In a0 (1 : Int) (5 : Int)).bind fun v3 =>
bif v3 then
((m_spec_CountCoalitions a0).bind fun v4 =>
bif (a1.length : Int) == v4 then
(grd ((0 : Int) ≤ (0 : Int) ∧ (0 : Int) < (a1.length : Int)) <|
some ((a1.getD ((0 : Int).toNat) 0) == (0 : Int)))
else
(some false))
else
(some false))
| (.inr r) => some r
theorem w_spec_IsValidGame (a0 : Int) (a1 : List Int) (r : Bool) (h : m_spec_IsValidGame a0 a1 = some r) : AM.Spec Try.prog 30 [.agg [.int .i64 a0, .list (.ints a1)]] [] (.bool r) [] := by
  refine spec_of (E := E_spec_IsValidGame) Try.func30 rfl rfl rfl rfl ?_
  refine Tri.run 2 [] [.keep [1, 3] [1]] (K' := [.code [(1, 0), (1, 0)] 0, .blk 0, .code [] 2]) (σ' := ⟨[(1, .ptr 1 0), (3, .int .i64 (0 : Int))], [(1, .box [.int .i64 a0, .list (.ints a1)])]⟩) rfl trivial rfl ?_
  obtain ⟨x1, hk5, h⟩ := bind_some h
  refine Tri.loop (K1 := [.code [(1, 0), (1, 0), (0, 0)] 0]) (K2 := [.blk 0, .code [] 2]) (fun v1 => ⟨[(1, .ptr 1 0), (3, .int .i64 v1)], [(1, .box [.int .i64 a0, .list (.ints a1)])]⟩) (fun x e σ' => match x with | (.inl _) => e = .exit 0 ∧ σ' = ⟨[(1, .ptr 1 0)], [(1, .box [.int .i64 a0, .list (.ints a1)])]⟩ | (.inr r) => e = .ret ∧ q_spec_IsValidGame r σ') hk5 rfl rfl ?_ ?_
  · intro v1 x hs
    clear h
    have h := hs
    clear hs
    refine Tri.run 1 [] [.keep [1, 3, 8] [1]] (K' := [.code [(1, 0), (1, 0), (0, 0), (0, 0)] 1, .code [(1, 0), (1, 0), (0, 0)] 1]) (σ' := ⟨[(1, .ptr 1 0), (3, .int .i64 v1), (8, .bool (decide (v1 < (a1.length : Int))))], [(1, .box [.int .i64 a0, .list (.ints a1)])]⟩) rfl trivial rfl ?_
    rcases bif_some h with ⟨hd1, h⟩ | ⟨hd1, h⟩
    · obtain ⟨hg2, h⟩ := grd_some h
      obtain ⟨v2, hk3, h⟩ := bind_some h
      refine Tri.run 2 [.g true, .r ⟨[], .bool v2, []⟩] [.keep [1, 3, 17] [1]] (K' := [.code [(1, 0), (1, 0), (0, 0), (1, 0), (0, 0)] 1, .blk 1, .code [(1, 0), (1, 0), (0, 0)] 2]) (σ' := ⟨[(1, .ptr 1 0), (3, .int .i64 v1), (17, .bool (!v2))], [(1, .box [.int .i64 a0, .list (.ints a1)])]⟩) rfl ⟨(w_spec_l1In (a1.getD v1.toNat 0) (-500 : Int) (500 : Int) v2 hk3), hg2, hd1, trivial⟩ rfl ?_
      rcases bif_some h with ⟨hd4, h⟩ | ⟨hd4, h⟩
      · refine Tri.run 2 [.g true] [.keep [2] []] (K' := [.code [(1, 0), (1, 0), (0, 0), (1, 0), (0, 0), (1, 0)] 1, .blk 1, .code [(1, 0), (1, 0), (0, 0)] 2]) (σ' := ⟨[(2, .bool false)], []⟩) rfl ⟨hd4, trivial⟩ rfl ?_
        have h := Option.some.inj h
        subst h
        exact Tri.ret rfl ⟨nofun, rfl, rfl, rfl⟩
      · refine Tri.run 2 [.g false] [.keep [1, 3] [1]] (K' := []) (σ' := ⟨[(1, .ptr 1 0), (3, .int .i64 (IntKind.i64.wrap (v1 + (1 : Int))))], [(1, .box [.int .i64 a0, .list (.ints a1)])]⟩) rfl ⟨hd4, trivial⟩ rfl ?_
        have h := Option.some.inj h
        subst h
        exact Tri.nil ⟨rfl, rfl⟩
    · refine Tri.run 1 [.g false] [.keep [1] [1]] (K' := [.code [(1, 0), (1, 0), (0, 0), (0, 0), (1, 1)] 0, .code [(1, 0), (1, 0), (0, 0)] 1]) (σ' := ⟨[(1, .ptr 1 0)], [(1, .box [.int .i64 a0, .list (.ints a1)])]⟩) rfl ⟨hd1, trivial⟩ rfl ?_
      have h := Option.some.inj h
      subst h
      exact Tri.out 0 rfl ⟨nofun, rfl, rfl⟩
  · intro e σ' hne hq
    rcases x1 with _ | r
    · obtain ⟨rfl, rfl⟩ := hq
      refine TriX.exit (K' := [.code [] 2]) rfl ?_
      obtain ⟨v3, hk6, h⟩ := bind_some h
      rcases bif_some h with ⟨hd7, h⟩ | ⟨hd7, h⟩
      · obtain ⟨v4, hk8, h⟩ := bind_some h
        rcases bif_some h with ⟨hd9, h⟩ | ⟨hd9, h⟩
        · obtain ⟨hg10, h⟩ := grd_some h
          refine Tri.run 1 [.r ⟨[], .bool v3, []⟩, .g true, .r ⟨[], .int .i64 v4, []⟩, .g true] [.keep [2] []] (K' := [.code [] 3]) (σ' := ⟨[(2, .bool ((a1.getD ((0 : Int).toNat) 0) == (0 : Int)))], []⟩) rfl ⟨hg10, hd9, (w_spec_CountCoalitions a0 v4 hk8), hd7, (w_spec_l1In a0 (1 : Int) (5 : Int) v3 hk6), trivial⟩ rfl ?_
          have h := Option.some.inj h
          subst h
          exact Tri.ret rfl ⟨.inl rfl, rfl, rfl⟩
        · refine Tri.run 1 [.r ⟨[], .bool v3, []⟩, .g true, .r ⟨[], .int .i64 v4, []⟩, .g false] [.keep [2] []] (K' := [.code [] 3]) (σ' := ⟨[(2, .bool false)], []⟩) rfl ⟨hd9, (w_spec_CountCoalitions a0 v4 hk8), hd7, (w_spec_l1In a0 (1 : Int) (5 : Int) v3 hk6), trivial⟩ rfl ?_
          have h := Option.some.inj h
          subst h
          exact Tri.ret rfl ⟨.inl rfl, rfl, rfl⟩
      · refine Tri.run 1 [.r ⟨[], .bool v3, []⟩, .g false, .g false] [.keep [2] []] (K' := [.code [] 3]) (σ' := ⟨[(2, .bool false)], []⟩) rfl ⟨rfl, hd7, (w_spec_l1In a0 (1 : Int) (5 : Int) v3 hk6), trivial⟩ rfl ?_
        have h := Option.some.inj h
        subst h
        exact Tri.ret rfl ⟨.inl rfl, rfl, rfl⟩
    · obtain ⟨rfl, hq⟩ := hq
      have h := Option.some.inj h
      subst h
      exact TriX.ret ⟨.inl rfl, hq⟩
/-! spec.l2Bit -/
noncomputable def E_spec_l2Bit : Env := ⟨Try.prog, tys, (Try.f33.body).getD .skip, 5, tysOk, mixedOk⟩
abbrev q_spec_l2Bit (r : Int) (σ' : ASt) : Prop := resAV E_spec_l2Bit.T σ' Try.f33.results.toList = some (.int .i64 r) ∧ keepO σ'.ob (namesO []) = []
noncomputable def m_spec_l2Bit (a0 : Int) : Option Int :=
(m_spec_CountCoalitions a0).bind fun v1 =>
some v1
theorem w_spec_l2Bit (a0 : Int) (r : Int) (h : m_spec_l2Bit a0 = some r) : AM.Spec Try.prog 33 [.int .i64 a0] [] (.int .i64 r) [] := by
  refine spec_of (E := E_spec_l2Bit) Try.func33 rfl rfl rfl rfl ?_
  refine Tri.run 1 [] [.keep [0] []] (K' := [.code [(1, 0)] 0, .code [] 2]) (σ' := ⟨[(0, .int .i64 a0)], []⟩) rfl trivial rfl ?_
  obtain ⟨v1, hk1, h⟩ := bind_some h
  refine Tri.run 1 [.r ⟨[], .int .i64 v1, []⟩] [.keep [2] []] (K' := [.code [] 2]) (σ' := ⟨[(2, .int .i64 v1)], []⟩) rfl ⟨(w_spec_CountCoalitions a0 v1 hk1), trivial⟩ rfl ?_
  have h := Option.some.inj h
  subst h
  exact Tri.ret rfl ⟨.inl rfl, rfl, rfl⟩
/-! spec.HasPlayer -/
noncomputable def E_spec_HasPlayer : Env := ⟨Try.prog, tys, (Try.f32.body).getD .skip, 19, tysOk, mixedOk⟩
abbrev q_spec_HasPlayer (r : Bool) (σ' : ASt) : Prop := resAV E_spec_HasPlayer.T σ' Try.f32.results.toList = some (.bool r) ∧ keepO σ'.ob (namesO []) = []
noncomputable def m_spec_HasPlayer (a0 : Int) (a1 : Int) : Option Bool :=
(m_spec_l1In a1 (0 : Int) (4 : Int)).bind fun v1 =>
bif v1 then
(bif decide (a0 ≥ (0 : Int)) then
((m_spec_l2Bit a1).bind fun v2 =>
grd (v2 ≠ 0) <|
grd ((2 : Int) ≠ 0) <|
some (((IntKind.i64.wrap (a0.tdiv v2)).tmod (2 : Int)) == (1 : Int)))
else
(some false))
else
(some false)
theorem w_spec_HasPlayer (a0 : Int) (a1 : Int) (r : Bool) (h : m_spec_HasPlayer a0 a1 = some r) : AM.Spec Try.prog 32 [.int .i64 a0, .int .i64 a1] [] (.bool r) [] := by
  refine spec_of (E := E_spec_HasPlayer) Try.func32 rfl rfl rfl rfl ?_
  refine Tri.run 1 [] [.keep [0, 1] []] (K' := [.code [(1, 0)] 0, .code [] 2]) (σ' := ⟨[(0, .int .i64 a0), (1, .int .i64 a1)], []⟩) rfl trivial rfl ?_
  obtain ⟨v1, hk1, h⟩ := bind_some h
  rcases bif_some h with ⟨hd2, h⟩ | ⟨hd2, h⟩
  · rcases bif_some h with ⟨hd3, h⟩ | ⟨hd3, h⟩
    · obtain ⟨v2, hk4, h⟩ := bind_some h
      obtain ⟨hg5, h⟩ := grd_some h
      obtain ⟨hg6, h⟩ := grd_some h
      refine Tri.run 1 [.r ⟨[], .bool v1, []⟩, .g true, .g true, .r ⟨[], .int .i64 v2, []⟩] [.keep [4] []] (K' := [.code [] 2]) (σ' := ⟨[(4, .bool (((IntKind.i64.wrap (a0.tdiv v2)).tmod (2 : Int)) == (1 : Int)))], []⟩) rfl ⟨hg6, hg5, (w_spec_l2Bit a1 v2 hk4), hd3, hd2, (w_spec_l1In a1 (0 : Int) (4 : Int) v1 hk1), trivial⟩ rfl ?_
      have h := Option.some.inj h
      subst h
      exact Tri.ret rfl ⟨.inl rfl, rfl, rfl⟩
    · refine Tri.run 1 [.r ⟨[], .bool v1, []⟩, .g true, .g false] [.keep [4] []] (K' := [.code [] 2]) (σ' := ⟨[(4, .bool false)], []⟩) rfl ⟨hd3, hd2, (w_spec_l1In a1 (0 : Int) (4 : Int) v1 hk1), trivial⟩ rfl ?_
      have h := Option.some.inj h
      subst h
      exact Tri.ret rfl ⟨.inl rfl, rfl, rfl⟩
  · refine Tri.run 1 [.r ⟨[], .bool v1, []⟩, .g false, .g false] [.keep [4] []] (K' := [.code [] 2]) (σ' := ⟨[(4, .bool false)], []⟩) rfl ⟨rfl, hd2, (w_spec_l1In a1 (0 : Int) (4 : Int) v1 hk1), trivial⟩ rfl ?_
    have h := Option.some.inj h
    subst h
    exact Tri.ret rfl ⟨.inl rfl, rfl, rfl⟩
/-! spec.AreSymmetric -/
noncomputable def E_spec_AreSymmetric : Env := ⟨Try.prog, tys, (Try.f9.body).getD .skip, 63, tysOk, mixedOk⟩
abbrev q_spec_AreSymmetric (r : Bool) (σ' : ASt) : Prop := resAV E_spec_AreSymmetric.T σ' Try.f9.results.toList = some (.bool r) ∧ keepO σ'.ob (namesO []) = []
noncomputable def l_spec_AreSymmetric_0 (a1 : List Int) (a2 : Int) (a3 : Int) (v4 : Int) : Option (Int ⊕ (Unit ⊕ Bool)) :=
bif decide (v4 < (a1.length : Int)) then
((m_spec_HasPlayer v4 a2).bind fun v5 =>
bif !v5 then
((m_spec_HasPlayer v4 a3).bind fun v6 =>
bif !v6 then
((m_spec_l2Bit a2).bind fun v7 =>
grd ((0 : Int) ≤ IntKind.i64.wrap (v4 + v7) ∧ IntKind.i64.wrap (v4 + v7) < (a1.length : Int)) <|
(m_spec_l2Bit a3).bind fun v8 =>
grd ((0 : Int) ≤ IntKind.i64.wrap (v4 + v8) ∧ IntKind.i64.wrap (v4 + v8) < (a1.length : Int)) <|
bif (a1.getD ((IntKind.i64.wrap (v4 + v7)).toNat) 0) != (a1.getD ((IntKind.i64.wrap (v4 + v8)).toNat) 0) then
(some (.inr (.inr false)))
else
(some (.inl (IntKind.i64.wrap (v4 + (1 : Int))))))
else
(some (.inl (IntKind.i64.wrap (v4 + (1 : Int))))))
else
(some (.inl (IntKind.i64.wrap (v4 + (1 : Int))))))
else
(some (.inr (.inl ())))
noncomputable def m_spec_AreSymmetric (a0 : Int) (a1 : List Int) (a2 : Int) (a3 : Int) : Option Bool :=
(m_spec_IsValidGame a0 a1).bind fun v1 =>
bif !v1 then
(some false)
else
((m_spec_l1In a2 (0 : Int) (IntKind.i64.wrap (a0 - (1 : Int)))).bind fun v2 =>
bif !v2 then
(some false)
else
((m_spec_l1In a3 (0 : Int) (IntKind.i64.wrap (a0 - (1 : Int)))).bind fun v3 =>
bif !v3 then
(some false)
else
((iter (l_spec_AreSymmetric_0 a1 a2 a3) (0 : Int)).bind fun
| (.inl _) => (
some true)
| (.inr r) => some r)))
theorem w_spec_AreSymmetric (a0 : Int) (a1 : List Int) (a2 : Int) (a3 : Int) (r : Bool) (h : m_spec_AreSymmetric a0 a1 a2 a3 = some r) : AM.Spec Try.prog 9 [.agg [.int .i64 a0, .list (.ints a1)], .int .i64 a2, .int .i64 a3] [] (.bool r) [] := by
  refine spec_of (E := E_spec_AreSymmetric) Try.func9 rfl rfl rfl rfl ?_
  refine Tri.run 1 [] [.keep [1, 2, 3] [3]] (K' := [.code [(1, 0), (0, 0)] 0, .code [(1, 0)] 1, .code [] 2]) (σ' := ⟨[(1, .int .i64 a2), (2, .int .i64 a3), (3, .ptr 3 0)], [(3, .box [.int .i64 a0, .list (.ints a1)])]⟩) rfl trivial rfl ?_
  obtain ⟨v1, hk1, h⟩ := bind_some h
  rcases bif_some h with ⟨hd2, h⟩ | ⟨hd2, h⟩
  · refine Tri.run 1 [.r ⟨[], .bool v1, []⟩, .g true, .g true] [.keep [1, 2, 3, 26] [3]] (K' := [.code [(1, 0)] 1, .code [] 2]) (σ' := ⟨[(1, .int .i64 a2), (2, .int .i64 a3), (3, .ptr 3 0), (26, .bool true)], [(3, .box [.int .i64 a0, .list (.ints a1)])]⟩) rfl ⟨rfl, hd2, (w_spec_IsValidGame a0 a1 v1 hk1), trivial⟩ rfl ?_
    refine Tri.run 2 [.g true] [.keep [6] []] (K' := [.code [(1, 0), (1, 0)] 1, .code [] 2]) (σ' := ⟨[(6, .bool false)], []⟩) rfl ⟨rfl, trivial⟩ rfl ?_
    have h := Option.some.inj h
    subst h
    exact Tri.ret rfl ⟨.inl rfl, rfl, rfl⟩
  · obtain ⟨v2, hk3, h⟩ := bind_some h
    rcases bif_some h with ⟨hd4, h⟩ | ⟨hd4, h⟩
    · refine Tri.run 1 [.r ⟨[], .bool v1, []⟩, .g false, .r ⟨[], .bool v2, []⟩, .g true] [.keep [1, 2, 3, 26] [3]] (K' := [.code [(1, 0)] 1, .code [] 2]) (σ' := ⟨[(1, .int .i64 a2), (2, .int .i64 a3), (3, .ptr 3 0), (26, .bool true)], [(3, .box [.int .i64 a0, .list (.ints a1)])]⟩) rfl ⟨hd4, (w_spec_l1In a2 (0 : Int) (IntKind.i64.wrap (a0 - (1 : Int))) v2 hk3), hd2, (w_spec_IsValidGame a0 a1 v1 hk1), trivial⟩ rfl ?_
      refine Tri.run 2 [.g true] [.keep [6] []] (K' := [.code [(1, 0), (1, 0)] 1, .code [] 2]) (σ' := ⟨[(6, .bool false)], []⟩) rfl ⟨rfl, trivial⟩ rfl ?_
      have h := Option.some.inj h
      subst h
      exact Tri.ret rfl ⟨.inl rfl, rfl, rfl⟩
    · obtain ⟨v3, hk5, h⟩ := bind_some h
      refine Tri.run 1 [.r ⟨[], .bool v1, []⟩, .g false, .r ⟨[], .bool v2, []⟩, .g false, .r ⟨[], .bool v3, []⟩] [.keep [1, 2, 3, 26] [3]] (K' := [.code [(1, 0)] 1, .code [] 2]) (σ' := ⟨[(1, .int .i64 a2), (2, .int .i64 a3), (3, .ptr 3 0), (26, .bool (!v3))], [(3, .box [.int .i64 a0, .list (.ints a1)])]⟩) rfl ⟨(w_spec_l1In a3 (0 : Int) (IntKind.i64.wrap (a0 - (1 : Int))) v3 hk5), hd4, (w_spec_l1In a2 (0 : Int) (IntKind.i64.wrap (a0 - (1 : Int))) v2 hk3), hd2, (w_spec_IsValidGame a0 a1 v1 hk1), trivial⟩ rfl ?_
      rcases bif_some h with ⟨hd6, h⟩ | ⟨hd6, h⟩
      · refine Tri.run 2 [.g true] [.keep [6] []] (K' := [.code [(1, 0), (1, 0)] 1, .code [] 2]) (σ' := ⟨[(6, .bool false)], []⟩) rfl ⟨hd6, trivial⟩ rfl ?_
        have h := Option.some.inj h
        subst h
        exact Tri.ret rfl ⟨.inl rfl, rfl, rfl⟩
      · refine Tri.run 2 [.g false] [.keep [1, 2, 3, 7] [3]] (K' := [.code [(2, 0), (1, 0)] 0, .blk 0, .code [] 3]) (σ' := ⟨[(1, .int .i64 a2), (2, .int .i64 a3), (3, .ptr 3 0), (7, .int .i64 (0 : Int))], [(3, .box [.int .i64 a0, .list (.ints a1)])]⟩) rfl ⟨hd6, trivial⟩ rfl ?_
        obtain ⟨x1, hk17, h⟩ := bind_some h
        refine Tri.loop (K1 := [.code [(2, 0), (1, 0), (0, 0)] 0]) (K2 := [.blk 0, .code [] 3]) (fun v4 => ⟨[(1, .int .i64 a2), (2, .int .i64 a3), (3, .ptr 3 0), (7, .int .i64 v4)], [(3, .box [.int .i64 a0, .list (.ints a1)])]⟩) (fun x e σ' => match x with | (.inl _) => e = .exit 0 ∧ σ' = ⟨[], []⟩ | (.inr r) => e = .ret ∧ q_spec_AreSymmetric r σ') hk17 rfl rfl ?_ ?_
        · intro v4 x hs
          clear h
          have h := hs
          clear hs
          refine Tri.run 1 [] [.keep [1, 2, 3, 7, 31] [3]] (K' := [.code [(2, 0), (1, 0), (0, 0), (0, 0)] 1, .code [(2, 0), (1, 0), (0, 0)] 1]) (σ' := ⟨[(1, .int .i64 a2), (2, .int .i64 a3), (3, .ptr 3 0), (7, .int .i64 v4), (31, .bool (decide (v4 < (a1.length : Int))))], [(3, .box [.int .i64 a0, .list (.ints a1)])]⟩) rfl trivial rfl ?_
          rcases bif_some h with ⟨hd7, h⟩ | ⟨hd7, h⟩
          · obtain ⟨v5, hk8, h⟩ := bind_some h
            rcases bif_some h with ⟨hd9, h⟩ | ⟨hd9, h⟩
            · obtain ⟨v6, hk10, h⟩ := bind_some h
              rcases bif_some h with ⟨hd11, h⟩ | ⟨hd11, h⟩
              · obtain ⟨v7, hk12, h⟩ := bind_some h
                obtain ⟨hg13, h⟩ := grd_some h
                obtain ⟨v8, hk14, h⟩ := bind_some h
                obtain ⟨hg15, h⟩ := grd_some h
                refine Tri.run 2 [.g true, .r ⟨[], .bool v5, []⟩, .g true, .r ⟨[], .bool v6, []⟩, .g true, .r ⟨[], .int .i64 v7, []⟩, .r ⟨[], .int .i64 v8, []⟩] [.keep [1, 2, 3, 7, 62] [3]] (K' := [.code [(2, 0), (1, 0), (0, 0), (1, 0), (0, 0)] 1, .blk 1, .code [(2, 0), (1, 0), (0, 0)] 2]) (σ' := ⟨[(1, .int .i64 a2), (2, .int .i64 a3), (3, .ptr 3 0), (7, .int .i64 v4), (62, .bool ((a1.getD ((IntKind.i64.wrap (v4 + v7)).toNat) 0) != (a1.getD ((IntKind.i64.wrap (v4 + v8)).toNat) 0)))], [(3, .box [.int .i64 a0, .list (.ints a1)])]⟩) rfl ⟨hg15, (w_spec_l2Bit a3 v8 hk14), hg13, (w_spec_l2Bit a2 v7 hk12), hd11, (w_spec_HasPlayer v4 a3 v6 hk10), hd9, (w_spec_HasPlayer v4 a2 v5 hk8), hd7, trivial⟩ rfl ?_
                rcases bif_some h with ⟨hd16, h⟩ | ⟨hd16, h⟩
                · refine Tri.run 2 [.g true] [.keep [6] []] (K' := [.code [(2, 0), (1, 0), (0, 0), (1, 0), (0, 0), (1, 0)] 1, .blk 1, .code [(2, 0), (1, 0), (0, 0)] 2]) (σ' := ⟨[(6, .bool false)], []⟩) rfl ⟨hd16, trivial⟩ rfl ?_
                  have h := Option.some.inj h
                  subst h
                  exact Tri.ret rfl ⟨nofun, rfl, rfl, rfl⟩
                · refine Tri.run 2 [.g false] [.keep [1, 2, 3, 7] [3]] (K' := []) (σ' := ⟨[(1, .int .i64 a2), (2, .int .i64 a3), (3, .ptr 3 0), (7, .int .i64 (IntKind.i64.wrap (v4 + (1 : Int))))], [(3, .box [.int .i64 a0, .list (.ints a1)])]⟩) rfl ⟨hd16, trivial⟩ rfl ?_
                  have h := Option.some.inj h
                  subst h
                  exact Tri.nil ⟨rfl, rfl⟩
              · refine Tri.run 2 [.g true, .r ⟨[], .bool v5, []⟩, .g true, .r ⟨[], .bool v6, []⟩, .g false] [.keep [1, 2, 3, 7, 62] [3]] (K' := [.code [(2, 0), (1, 0), (0, 0), (1, 0), (0, 0)] 1, .blk 1, .code [(2, 0), (1, 0), (0, 0)] 2]) (σ' := ⟨[(1, .int .i64 a2), (2, .int .i64 a3), (3, .ptr 3 0), (7, .int .i64 v4), (62, .bool false)], [(3, .box [.int .i64 a0, .list (.ints a1)])]⟩) rfl ⟨hd11, (w_spec_HasPlayer v4 a3 v6 hk10), hd9, (w_spec_HasPlayer v4 a2 v5 hk8), hd7, trivial⟩ rfl ?_
                refine Tri.run 2 [.g false] [.keep [1, 2, 3, 7] [3]] (K' := []) (σ' := ⟨[(1, .int .i64 a2), (2, .int .i64 a3), (3, .ptr 3 0), (7, .int .i64 (IntKind.i64.wrap (v4 + (1 : Int))))], [(3, .box [.int .i64 a0, .list (.ints a1)])]⟩) rfl ⟨rfl, trivial⟩ rfl ?_
                have h := Option.some.inj h
                subst h
                exact Tri.nil ⟨rfl, rfl⟩
            · refine Tri.run 2 [.g true, .r ⟨[], .bool v5, []⟩, .g false, .g false] [.keep [1, 2, 3, 7, 62] [3]] (K' := [.code [(2, 0), (1, 0), (0, 0), (1, 0), (0, 0)] 1, .blk 1, .code [(2, 0), (1, 0), (0, 0)] 2]) (σ' := ⟨[(1, .int .i64 a2), (2, .int .i64 a3), (3, .ptr 3 0), (7, .int .i64 v4), (62, .bool false)], [(3, .box [.int .i64 a0, .list (.ints a1)])]⟩) rfl ⟨rfl, hd9, (w_spec_HasPlayer v4 a2 v5 hk8), hd7, trivial⟩ rfl ?_
              refine Tri.run 2 [.g false] [.keep [1, 2, 3, 7] [3]] (K' := []) (σ' := ⟨[(1, .int .i64 a2), (2, .int .i64 a3), (3, .ptr 3 0), (7, .int .i64 (IntKind.i64.wrap (v4 + (1 : Int))))], [(3, .box [.int .i64 a0, .list (.ints a1)])]⟩) rfl ⟨rfl, trivial⟩ rfl ?_
              have h := Option.some.inj h
              subst h
              exact Tri.nil ⟨rfl, rfl⟩
          · refine Tri.run 1 [.g false] [.keep [] []] (K' := [.code [(2, 0), (1, 0), (0, 0), (0, 0), (1, 1)] 0, .code [(2, 0), (1, 0), (0, 0)] 1]) (σ' := ⟨[], []⟩) rfl ⟨hd7, trivial⟩ rfl ?_
            have h := Option.some.inj h
            subst h
            exact Tri.out 0 rfl ⟨nofun, rfl, rfl⟩
        · intro e σ' hne hq
          rcases x1 with _ | r
          · obtain ⟨rfl, rfl⟩ := hq
            refine TriX.exit (K' := [.code [] 3]) rfl ?_
            refine Tri.run 1 [] [.keep [6] []] (K' := [.code [] 4]) (σ' := ⟨[(6, .bool true)], []⟩) rfl trivial rfl ?_
            have h := Option.some.inj h
            subst h
            exact Tri.ret rfl ⟨.inl rfl, rfl, rfl⟩
          · obtain ⟨rfl, hq⟩ := hq
            have h := Option.some.inj h
            subst h
            exact TriX.ret ⟨.inl rfl, hq⟩
/-! impl.within -/
noncomputable def E_impl_within : Env := ⟨Try.prog, tys, (Try.f36.body).getD .skip, 15, tysOk, mixedOk⟩
abbrev q_impl_within (r : Bool) (σ' : ASt) : Prop := resAV E_impl_within.T σ' Try.f36.results.toList = some (.bool r) ∧ keepO σ'.ob (namesO []) = []
noncomputable def m_impl_within (a0 : Int) (a1 : Int) (a2 : Int) : Option Bool :=
bif decide (a0 ≥ a1) then
(some (decide (a0 ≤ a2)))
else
(some false)
theorem w_impl_within (a0 : Int) (a1 : Int) (a2 : Int) (r : Bool) (h : m_impl_within a0 a1 a2 = some r) : AM.Spec Try.prog 36 [.int .i64 a0, .int .i64 a1, .int .i64 a2] [] (.bool r) [] := by
  refine spec_of (E := E_impl_within) Try.func36 rfl rfl rfl rfl ?_
  refine Tri.run 1 [] [.keep [0, 1, 2] []] (K' := [.code [(1, 0)] 0, .code [] 2]) (σ' := ⟨[(0, .int .i64 a0), (1, .int .i64 a1), (2, .int .i64 a2)], []⟩) rfl trivial rfl ?_
  rcases bif_some h with ⟨hd1, h⟩ | ⟨hd1, h⟩
  · refine Tri.run 1 [.g true] [.keep [6] []] (K' := [.code [] 2]) (σ' := ⟨[(6, .bool (decide (a0 ≤ a2)))], []⟩) rfl ⟨hd1, trivial⟩ rfl ?_
    have h := Option.some.inj h
    subst h
    exact Tri.ret rfl ⟨.inl rfl, rfl, rfl⟩
  · refine Tri.run 1 [.g false] [.keep [6] []] (K' := [.code [] 2]) (σ' := ⟨[(6, .bool false)], []⟩) rfl ⟨hd1, trivial⟩ rfl ?_
    have h := Option.some.inj h
    subst h
    exact Tri.ret rfl ⟨.inl rfl, rfl, rfl⟩
/-! impl.IsValidGame$1 -/
noncomputable def E_impl_IsValidGame_1 : Env := ⟨Try.prog, tys, (Try.f47.body).getD .skip, 6, tysOk, mixedOk⟩
abbrev q_impl_IsValidGame_1 (r : Bool) (σ' : ASt) : Prop := resAV E_impl_IsValidGame_1.T σ' Try.f47.results.toList = some (.bool r) ∧ keepO σ'.ob (namesO []) = []
noncomputable def m_impl_IsValidGame_1 (a0 : Int) : Option Bool :=
(m_impl_within a0 (-500 : Int) (500 : Int)).bind fun v1 =>
some (!v1)
theorem w_impl_IsValidGame_1 (a0 : Int) (r : Bool) (h : m_impl_IsValidGame_1 a0 = some r) : AM.Spec Try.prog 47 [.int .i64 a0] [] (.bool r) [] := by
  refine spec_of (E := E_impl_IsValidGame_1) Try.func47 rfl rfl rfl rfl ?_
  refine Tri.run 1 [] [.keep [0] []] (K' := [.code [(1, 0)] 0, .code [] 2]) (σ' := ⟨[(0, .int .i64 a0)], []⟩) rfl trivial rfl ?_
  obtain ⟨v1, hk1, h⟩ := bind_some h
  refine Tri.run 1 [.r ⟨[], .bool v1, []⟩] [.keep [2] []] (K' := [.code [] 2]) (σ' := ⟨[(2, .bool (!v1))], []⟩) rfl ⟨(w_impl_within a0 (-500 : Int) (500 : Int) v1 hk1), trivial⟩ rfl ?_
  have h := Option.some.inj h
  subst h
  exact Tri.ret rfl ⟨.inl rfl, rfl, rfl⟩
/-! slices.IndexFunc(()int,int) -/
noncomputable def E_slices_IndexFunc_int_int : Env := ⟨Try.prog, tys, (Try.f52.body).getD .skip, 19, tysOk, mixedOk⟩
abbrev q_slices_IndexFunc_int_int_impl_IsValidGame_1 (r : Int) (σ' : ASt) : Prop := resAV E_slices_IndexFunc_int_int.T σ' Try.f52.results.toList = some (.int .i64 r) ∧ keepO σ'.ob (namesO []) = []
noncomputable def l_slices_IndexFunc_int_int_impl_IsValidGame_1_0 (a0 : List Int) (v1 : Int) : Option (Int ⊕ (Unit ⊕ Int)) :=
bif decide (v1 < (a0.length : Int)) then
(grd ((0 : Int) ≤ v1 ∧ v1 < (a0.length : Int)) <|
(m_impl_IsValidGame_1 (a0.getD v1.toNat 0)).bind fun v2 =>
bif v2 then
(some (.inr (.inr v1)))
else
(some (.inl (IntKind.i64.wrap (v1 + (1 : Int))))))
else
(some (.inr (.inl ())))
noncomputable def m_slices_IndexFunc_int_int_impl_IsValidGame_1 (a0 : List Int) : Option Int :=
(iter (l_slices_IndexFunc_int_int_impl_IsValidGame_1_0 a0) (0 : Int)).bind fun
| (.inl _) => (
some (-1 : Int))
| (.inr r) => some r
theorem w_slices_IndexFunc_int_int_impl_IsValidGame_1 (a0 : List Int) (r : Int) (h : m_slices_IndexFunc_int_int_impl_IsValidGame_1 a0 = some r) : AM.Spec Try.prog 52 [.list (.ints a0), .func 47 [] []] [] (.int .i64 r) [] := by
  refine spec_of (E := E_slices_IndexFunc_int_int) Try.func52 rfl rfl rfl rfl ?_
  refine Tri.run 2 [] [.keep [0, 1, 7, 8] []] (K' := [.code [(1, 0), (1, 0)] 0, .blk 0, .code [] 2]) (σ' := ⟨[(0, .list (.ints a0)), (1, .func 47 [] []), (7, .int .i64 (a0.length : Int)), (8, .int .i64 (0 : Int))], []⟩) rfl trivial rfl ?_
  obtain ⟨x1, hk5, h⟩ := bind_some h
  refine Tri.loop (K1 := [.code [(1, 0), (1, 0), (0, 0)] 0]) (K2 := [.blk 0, .code [] 2]) (fun v1 => ⟨[(0, .list (.ints a0)), (1, .func 47 [] []), (7, .int .i64 (a0.length : Int)), (8, .int .i64 v1)], []⟩) (fun x e σ' => match x with | (.inl _) => e = .exit 0 ∧ σ' = ⟨[], []⟩ | (.inr r) => e = .ret ∧ q_slices_IndexFunc_int_int_impl_IsValidGame_1 r σ') hk5 rfl rfl ?_ ?_
  · intro v1 x hs
    clear h
    have h := hs
    clear hs
    refine Tri.run 1 [] [.keep [0, 1, 7, 8, 9] []] (K' := [.code [(1, 0), (1, 0), (0, 0), (1, 0)] 0, .code [(1, 0), (1, 0), (0, 0)] 2]) (σ' := ⟨[(0, .list (.ints a0)), (1, .func 47 [] []), (7, .int .i64 (a0.length : Int)), (8, .int .i64 v1), (9, .bool (decide (v1 < (a0.length : Int))))], []⟩) rfl trivial rfl ?_
    rcases bif_some h with ⟨hd1, h⟩ | ⟨hd1, h⟩
    · refine Tri.run 2 [.g true] [.keep [0, 1, 5, 7, 8] []] (K' := [.code [(1, 0), (1, 0), (0, 0), (2, 0), (0, 0), (1, 0)] 0, .code [(1, 0), (1, 0), (0, 0), (2, 0), (0, 0)] 2, .blk 1, .code [(1, 0), (1, 0), (0, 0)] 3]) (σ' := ⟨[(0, .list (.ints a0)), (1, .func 47 [] []), (5, .int .i64 v1), (7, .int .i64 (a0.length : Int)), (8, .int .i64 v1)], []⟩) rfl ⟨hd1, trivial⟩ rfl ?_
      obtain ⟨hg2, h⟩ := grd_some h
      obtain ⟨v2, hk3, h⟩ := bind_some h
      refine Tri.run 1 [.r ⟨[], .bool v2, []⟩] [.keep [0, 1, 5, 7, 8, 16] []] (K' := [.code [(1, 0), (1, 0), (0, 0), (2, 0), (0, 0)] 2, .blk 1, .code [(1, 0), (1, 0), (0, 0)] 3]) (σ' := ⟨[(0, .list (.ints a0)), (1, .func 47 [] []), (5, .int .i64 v1), (7, .int .i64 (a0.length : Int)), (8, .int .i64 v1), (16, .bool v2)], []⟩) rfl ⟨(w_impl_IsValidGame_1 (a0.getD v1.toNat 0) v2 hk3), hg2, trivial⟩ rfl ?_
      rcases bif_some h with ⟨hd4, h⟩ | ⟨hd4, h⟩
      · refine Tri.run 2 [.g true] [.keep [4] []] (K' := [.code [(1, 0), (1, 0), (0, 0), (2, 0), (0, 0), (2, 0)] 1, .blk 1, .code [(1, 0), (1, 0), (0, 0)] 3]) (σ' := ⟨[(4, .int .i64 v1)], []⟩) rfl ⟨hd4, trivial⟩ rfl ?_
        have h := Option.some.inj h
        subst h
        exact Tri.ret rfl ⟨nofun, rfl, rfl, rfl⟩
      · refine Tri.run 2 [.g false] [.keep [0, 1, 7, 8] []] (K' := []) (σ' := ⟨[(0, .list (.ints a0)), (1, .func 47 [] []), (7, .int .i64 (a0.length : Int)), (8, .int .i64 (IntKind.i64.wrap (v1 + (1 : Int))))], []⟩) rfl ⟨hd4, trivial⟩ rfl ?_
        have h := Option.some.inj h
        subst h
        exact Tri.nil ⟨rfl, rfl⟩
    · refine Tri.run 1 [.g false] [.keep [] []] (K' := [.code [(1, 0), (1, 0), (0, 0), (1, 0), (0, 1)] 0, .code [(1, 0), (1, 0), (0, 0)] 2]) (σ' := ⟨[], []⟩) rfl ⟨hd1, trivial⟩ rfl ?_
      have h := Option.some.inj h
      subst h
      exact Tri.out 0 rfl ⟨nofun, rfl, rfl⟩
  · intro e σ' hne hq
    rcases x1 with _ | r
    · obtain ⟨rfl, rfl⟩ := hq
      refine TriX.exit (K' := [.code [] 2]) rfl ?_
      refine Tri.run 1 [] [.keep [4] []] (K' := [.code [] 3]) (σ' := ⟨[(4, .int .i64 (-1 : Int))], []⟩) rfl trivial rfl ?_
      have h := Option.some.inj h
      subst h
      exact Tri.ret rfl ⟨.inl rfl, rfl, rfl⟩
    · obtain ⟨rfl, hq⟩ := hq
      have h := Option.some.inj h
      subst h
      exact TriX.ret ⟨.inl rfl, hq⟩
/-! slices.ContainsFunc(()int,int) -/
noncomputable def E_slices_ContainsFunc_int_int : Env := ⟨Try.prog, tys, (Try.f46.body).getD .skip, 9, tysOk, mixedOk⟩
abbrev q_slices_ContainsFunc_int_int_impl_IsValidGame_1 (r : Bool) (σ' : ASt) : Prop := resAV E_slices_ContainsFunc_int_int.T σ' Try.f46.results.toList = some (.bool r) ∧ keepO σ'.ob (namesO []) = []
noncomputable def m_slices_ContainsFunc_int_int_impl_IsValidGame_1 (a0 : List Int) : Option Bool :=
(m_slices_IndexFunc_int_int_impl_IsValidGame_1 a0).bind fun v1 =>
some (decide (v1 ≥ (0 : Int)))
theorem w_slices_ContainsFunc_int_int_impl_IsValidGame_1 (a0 : List Int) (r : Bool) (h : m_slices_ContainsFunc_int_int_impl_IsValidGame_1 a0 = some r) : AM.Spec Try.prog 46 [.list (.ints a0), .func 47 [] []] [] (.bool r) [] := by
  refine spec_of (E := E_slices_ContainsFunc_int_int) Try.func46 rfl rfl rfl rfl ?_
  refine Tri.run 1 [] [.keep [0, 1] []] (K' := [.code [(1, 0)] 0, .code [] 2]) (σ' := ⟨[(0, .list (.ints a0)), (1, .func 47 [] [])], []⟩) rfl trivial rfl ?_
  obtain ⟨v1, hk1, h⟩ := bind_some h
  refine Tri.run 1 [.r ⟨[], .int .i64 v1, []⟩] [.keep [4] []] (K' := [.code [] 2]) (σ' := ⟨[(4, .bool (decide (v1 ≥ (0 : Int))))], []⟩) rfl ⟨(w_slices_IndexFunc_int_int_impl_IsValidGame_1 a0 v1 hk1), trivial⟩ rfl ?_
  have h := Option.some.inj h
  subst h
  exact Tri.ret rfl ⟨.inl rfl, rfl, rfl⟩
/-! impl.IsValidGame -/
noncomputable def E_impl_IsValidGame : Env := ⟨Try.prog, tys, (Try.f35.body).getD .skip, 27, tysOk, mixedOk⟩
abbrev q_impl_IsValidGame (r : Bool) (σ' : ASt) : Prop := resAV E_impl_IsValidGame.T σ' Try.f35.results.toList = some (.bool r) ∧ keepO σ'.ob (namesO []) = []
noncomputable def m_impl_IsValidGame (a0 : Int) (a1 : List Int) : Option Bool :=
(m_impl_within a0 (1 : Int) (5 : Int)).bind fun v1 =>
bif !v1 then
(some false)
else
(grd ((0 : Int) ≤ a0) <|
bif (a1.length : Int) != (IntKind.i64.wrap ((1 : Int) * 2 ^ (min a0.toNat 64))) then
(some false)
else
(grd ((0 : Int) ≤ (0 : Int) ∧ (0 : Int) < (a1.length : Int)) <|
bif (a1.getD ((0 : Int).toNat) 0) != (0 : Int) then
(some false)
else
((m_slices_ContainsFunc_int_int_impl_IsValidGame_1 a1).bind fun v2 =>
some (!v2))))
theorem w_impl_IsValidGame (a0 : Int) (a1 : List Int) (r : Bool) (h : m_impl_IsValidGame a0 a1 = some r) : AM.Spec Try.prog 35 [.agg [.int .i64 a0, .list (.ints a1)]] [] (.bool r) [] := by
  refine spec_of (E := E_impl_IsValidGame) Try.func35 rfl rfl rfl rfl ?_
  refine Tri.run 1 [] [.keep [1] [1]] (K' := [.code [(1, 0), (0, 0)] 0, .code [(1, 0)] 1, .code [] 2]) (σ' := ⟨[(1, .ptr 1 0)], [(1, .box [.int .i64 a0, .list (.ints a1)])]⟩) rfl trivial rfl ?_
  obtain ⟨v1, hk1, h⟩ := bind_some h
  rcases bif_some h with ⟨hd2, h⟩ | ⟨hd2, h⟩
  · refine Tri.run 1 [.r ⟨[], .bool v1, []⟩, .g true, .g true] [.keep [1, 22] [1]] (K' := [.code [(1, 0)] 1, .code [] 2]) (σ' := ⟨[(1, .ptr 1 0), (22, .bool true)], [(1, .box [.int .i64 a0, .list (.ints a1)])]⟩) rfl ⟨rfl, hd2, (w_impl_within a0 (1 : Int) (5 : Int) v1 hk1), trivial⟩ rfl ?_
    refine Tri.run 2 [.g true] [.keep [2] []] (K' := [.code [(1, 0), (1, 0)] 1, .code [] 2]) (σ' := ⟨[(2, .bool false)], []⟩) rfl ⟨rfl, trivial⟩ rfl ?_
    have h := Option.some.inj h
    subst h
    exact Tri.ret rfl ⟨.inl rfl, rfl, rfl⟩
  · obtain ⟨hg3, h⟩ := grd_some h
    rcases bif_some h with ⟨hd4, h⟩ | ⟨hd4, h⟩
    · refine Tri.run 1 [.r ⟨[], .bool v1, []⟩, .g false, .g true] [.keep [1, 22] [1]] (K' := [.code [(1, 0)] 1, .code [] 2]) (σ' := ⟨[(1, .ptr 1 0), (22, .bool true)], [(1, .box [.int .i64 a0, .list (.ints a1)])]⟩) rfl ⟨hd4, hg3, hd2, (w_impl_within a0 (1 : Int) (5 : Int) v1 hk1), trivial⟩ rfl ?_
      refine Tri.run 2 [.g true] [.keep [2] []] (K' := [.code [(1, 0), (1, 0)] 1, .code [] 2]) (σ' := ⟨[(2, .bool false)], []⟩) rfl ⟨rfl, trivial⟩ rfl ?_
      have h := Option.some.inj h
      subst h
      exact Tri.ret rfl ⟨.inl rfl, rfl, rfl⟩
    · obtain ⟨hg5, h⟩ := grd_some h
      refine Tri.run 1 [.r ⟨[], .bool v1, []⟩, .g false, .g false] [.keep [1, 22] [1]] (K' := [.code [(1, 0)] 1, .code [] 2]) (σ' := ⟨[(1, .ptr 1 0), (22, .bool ((a1.getD ((0 : Int).toNat) 0) != (0 : Int)))], [(1, .box [.int .i64 a0, .list (.ints a1)])]⟩) rfl ⟨hg5, hd4, hg3, hd2, (w_impl_within a0 (1 : Int) (5 : Int) v1 hk1), trivial⟩ rfl ?_
      rcases bif_some h with ⟨hd6, h⟩ | ⟨hd6, h⟩
      · refine Tri.run 2 [.g true] [.keep [2] []] (K' := [.code [(1, 0), (1, 0)] 1, .code [] 2]) (σ' := ⟨[(2, .bool false)], []⟩) rfl ⟨hd6, trivial⟩ rfl ?_
        have h := Option.some.inj h
        subst h
        exact Tri.ret rfl ⟨.inl rfl, rfl, rfl⟩
      · obtain ⟨v2, hk7, h⟩ := bind_some h
        refine Tri.run 2 [.g false, .r ⟨[], .bool v2, []⟩] [.keep [2] []] (K' := [.code [] 3]) (σ' := ⟨[(2, .bool (!v2))], []⟩) rfl ⟨(w_slices_ContainsFunc_int_int_impl_IsValidGame_1 a1 v2 hk7), hd6, trivial⟩ rfl ?_
        have h := Option.some.inj h
        subst h
        exact Tri.ret rfl ⟨.inl rfl, rfl, rfl⟩
/-! impl.AreSymmetric -/
noncomputable def E_impl_AreSymmetric : Env := ⟨Try.prog, tys, (Try.f11.body).getD .skip, 65, tysOk, mixedOk⟩
abbrev q_impl_AreSymmetric (r : Bool) (σ' : ASt) : Prop := resAV E_impl_AreSymmetric.T σ' Try.f11.results.toList = some (.bool r) ∧ keepO σ'.ob (namesO []) = []
noncomputable def l_impl_AreSymmetric_0 (a1 : List Int) (a2 : Int) (a3 : Int) (v4 : Int) : Option (Int ⊕ (Unit ⊕ Bool)) :=
bif decide (v4 < (a1.length : Int)) then
(grd ((0 : Int) ≤ a2) <|
bif (bitsOf .and .i64 (v4.fdiv (2 ^ (min a2.toNat 64))) (1 : Int)) == (0 : Int) then
(grd ((0 : Int) ≤ a3) <|
bif (bitsOf .and .i64 (v4.fdiv (2 ^ (min a3.toNat 64))) (1 : Int)) == (0 : Int) then
(grd ((0 : Int) ≤ a2) <|
grd ((0 : Int) ≤ bitsOf .or .i64 v4 (IntKind.i64.wrap ((1 : Int) * 2 ^ (min a2.toNat 64))) ∧ bitsOf .or .i64 v4 (IntKind.i64.wrap ((1 : Int) * 2 ^ (min a2.toNat 64))) < (a1.length : Int)) <|
grd ((0 : Int) ≤ a3) <|
grd ((0 : Int) ≤ bitsOf .or .i64 v4 (IntKind.i64.wrap ((1 : Int) * 2 ^ (min a3.toNat 64))) ∧ bitsOf .or .i64 v4 (IntKind.i64.wrap ((1 : Int) * 2 ^ (min a3.toNat 64))) < (a1.length : Int)) <|
bif (a1.getD ((bitsOf .or .i64 v4 (IntKind.i64.wrap ((1 : Int) * 2 ^ (min a2.toNat 64)))).toNat) 0) != (a1.getD ((bitsOf .or .i64 v4 (IntKind.i64.wrap ((1 : Int) * 2 ^ (min a3.toNat 64)))).toNat) 0) then
(some (.inr (.inr false)))
else
(some (.inl (IntKind.i64.wrap (v4 + (1 : Int))))))
else
(some (.inl (IntKind.i64.wrap (v4 + (1 : Int))))))
else
(some (.inl (IntKind.i64.wrap (v4 + (1 : Int))))))
else
(some (.inr (.inl ())))
noncomputable def m_impl_AreSymmetric (a0 : Int) (a1 : List Int) (a2 : Int) (a3 : Int) : Option Bool :=
(m_impl_IsValidGame a0 a1).bind fun v1 =>
bif !v1 then
(some false)
else
((m_impl_within a2 (0 : Int) (IntKind.i64.wrap (a0 - (1 : Int)))).bind fun v2 =>
bif !v2 then
(some false)
else
((m_impl_within a3 (0 : Int) (IntKind.i64.wrap (a0 - (1 : Int)))).bind fun v3 =>
bif !v3 then
(some false)
else
((iter (l_impl_AreSymmetric_0 a1 a2 a3) (0 : Int)).bind fun
| (.inl _) => (
some true)
| (.inr r) => some r)))
theorem w_impl_AreSymmetric (a0 : Int) (a1 : List Int) (a2 : Int) (a3 : Int) (r : Bool) (h : m_impl_AreSymmetric a0 a1 a2 a3 = some r) : AM.Spec Try.prog 11 [.agg [.int .i64 a0, .list (.ints a1)], .int .i64 a2, .int .i64 a3] [] (.bool r) [] := by
  refine spec_of (E := E_impl_AreSymmetric) Try.func11 rfl rfl rfl rfl ?_
  refine Tri.run 1 [] [.keep [1, 2, 3] [3]] (K' := [.code [(1, 0), (0, 0)] 0, .code [(1, 0)] 1, .code [] 2]) (σ' := ⟨[(1, .int .i64 a2), (2, .int .i64 a3), (3, .ptr 3 0)], [(3, .box [.int .i64 a0, .list (.ints a1)])]⟩) rfl trivial rfl ?_
  obtain ⟨v1, hk1, h⟩ := bind_some h
  rcases bif_some h with ⟨hd2, h⟩ | ⟨hd2, h⟩
  · refine Tri.run 1 [.r ⟨[], .bool v1, []⟩, .g true, .g true] [.keep [1, 2, 3, 26] [3]] (K' := [.code [(1, 0)] 1, .code [] 2]) (σ' := ⟨[(1, .int .i64 a2), (2, .int .i64 a3), (3, .ptr 3 0), (26, .bool true)], [(3, .box [.int .i64 a0, .list (.ints a1)])]⟩) rfl ⟨rfl, hd2, (w_impl_IsValidGame a0 a1 v1 hk1), trivial⟩ rfl ?_
    refine Tri.run 2 [.g true] [.keep [6] []] (K' := [.code [(1, 0), (1, 0)] 1, .code [] 2]) (σ' := ⟨[(6, .bool false)], []⟩) rfl ⟨rfl, trivial⟩ rfl ?_
    have h := Option.some.inj h
    subst h
    exact Tri.ret rfl ⟨.inl rfl, rfl, rfl⟩
  · obtain ⟨v2, hk3, h⟩ := bind_some h
    rcases bif_some h with ⟨hd4, h⟩ | ⟨hd4, h⟩
    · refine Tri.run 1 [.r ⟨[], .bool v1, []⟩, .g false, .r ⟨[], .bool v2, []⟩, .g true] [.keep [1, 2, 3, 26] [3]] (K' := [.code [(1, 0)] 1, .code [] 2]) (σ' := ⟨[(1, .int .i64 a2), (2, .int .i64 a3), (3, .ptr 3 0), (26, .bool true)], [(3, .box [.int .i64 a0, .list (.ints a1)])]⟩) rfl ⟨hd4, (w_impl_within a2 (0 : Int) (IntKind.i64.wrap (a0 - (1 : Int))) v2 hk3), hd2, (w_impl_IsValidGame a0 a1 v1 hk1), trivial⟩ rfl ?_
      refine Tri.run 2 [.g true] [.keep [6] []] (K' := [.code [(1, 0), (1, 0)] 1, .code [] 2]) (σ' := ⟨[(6, .bool false)], []⟩) rfl ⟨rfl, trivial⟩ rfl ?_
      have h := Option.some.inj h
      subst h
      exact Tri.ret rfl ⟨.inl rfl, rfl, rfl⟩
    · obtain ⟨v3, hk5, h⟩ := bind_some h
      refine Tri.run 1 [.r ⟨[], .bool v1, []⟩, .g false, .r ⟨[], .bool v2, []⟩, .g false, .r ⟨[], .bool v3, []⟩] [.keep [1, 2, 3, 26] [3]] (K' := [.code [(1, 0)] 1, .code [] 2]) (σ' := ⟨[(1, .int .i64 a2), (2, .int .i64 a3), (3, .ptr 3 0), (26, .bool (!v3))], [(3, .box [.int .i64 a0, .list (.ints a1)])]⟩) rfl ⟨(w_impl_within a3 (0 : Int) (IntKind.i64.wrap (a0 - (1 : Int))) v3 hk5), hd4, (w_impl_within a2 (0 : Int) (IntKind.i64.wrap (a0 - (1 : Int))) v2 hk3), hd2, (w_impl_IsValidGame a0 a1 v1 hk1), trivial⟩ rfl ?_
      rcases bif_some h with ⟨hd6, h⟩ | ⟨hd6, h⟩
      · refine Tri.run 2 [.g true] [.keep [6] []] (K' := [.code [(1, 0), (1, 0)] 1, .code [] 2]) (σ' := ⟨[(6, .bool false)], []⟩) rfl ⟨hd6, trivial⟩ rfl ?_
        have h := Option.some.inj h
        subst h
        exact Tri.ret rfl ⟨.inl rfl, rfl, rfl⟩
      · refine Tri.run 2 [.g false] [.keep [1, 2, 3, 29, 30] [3]] (K' := [.code [(2, 0), (1, 0)] 0, .blk 0, .code [] 3]) (σ' := ⟨[(1, .int .i64 a2), (2, .int .i64 a3), (3, .ptr 3 0), (29, .int .i64 (a1.length : Int)), (30, .int .i64 (0 : Int))], [(3, .box [.int .i64 a0, .list (.ints a1)])]⟩) rfl ⟨hd6, trivial⟩ rfl ?_
        obtain ⟨x1, hk17, h⟩ := bind_some h
        refine Tri.loop (K1 := [.code [(2, 0), (1, 0), (0, 0)] 0]) (K2 := [.blk 0, .code [] 3]) (fun v4 => ⟨[(1, .int .i64 a2), (2, .int .i64 a3), (3, .ptr 3 0), (29, .int .i64 (a1.length : Int)), (30, .int .i64 v4)], [(3, .box [.int .i64 a0, .list (.ints a1)])]⟩) (fun x e σ' => match x with | (.inl _) => e = .exit 0 ∧ σ' = ⟨[], []⟩ | (.inr r) => e = .ret ∧ q_impl_AreSymmetric r σ') hk17 rfl rfl ?_ ?_
        · intro v4 x hs
          clear h
          have h := hs
          clear hs
          refine Tri.run 1 [] [.keep [1, 2, 3, 29, 30, 31] [3]] (K' := [.code [(2, 0), (1, 0), (0, 0), (1, 0)] 0, .code [(2, 0), (1, 0), (0, 0)] 2]) (σ' := ⟨[(1, .int .i64 a2), (2, .int .i64 a3), (3, .ptr 3 0), (29, .int .i64 (a1.length : Int)), (30, .int .i64 v4), (31, .bool (decide (v4 < (a1.length : Int))))], [(3, .box [.int .i64 a0, .list (.ints a1)])]⟩) rfl trivial rfl ?_
          rcases bif_some h with ⟨hd7, h⟩ | ⟨hd7, h⟩
          · refine Tri.run 2 [.g true] [.keep [1, 2, 3, 7, 29, 30] [3]] (K' := [.code [(2, 0), (1, 0), (0, 0), (2, 0), (0, 0), (1, 0)] 0, .code [(2, 0), (1, 0), (0, 0), (2, 0), (0, 0)] 2, .blk 1, .code [(2, 0), (1, 0), (0, 0)] 3]) (σ' := ⟨[(1, .int .i64 a2), (2, .int .i64 a3), (3, .ptr 3 0), (7, .int .i64 v4), (29, .int .i64 (a1.length : Int)), (30, .int .i64 v4)], [(3, .box [.int .i64 a0, .list (.ints a1)])]⟩) rfl ⟨hd7, trivial⟩ rfl ?_
            obtain ⟨hg8, h⟩ := grd_some h
            rcases bif_some h with ⟨hd9, h⟩ | ⟨hd9, h⟩
            · obtain ⟨hg10, h⟩ := grd_some h
              rcases bif_some h with ⟨hd11, h⟩ | ⟨hd11, h⟩
              · obtain ⟨hg12, h⟩ := grd_some h
                obtain ⟨hg13, h⟩ := grd_some h
                obtain ⟨hg14, h⟩ := grd_some h
                obtain ⟨hg15, h⟩ := grd_some h
                refine Tri.run 1 [.g true, .g true] [.keep [1, 2, 3, 29, 30, 63] [3]] (K' := [.code [(2, 0), (1, 0), (0, 0), (2, 0), (0, 0)] 2, .blk 1, .code [(2, 0), (1, 0), (0, 0)] 3]) (σ' := ⟨[(1, .int .i64 a2), (2, .int .i64 a3), (3, .ptr 3 0), (29, .int .i64 (a1.length : Int)), (30, .int .i64 v4), (63, .bool ((a1.getD ((bitsOf .or .i64 v4 (IntKind.i64.wrap ((1 : Int) * 2 ^ (min a2.toNat 64)))).toNat) 0) != (a1.getD ((bitsOf .or .i64 v4 (IntKind.i64.wrap ((1 : Int) * 2 ^ (min a3.toNat 64)))).toNat) 0)))], [(3, .box [.int .i64 a0, .list (.ints a1)])]⟩) rfl ⟨hg15, hg14, hg13, hg12, hd11, hg10, hd9, hg8, trivial⟩ rfl ?_
                rcases bif_some h with ⟨hd16, h⟩ | ⟨hd16, h⟩
                · refine Tri.run 2 [.g true] [.keep [6] []] (K' := [.code [(2, 0), (1, 0), (0, 0), (2, 0), (0, 0), (2, 0)] 1, .blk 1, .code [(2, 0), (1, 0), (0, 0)] 3]) (σ' := ⟨[(6, .bool false)], []⟩) rfl ⟨hd16, trivial⟩ rfl ?_
                  have h := Option.some.inj h
                  subst h
                  exact Tri.ret rfl ⟨nofun, rfl, rfl, rfl⟩
                · refine Tri.run 2 [.g false] [.keep [1, 2, 3, 29, 30] [3]] (K' := []) (σ' := ⟨[(1, .int .i64 a2), (2, .int .i64 a3), (3, .ptr 3 0), (29, .int .i64 (a1.length : Int)), (30, .int .i64 (IntKind.i64.wrap (v4 + (1 : Int))))], [(3, .box [.int .i64 a0, .list (.ints a1)])]⟩) rfl ⟨hd16, trivial⟩ rfl ?_
                  have h := Option.some.inj h
                  subst h
                  exact Tri.nil ⟨rfl, rfl⟩
              · refine Tri.run 1 [.g true, .g false] [.keep [1, 2, 3, 29, 30, 63] [3]] (K' := [.code [(2, 0), (1, 0), (0, 0), (2, 0), (0, 0)] 2, .blk 1, .code [(2, 0), (1, 0), (0, 0)] 3]) (σ' := ⟨[(1, .int .i64 a2), (2, .int .i64 a3), (3, .ptr 3 0), (29, .int .i64 (a1.length : Int)), (30, .int .i64 v4), (63, .bool false)], [(3, .box [.int .i64 a0, .list (.ints a1)])]⟩) rfl ⟨hd11, hg10, hd9, hg8, trivial⟩ rfl ?_
                refine Tri.run 2 [.g false] [.keep [1, 2, 3, 29, 30] [3]] (K' := []) (σ' := ⟨[(1, .int .i64 a2), (2, .int .i64 a3), (3, .ptr 3 0), (29, .int .i64 (a1.length : Int)), (30, .int .i64 (IntKind.i64.wrap (v4 + (1 : Int))))], [(3, .box [.int .i64 a0, .list (.ints a1)])]⟩) rfl ⟨rfl, trivial⟩ rfl ?_
                have h := Option.some.inj h
                subst h
                exact Tri.nil ⟨rfl, rfl⟩
            · refine Tri.run 1 [.g false, .g false] [.keep [1, 2, 3, 29, 30, 63] [3]] (K' := [.code [(2, 0), (1, 0), (0, 0), (2, 0), (0, 0)] 2, .blk 1, .code [(2, 0), (1, 0), (0, 0)] 3]) (σ' := ⟨[(1, .int .i64 a2), (2, .int .i64 a3), (3, .ptr 3 0), (29, .int .i64 (a1.length : Int)), (30, .int .i64 v4), (63, .bool false)], [(3, .box [.int .i64 a0, .list (.ints a1)])]⟩) rfl ⟨rfl, hd9, hg8, trivial⟩ rfl ?_
              refine Tri.run 2 [.g false] [.keep [1, 2, 3, 29, 30] [3]] (K' := []) (σ' := ⟨[(1, .int .i64 a2), (2, .int .i64 a3), (3, .ptr 3 0), (29, .int .i64 (a1.length : Int)), (30, .int .i64 (IntKind.i64.wrap (v4 + (1 : Int))))], [(3, .box [.int .i64 a0, .list (.ints a1)])]⟩) rfl ⟨rfl, trivial⟩ rfl ?_
              have h := Option.some.inj h
              subst h
              exact Tri.nil ⟨rfl, rfl⟩
          · refine Tri.run 1 [.g false] [.keep [] []] (K' := [.code [(2, 0), (1, 0), (0, 0), (1, 0), (0, 1)] 0, .code [(2, 0), (1, 0), (0, 0)] 2]) (σ' := ⟨[], []⟩) rfl ⟨hd7, trivial⟩ rfl ?_
            have h := Option.some.inj h
            subst h
            exact Tri.out 0 rfl ⟨nofun, rfl, rfl⟩
        · intro e σ' hne hq
          rcases x1 with _ | r
          · obtain ⟨rfl, rfl⟩ := hq
            refine TriX.exit (K' := [.code [] 3]) rfl ?_
            refine Tri.run 1 [] [.keep [6] []] (K' := [.code [] 4]) (σ' := ⟨[(6, .bool true)], []⟩) rfl trivial rfl ?_
            have h := Option.some.inj h
            subst h
            exact Tri.ret rfl ⟨.inl rfl, rfl, rfl⟩
          · obtain ⟨rfl, hq⟩ := hq
            have h := Option.some.inj h
            subst h
            exact TriX.ret ⟨.inl rfl, hq⟩
/-! laws.eqIntS -/
noncomputable def E_laws_eqIntS : Env := ⟨Try.prog, tys, (Try.f20.body).getD .skip, 26, tysOk, mixedOk⟩
abbrev q_laws_eqIntS (r : Bool) (σ' : ASt) : Prop := resAV E_laws_eqIntS.T σ' Try.f20.results.toList = some (.bool r) ∧ keepO σ'.ob (namesO []) = []
noncomputable def l_laws_eqIntS_0 (a0 : List Int) (a1 : List Int) (v1 : Int) : Option (Int ⊕ (Unit ⊕ Bool)) :=
bif decide (v1 < (a0.length : Int)) then
(grd ((0 : Int) ≤ v1 ∧ v1 < (a0.length : Int)) <|
grd ((0 : Int) ≤ v1 ∧ v1 < (a1.length : Int)) <|
bif (a0.getD v1.toNat 0) != (a1.getD v1.toNat 0) then
(some (.inr (.inr false)))
else
(some (.inl (IntKind.i64.wrap (v1 + (1 : Int))))))
else
(some (.inr (.inl ())))
noncomputable def m_laws_eqIntS (a0 : List Int) (a1 : List Int) : Option Bool :=
bif (a0.length : Int) != (a1.length : Int) then
(some false)
else
((iter (l_laws_eqIntS_0 a0 a1) (0 : Int)).bind fun
| (.inl _) => (
some true)
| (.inr r) => some r)
theorem w_laws_eqIntS (a0 : List Int) (a1 : List Int) (r : Bool) (h : m_laws_eqIntS a0 a1 = some r) : AM.Spec Try.prog 20 [.list (.ints a0), .list (.ints a1)] [] (.bool r) [] := by
  refine spec_of (E := E_laws_eqIntS) Try.func20 rfl rfl rfl rfl ?_
  refine Tri.run 2 [] [.keep [0, 1, 10] []] (K' := [.code [(1, 0)] 1, .code [] 2]) (σ' := ⟨[(0, .list (.ints a0)), (1, .list (.ints a1)), (10, .bool ((a0.length : Int) != (a1.length : Int)))], []⟩) rfl trivial rfl ?_
  rcases bif_some h with ⟨hd1, h⟩ | ⟨hd1, h⟩
  · refine Tri.run 2 [.g true] [.keep [4] []] (K' := [.code [(1, 0), (1, 0)] 1, .code [] 2]) (σ' := ⟨[(4, .bool false)], []⟩) rfl ⟨hd1, trivial⟩ rfl ?_
    have h := Option.some.inj h
    subst h
    exact Tri.ret rfl ⟨.inl rfl, rfl, rfl⟩
  · refine Tri.run 2 [.g false] [.keep [0, 1, 5] []] (K' := [.code [(2, 0), (1, 0)] 0, .blk 0, .code [] 3]) (σ' := ⟨[(0, .list (.ints a0)), (1, .list (.ints a1)), (5, .int .i64 (0 : Int))], []⟩) rfl ⟨hd1, trivial⟩ rfl ?_
    obtain ⟨x1, hk6, h⟩ := bind_some h
    refine Tri.loop (K1 := [.code [(2, 0), (1, 0), (0, 0)] 0]) (K2 := [.blk 0, .code [] 3]) (fun v1 => ⟨[(0, .list (.ints a0)), (1, .list (.ints a1)), (5, .int .i64 v1)], []⟩) (fun x e σ' => match x with | (.inl _) => e = .exit 0 ∧ σ' = ⟨[], []⟩ | (.inr r) => e = .ret ∧ q_laws_eqIntS r σ') hk6 rfl rfl ?_ ?_
    · intro v1 x hs
      clear h
      have h := hs
      clear hs
      refine Tri.run 1 [] [.keep [0, 1, 5, 14] []] (K' := [.code [(2, 0), (1, 0), (0, 0), (0, 0)] 1, .code [(2, 0), (1, 0), (0, 0)] 1]) (σ' := ⟨[(0, .list (.ints a0)), (1, .list (.ints a1)), (5, .int .i64 v1), (14, .bool (decide (v1 < (a0.length : Int))))], []⟩) rfl trivial rfl ?_
      rcases bif_some h with ⟨hd2, h⟩ | ⟨hd2, h⟩
      · obtain ⟨hg3, h⟩ := grd_some h
        obtain ⟨hg4, h⟩ := grd_some h
        refine Tri.run 2 [.g true] [.keep [0, 1, 5, 25] []] (K' := [.code [(2, 0), (1, 0), (0, 0), (1, 0), (0, 0)] 1, .blk 1, .code [(2, 0), (1, 0), (0, 0)] 2]) (σ' := ⟨[(0, .list (.ints a0)), (1, .list (.ints a1)), (5, .int .i64 v1), (25, .bool ((a0.getD v1.toNat 0) != (a1.getD v1.toNat 0)))], []⟩) rfl ⟨hg4, hg3, hd2, trivial⟩ rfl ?_
        rcases bif_some h with ⟨hd5, h⟩ | ⟨hd5, h⟩
        · refine Tri.run 2 [.g true] [.keep [4] []] (K' := [.code [(2, 0), (1, 0), (0, 0), (1, 0), (0, 0), (1, 0)] 1, .blk 1, .code [(2, 0), (1, 0), (0, 0)] 2]) (σ' := ⟨[(4, .bool false)], []⟩) rfl ⟨hd5, trivial⟩ rfl ?_
          have h := Option.some.inj h
          subst h
          exact Tri.ret rfl ⟨nofun, rfl, rfl, rfl⟩
        · refine Tri.run 2 [.g false] [.keep [0, 1, 5] []] (K' := []) (σ' := ⟨[(0, .list (.ints a0)), (1, .list (.ints a1)), (5, .int .i64 (IntKind.i64.wrap (v1 + (1 : Int))))], []⟩) rfl ⟨hd5, trivial⟩ rfl ?_
          have h := Option.some.inj h
          subst h
          exact Tri.nil ⟨rfl, rfl⟩
      · refine Tri.run 1 [.g false] [.keep [] []] (K' := [.code [(2, 0), (1, 0), (0, 0), (0, 0), (1, 1)] 0, .code [(2, 0), (1, 0), (0, 0)] 1]) (σ' := ⟨[], []⟩) rfl ⟨hd2, trivial⟩ rfl ?_
        have h := Option.some.inj h
        subst h
        exact Tri.out 0 rfl ⟨nofun, rfl, rfl⟩
    · intro e σ' hne hq
      rcases x1 with _ | r
      · obtain ⟨rfl, rfl⟩ := hq
        refine TriX.exit (K' := [.code [] 3]) rfl ?_
        refine Tri.run 1 [] [.keep [4] []] (K' := [.code [] 4]) (σ' := ⟨[(4, .bool true)], []⟩) rfl trivial rfl ?_
        have h := Option.some.inj h
        subst h
        exact Tri.ret rfl ⟨.inl rfl, rfl, rfl⟩
      · obtain ⟨rfl, hq⟩ := hq
        have h := Option.some.inj h
        subst h
        exact TriX.ret ⟨.inl rfl, hq⟩
/-! laws.eqGame -/
noncomputable def E_laws_eqGame : Env := ⟨Try.prog, tys, (Try.f12.body).getD .skip, 16, tysOk, mixedOk⟩
abbrev q_laws_eqGame (r : Bool) (σ' : ASt) : Prop := resAV E_laws_eqGame.T σ' Try.f12.results.toList = some (.bool r) ∧ keepO σ'.ob (namesO []) = []
noncomputable def m_laws_eqGame (a0 : Int) (a1 : List Int) (a2 : Int) (a3 : List Int) : Option Bool :=
bif a0 != a2 then
(some false)
else
((m_laws_eqIntS a1 a3).bind fun v1 =>
bif !v1 then
(some false)
else
(some true))
theorem w_laws_eqGame (a0 : Int) (a1 : List Int) (a2 : Int) (a3 : List Int) (r : Bool) (h : m_laws_eqGame a0 a1 a2 a3 = some r) : AM.Spec Try.prog 12 [.agg [.int .i64 a0, .list (.ints a1)], .agg [.int .i64 a2, .list (.ints a3)]] [] (.bool r) [] := by
  refine spec_of (E := E_laws_eqGame) Try.func12 rfl rfl rfl rfl ?_
  refine Tri.run 2 [] [.keep [2, 3, 9] [2, 3]] (K' := [.code [(1, 0)] 1, .code [] 2]) (σ' := ⟨[(2, .ptr 2 0), (3, .ptr 3 0), (9, .bool (a0 != a2))], [(2, .box [.int .i64 a0, .list (.ints a1)]), (3, .box [.int .i64 a2, .list (.ints a3)])]⟩) rfl trivial rfl ?_
  rcases bif_some h with ⟨hd1, h⟩ | ⟨hd1, h⟩
  · refine Tri.run 2 [.g true] [.keep [4] []] (K' := [.code [(1, 0), (1, 0)] 1, .code [] 2]) (σ' := ⟨[(4, .bool false)], []⟩) rfl ⟨hd1, trivial⟩ rfl ?_
    have h := Option.some.inj h
    subst h
    exact Tri.ret rfl ⟨.inl rfl, rfl, rfl⟩
  · obtain ⟨v1, hk2, h⟩ := bind_some h
    refine Tri.run 2 [.g false, .r ⟨[], .bool v1, []⟩] [.keep [15] []] (K' := [.code [(2, 0)] 1, .code [] 3]) (σ' := ⟨[(15, .bool (!v1))], []⟩) rfl ⟨(w_laws_eqIntS a1 a3 v1 hk2), hd1, trivial⟩ rfl ?_
    rcases bif_some h with ⟨hd3, h⟩ | ⟨hd3, h⟩
    · refine Tri.run 2 [.g true] [.keep [4] []] (K' := [.code [(2, 0), (1, 0)] 1, .code [] 3]) (σ' := ⟨[(4, .bool false)], []⟩) rfl ⟨hd3, trivial⟩ rfl ?_
      have h := Option.some.inj h
      subst h
      exact Tri.ret rfl ⟨.inl rfl, rfl, rfl⟩
    · refine Tri.run 2 [.g false] [.keep [4] []] (K' := [.code [] 4]) (σ' := ⟨[(4, .bool true)], []⟩) rfl ⟨hd3, trivial⟩ rfl ?_
      have h := Option.some.inj h
      subst h
      exact Tri.ret rfl ⟨.inl rfl, rfl, rfl⟩
/-! laws.FnExactAreSymmetric -/
noncomputable def E_laws_FnExactAreSymmetric : Env := ⟨Try.prog, tys, (Try.f3.body).getD .skip, 35, tysOk, mixedOk⟩
abbrev q_laws_FnExactAreSymmetric (r : Bool) (σ' : ASt) : Prop := resAV E_laws_FnExactAreSymmetric.T σ' Try.f3.results.toList = some (.bool r) ∧ keepO σ'.ob (namesO []) = []
noncomputable def m_laws_FnExactAreSymmetric (a0 : Int) (a1 : List Int) (a2 : Int) (a3 : Int) : Option Bool :=
(m_laws_szGame a0 a1 (1048576 : Int)).bind fun v1 =>
bif decide (v1 < (0 : Int)) then
(some true)
else
((m_laws_toGame a0 a1).bind fun (v2, v3) =>
(m_spec_AreSymmetric v2 v3 a2 a3).bind fun v4 =>
(m_laws_toGame a0 a1).bind fun (v5, v6) =>
(m_impl_AreSymmetric v5 v6 a2 a3).bind fun v7 =>
bif v7 != v4 then
(some false)
else
((m_laws_toGame a0 a1).bind fun (v8, v9) =>
(m_laws_eqGame v5 v6 v8 v9).bind fun v10 =>
bif !v10 then
(some false)
else
(some true)))
theorem w_laws_FnExactAreSymmetric (a0 : Int) (a1 : List Int) (a2 : Int) (a3 : Int) (r : Bool) (h : m_laws_FnExactAreSymmetric a0 a1 a2 a3 = some r) : AM.Spec Try.prog 3 [.agg [.int .i64 a0, .list (.ints a1)], .int .i64 a2, .int .i64 a3] [] (.bool r) [] := by
  refine spec_of (E := E_laws_FnExactAreSymmetric) Try.func3 rfl rfl rfl rfl ?_
  refine Tri.run 2 [] [.keep [1, 2, 3, 7] [3]] (K' := [.code [(2, 0)] 0, .code [] 3]) (σ' := ⟨[(1, .int .i64 a2), (2, .int .i64 a3), (3, .ptr 3 0), (7, .int .i64 (1048576 : Int))], [(3, .box [.int .i64 a0, .list (.ints a1)])]⟩) rfl trivial rfl ?_
  obtain ⟨v1, hk1, h⟩ := bind_some h
  refine Tri.run 2 [.r ⟨[], .int .i64 v1, []⟩] [.keep [1, 2, 3, 15] [3]] (K' := [.code [(3, 0)] 1, .code [] 4]) (σ' := ⟨[(1, .int .i64 a2), (2, .int .i64 a3), (3, .ptr 3 0), (15, .bool (decide (v1 < (0 : Int))))], [(3, .box [.int .i64 a0, .list (.ints a1)])]⟩) rfl ⟨(w_laws_szGame a0 a1 (1048576 : Int) v1 hk1), trivial⟩ rfl ?_
  rcases bif_some h with ⟨hd2, h⟩ | ⟨hd2, h⟩
  · refine Tri.run 2 [.g true] [.keep [6] []] (K' := [.code [(3, 0), (1, 0)] 1, .code [] 4]) (σ' := ⟨[(6, .bool true)], []⟩) rfl ⟨hd2, trivial⟩ rfl ?_
    have h := Option.some.inj h
    subst h
    exact Tri.ret rfl ⟨.inl rfl, rfl, rfl⟩
  · obtain ⟨⟨v2, v3⟩, hk3, h⟩ := bind_some h
    obtain ⟨v4, hk4, h⟩ := bind_some h
    refine Tri.run 2 [.g false, .r ⟨[], .agg [.int .i64 v2, .sl 1100 0], [(1100, .arr 3 0 0 (.ints v3))]⟩, .r ⟨[], .bool v4, []⟩] [.keep [1, 2, 3, 8] [3]] (K' := [.code [(5, 0)] 0, .code [] 6]) (σ' := ⟨[(1, .int .i64 a2), (2, .int .i64 a3), (3, .ptr 3 0), (8, .bool v4)], [(3, .box [.int .i64 a0, .list (.ints a1)])]⟩) rfl ⟨(w_spec_AreSymmetric v2 v3 a2 a3 v4 hk4), ((w_laws_toGame a0 a1 (v2, v3) hk3).swap 1000 1100), hd2, trivial⟩ rfl ?_
    obtain ⟨⟨v5, v6⟩, hk5, h⟩ := bind_some h
    obtain ⟨v7, hk6, h⟩ := bind_some h
    refine Tri.run 3 [.r ⟨[], .agg [.int .i64 v5, .sl 1101 0], [(1101, .arr 3 0 0 (.ints v6))]⟩, .r ⟨[], .bool v7, []⟩] [.keep [3, 9, 29] [3, 9, 1101]] (K' := [.code [(7, 0)] 1, .code [] 8]) (σ' := ⟨[(3, .ptr 3 0), (9, .ptr 9 0), (29, .bool (v7 != v4))], [(3, .box [.int .i64 a0, .list (.ints a1)]), (9, .box [.int .i64 v5, .sl 1101 0]), (1101, .arr 3 0 0 (.ints v6))]⟩) rfl ⟨(w_impl_AreSymmetric v5 v6 a2 a3 v7 hk6), ((w_laws_toGame a0 a1 (v5, v6) hk5).swap 1000 1101), trivial⟩ rfl ?_
    rcases bif_some h with ⟨hd7, h⟩ | ⟨hd7, h⟩
    · refine Tri.run 2 [.g true] [.keep [6] []] (K' := [.code [(7, 0), (1, 0)] 1, .code [] 8]) (σ' := ⟨[(6, .bool false)], []⟩) rfl ⟨hd7, trivial⟩ rfl ?_
      have h := Option.some.inj h
      subst h
      exact Tri.ret rfl ⟨.inl rfl, rfl, rfl⟩
    · obtain ⟨⟨v8, v9⟩, hk8, h⟩ := bind_some h
      obtain ⟨v10, hk9, h⟩ := bind_some h
      refine Tri.run 2 [.g false, .r ⟨[], .agg [.int .i64 v8, .sl 1102 0], [(1102, .arr 3 0 0 (.ints v9))]⟩, .r ⟨[], .bool v10, []⟩] [.keep [34] []] (K' := [.code [(8, 0)] 1, .code [] 9]) (σ' := ⟨[(34, .bool (!v10))], []⟩) rfl ⟨(w_laws_eqGame v5 v6 v8 v9 v10 hk9), ((w_laws_toGame a0 a1 (v8, v9) hk8).swap 1000 1102), hd7, trivial⟩ rfl ?_
      rcases bif_some h with ⟨hd10, h⟩ | ⟨hd10, h⟩
      · refine Tri.run 2 [.g true] [.keep [6] []] (K' := [.code [(8, 0), (1, 0)] 1, .code [] 9]) (σ' := ⟨[(6, .bool false)], []⟩) rfl ⟨hd10, trivial⟩ rfl ?_
        have h := Option.some.inj h
        subst h
        exact Tri.ret rfl ⟨.inl rfl, rfl, rfl⟩
      · refine Tri.run 2 [.g false] [.keep [6] []] (K' := [.code [] 10]) (σ' := ⟨[(6, .bool true)], []⟩) rfl ⟨hd10, trivial⟩ rfl ?_
        have h := Option.some.inj h
        subst h
        exact Tri.ret rfl ⟨.inl rfl, rfl, rfl⟩
/-! laws.szRatS -/
noncomputable def E_laws_szRatS : Env := ⟨Try.prog, tys, (Try.f13.body).getD .skip, 12, tysOk, mixedOk⟩
abbrev q_laws_szRatS (r : Int) (σ' : ASt) : Prop := resAV E_laws_szRatS.T σ' Try.f13.results.toList = some (.int .i64 r) ∧ keepO σ'.ob (namesO []) = []
noncomputable def m_laws_szRatS (a0 : List Q) (a1 : Int) : Option Int :=
bif decide ((IntKind.i64.wrap (a1 - (a0.length : Int))) < (0 : Int)) then
(some (-1 : Int))
else
(some (IntKind.i64.wrap (a1 - (a0.length : Int))))
theorem w_laws_szRatS (a0 : List Q) (a1 : Int) (r : Int) (h : m_laws_szRatS a0 a1 = some r) : AM.Spec Try.prog 13 [.list (.rats a0), .int .i64 a1] [] (.int .i64 r) [] := by
  refine spec_of (E := E_laws_szRatS) Try.func13 rfl rfl rfl rfl ?_
  refine Tri.run 3 [] [.keep [1, 10] []] (K' := [.code [(2, 0)] 1, .code [] 3]) (σ' := ⟨[(1, .int .i64 (IntKind.i64.wrap (a1 - (a0.length : Int)))), (10, .bool (decide ((IntKind.i64.wrap (a1 - (a0.length : Int))) < (0 : Int))))], []⟩) rfl trivial rfl ?_
  rcases bif_some h with ⟨hd1, h⟩ | ⟨hd1, h⟩
  · refine Tri.run 2 [.g true] [.keep [4] []] (K' := [.code [(2, 0), (1, 0)] 1, .code [] 3]) (σ' := ⟨[(4, .int .i64 (-1 : Int))], []⟩) rfl ⟨hd1, trivial⟩ rfl ?_
    have h := Option.some.inj h
    subst h
    exact Tri.ret rfl ⟨.inl rfl, rfl, rfl⟩
  · refine Tri.run 2 [.g false] [.keep [4] []] (K' := [.code [] 4]) (σ' := ⟨[(4, .int .i64 (IntKind.i64.wrap (a1 - (a0.length : Int))))], []⟩) rfl ⟨hd1, trivial⟩ rfl ?_
    have h := Option.some.inj h
    subst h
    exact Tri.ret rfl ⟨.inl rfl, rfl, rfl⟩
/-! laws.toRat -/
noncomputable def E_laws_toRat : Env := ⟨Try.prog, tys, (Try.f38.body).getD .skip, 11, tysOk, mixedOk⟩
abbrev q_laws_toRat (r : Int × Int) (σ' : ASt) : Prop := resAV E_laws_toRat.T σ' Try.f38.results.toList = some (.agg [.int .i64 r.1, .int .i64 r.2]) ∧ keepO σ'.ob (namesO []) = []
noncomputable def m_laws_toRat (a0 : Int) (a1 : Int) : Option (Int × Int) :=
some (a0, a1)
theorem w_laws_toRat (a0 : Int) (a1 : Int) (r : Int × Int) (h : m_laws_toRat a0 a1 = some r) : AM.Spec Try.prog 38 [.agg [.int .i64 a0, .int .i64 a1]] [] (.agg [.int .i64 r.1, .int .i64 r.2]) [] := by
  refine spec_of (E := E_laws_toRat) Try.func38 rfl rfl rfl rfl ?_
  refine Tri.run 3 [] [.keep [1, 2, 3] [1, 2, 3]] (K' := [.code [(3, 0)] 0, .code [] 4]) (σ' := ⟨[(1, .ptr 1 0), (2, .ptr 2 0), (3, .ptr 3 0)], [(1, .box [.int .i64 a0, .int .i64 a1]), (2, .box [.int .i64 0, .int .i64 0]), (3, .box [.int .i64 a0, .int .i64 0])]⟩) rfl trivial rfl ?_
  refine Tri.run 2 [] [.keep [2] [2]] (K' := [.code [] 5]) (σ' := ⟨[(2, .ptr 2 0)], [(2, .box [.int .i64 a0, .int .i64 a1])]⟩) rfl trivial rfl ?_
  have h := Option.some.inj h
  subst h
  exact Tri.ret rfl ⟨.inl rfl, rfl, rfl⟩
/-! laws.toRatS -/
noncomputable def E_laws_toRatS : Env := ⟨Try.prog, tys, (Try.f15.body).getD .skip, 23, tysOk, mixedOk⟩
abbrev q_laws_toRatS (r : List Q) (σ' : ASt) : Prop := resAV E_laws_toRatS.T σ' Try.f15.results.toList = some (.sl 1000 0) ∧ keepO σ'.ob (namesO [(1000, .arr 53 0 0 (.rats r))]) = [(1000, .arr 53 0 0 (.rats r))]
noncomputable def l_laws_toRatS_0 (a0 : List Q) : (Int × (List Q)) → Option ((Int × (List Q)) ⊕ ((List Q)))
  | (v1, v2) => (
bif decide (v1 < (a0.length : Int)) then
(grd ((0 : Int) ≤ v1 ∧ v1 < (a0.length : Int)) <|
(m_laws_toRat ((a0.getD v1.toNat ⟨0, 0⟩).num) ((a0.getD v1.toNat ⟨0, 0⟩).den)).bind fun (v3, v4) =>
grd ((0 : Int) ≤ v1 ∧ v1 < (v2.length : Int)) <|
some (.inl (IntKind.i64.wrap (v1 + (1 : Int)), v2.set v1.toNat ⟨v3, v4⟩)))
else
(some (.inr v2)))
noncomputable def m_laws_toRatS (a0 : List Q) : Option (List Q) :=
grd ((0 : Int) ≤ (a0.length : Int) ∧ (a0.length : Int) = (a0.length : Int) ∧ (a0.length : Int) ≤ (room : Int)) <|
(iter (l_laws_toRatS_0 a0) ((0 : Int), List.replicate (a0.length : Int).toNat (⟨0, 0⟩ : Q))).bind fun
| v5 => (
some v5)
theorem w_laws_toRatS (a0 : List Q) (r : List Q) (h : m_laws_toRatS a0 = some r) : AM.Spec Try.prog 15 [.list (.rats a0)] [] (.sl 1000 0) [(1000, .arr 53 0 0 (.rats r))] := by
  refine spec_of (E := E_laws_toRatS) Try.func15 rfl rfl rfl rfl ?_
  obtain ⟨hg1, h⟩ := grd_some h
  refine Tri.run 3 [] [.keep [0, 3, 4] [7]] (K' := [.code [(2, 0), (1, 0)] 0, .blk 0, .code [] 3]) (σ' := ⟨[(0, .list (.rats a0)), (3, .sl 7 0), (4, .int .i64 (0 : Int))], [(7, .arr 53 0 0 (.rats (List.replicate (a0.length : Int).toNat (⟨0, 0⟩ : Q))))]⟩) rfl ⟨hg1, trivial⟩ rfl ?_
  obtain ⟨v5, hk6, h⟩ := bind_some h
  refine Tri.loop (K1 := [.code [(2, 0), (1, 0), (0, 0)] 0]) (K2 := [.blk 0, .code [] 3]) (fun (v1, v2) => ⟨[(0, .list (.rats a0)), (3, .sl 7 0), (4, .int .i64 v1)], [(7, .arr 53 0 0 (.rats v2))]⟩) (fun x e σ' => match x with | v5 => e = .exit 0 ∧ σ' = ⟨[(3, .sl 7 0)], [(7, .arr 53 0 0 (.rats v5))]⟩) hk6 rfl rfl ?_ ?_
  · intro s x hs
    clear h
    have h := hs
    clear hs
    obtain ⟨v1, v2⟩ := s
    refine Tri.run 1 [] [.keep [0, 3, 4, 11] [7]] (K' := [.code [(2, 0), (1, 0), (0, 0), (0, 0)] 1, .code [(2, 0), (1, 0), (0, 0)] 1]) (σ' := ⟨[(0, .list (.rats a0)), (3, .sl 7 0), (4, .int .i64 v1), (11, .bool (decide (v1 < (a0.length : Int))))], [(7, .arr 53 0 0 (.rats v2))]⟩) rfl trivial rfl ?_
    rcases bif_some h with ⟨hd2, h⟩ | ⟨hd2, h⟩
    · obtain ⟨hg3, h⟩ := grd_some h
      obtain ⟨⟨v3, v4⟩, hk4, h⟩ := bind_some h
      obtain ⟨hg5, h⟩ := grd_some h
      refine Tri.run 3 [.g true, .r ⟨[], .agg [.int .i64 v3, .int .i64 v4], []⟩] [.keep [0, 3, 4] [7]] (K' := []) (σ' := ⟨[(0, .list (.rats a0)), (3, .sl 7 0), (4, .int .i64 (IntKind.i64.wrap (v1 + (1 : Int))))], [(7, .arr 53 0 0 (.rats (v2.set v1.toNat ⟨v3, v4⟩)))]⟩) rfl ⟨hg5, (w_laws_toRat ((a0.getD v1.toNat ⟨0, 0⟩).num) ((a0.getD v1.toNat ⟨0, 0⟩).den) (v3, v4) hk4), hg3, hd2, trivial⟩ rfl ?_
      have h := Option.some.inj h
      subst h
      exact Tri.nil ⟨rfl, rfl⟩
    · refine Tri.run 1 [.g false] [.keep [3] [7]] (K' := [.code [(2, 0), (1, 0), (0, 0), (0, 0), (1, 1)] 0, .code [(2, 0), (1, 0), (0, 0)] 1]) (σ' := ⟨[(3, .sl 7 0)], [(7, .arr 53 0 0 (.rats v2))]⟩) rfl ⟨hd2, trivial⟩ rfl ?_
      have h := Option.some.inj h
      subst h
      exact Tri.out 0 rfl ⟨nofun, rfl, rfl⟩
  · intro e σ' hne hq
    obtain ⟨rfl, rfl⟩ := hq
    refine TriX.exit (K' := [.code [] 3]) rfl ?_
    refine Tri.run 1 [] [.swap 7 1000, .keep [2] [1000]] (K' := [.code [] 4]) (σ' := ⟨[(2, .sl 1000 0)], [(1000, .arr 53 0 0 (.rats v5))]⟩) rfl trivial rfl ?_
    have h := Option.some.inj h
    subst h
    exact Tri.ret rfl ⟨.inl rfl, rfl, rfl⟩
/-! spec.l3Gcd -/
noncomputable def E_spec_l3Gcd : Env := ⟨Try.prog, tys, (Try.f53.body).getD .skip, 22, tysOk, mixedOk⟩
abbrev q_spec_l3Gcd (r : Int) (σ' : ASt) : Prop := resAV E_spec_l3Gcd.T σ' Try.f53.results.toList = some (.int .i64 r) ∧ keepO σ'.ob (namesO []) = []
noncomputable def l_spec_l3Gcd_0 : (Int × Int) → Option ((Int × Int) ⊕ Int)
  | (v1, v2) => (
bif decide (v2 > (0 : Int)) then
(grd (v2 ≠ 0) <|
some (.inl (v2, v1.tmod v2)))
else
(some (.inr v1)))
noncomputable def l_spec_l3Gcd_1 : (Int × Int) → Option ((Int × Int) ⊕ Int)
  | (v4, v5) => (
bif decide (v5 > (0 : Int)) then
(grd (v5 ≠ 0) <|
some (.inl (v5, v4.tmod v5)))
else
(some (.inr v4)))
noncomputable def l_spec_l3Gcd_2 : (Int × Int) → Option ((Int × Int) ⊕ Int)
  | (v7, v8) => (
bif decide (v8 > (0 : Int)) then
(grd (v8 ≠ 0) <|
some (.inl (v8, v7.tmod v8)))
else
(some (.inr v7)))
noncomputable def l_spec_l3Gcd_3 : (Int × Int) → Option ((Int × Int) ⊕ Int)
  | (v10, v11) => (
bif decide (v11 > (0 : Int)) then
(grd (v11 ≠ 0) <|
some (.inl (v11, v10.tmod v11)))
else
(some (.inr v10)))
noncomputable def m_spec_l3Gcd (a0 : Int) (a1 : Int) : Option Int :=
bif decide (a0 < (0 : Int)) then
(bif decide (a1 < (0 : Int)) then
((iter (l_spec_l3Gcd_0) (IntKind.i64.wrap (0 - a0), IntKind.i64.wrap (0 - a1))).bind fun
| v3 => (
some v3))
else
((iter (l_spec_l3Gcd_1) (IntKind.i64.wrap (0 - a0), a1)).bind fun
| v6 => (
some v6)))
else
(bif decide (a1 < (0 : Int)) then
((iter (l_spec_l3Gcd_2) (a0, IntKind.i64.wrap (0 - a1))).bind fun
| v9 => (
some v9))
else
((iter (l_spec_l3Gcd_3) (a0, a1)).bind fun
| v12 => (
some v12)))
theorem w_spec_l3Gcd (a0 : Int) (a1 : Int) (r : Int) (h : m_spec_l3Gcd a0 a1 = some r) : AM.Spec Try.prog 53 [.int .i64 a0, .int .i64 a1] [] (.int .i64 r) [] := by
  refine spec_of (E := E_spec_l3Gcd) Try.func53 rfl rfl rfl rfl ?_
  refine Tri.run 2 [] [.keep [0, 1, 7] []] (K' := [.code [(1, 0)] 1, .code [] 2]) (σ' := ⟨[(0, .int .i64 a0), (1, .int .i64 a1), (7, .bool (decide (a0 < (0 : Int))))], []⟩) rfl trivial rfl ?_
  rcases bif_some h with ⟨hd1, h⟩ | ⟨hd1, h⟩
  · refine Tri.run 3 [.g true] [.keep [0, 1, 11] []] (K' := [.code [(2, 0)] 1, .code [] 3]) (σ' := ⟨[(0, .int .i64 (IntKind.i64.wrap (0 - a0))), (1, .int .i64 a1), (11, .bool (decide (a1 < (0 : Int))))], []⟩) rfl ⟨hd1, trivial⟩ rfl ?_
    rcases bif_some h with ⟨hd2, h⟩ | ⟨hd2, h⟩
    · refine Tri.run 2 [.g true] [.keep [0, 1] []] (K' := [.code [(3, 0), (0, 0)] 0, .blk 0, .code [] 4]) (σ' := ⟨[(0, .int .i64 (IntKind.i64.wrap (0 - a0))), (1, .int .i64 (IntKind.i64.wrap (0 - a1)))], []⟩) rfl ⟨hd2, trivial⟩ rfl ?_
      obtain ⟨v3, hk5, h⟩ := bind_some h
      refine Tri.loop (K1 := [.code [(3, 0), (0, 0), (0, 0)] 0]) (K2 := [.blk 0, .code [] 4]) (fun (v1, v2) => ⟨[(0, .int .i64 v1), (1, .int .i64 v2)], []⟩) (fun x e σ' => match x with | v3 => e = .exit 0 ∧ σ' = ⟨[(0, .int .i64 v3)], []⟩) hk5 rfl rfl ?_ ?_
      · intro s x hs
        clear h
        have h := hs
        clear hs
        obtain ⟨v1, v2⟩ := s
        refine Tri.run 1 [] [.keep [0, 1, 15] []] (K' := [.code [(3, 0), (0, 0), (0, 0), (0, 0)] 1, .code [(3, 0), (0, 0), (0, 0)] 1]) (σ' := ⟨[(0, .int .i64 v1), (1, .int .i64 v2), (15, .bool (decide (v2 > (0 : Int))))], []⟩) rfl trivial rfl ?_
        rcases bif_some h with ⟨hd3, h⟩ | ⟨hd3, h⟩
        · obtain ⟨hg4, h⟩ := grd_some h
          refine Tri.run 3 [.g true] [.keep [0, 5] []] (K' := [.code [(3, 0), (0, 0), (0, 0), (1, 0)] 2, .blk 1]) (σ' := ⟨[(0, .int .i64 v2), (5, .int .i64 (v1.tmod v2))], []⟩) rfl ⟨hg4, hd3, trivial⟩ rfl ?_
          refine Tri.run 1 [] [.keep [0, 1] []] (K' := []) (σ' := ⟨[(0, .int .i64 v2), (1, .int .i64 (v1.tmod v2))], []⟩) rfl trivial rfl ?_
          have h := Option.some.inj h
          subst h
          exact Tri.nil ⟨rfl, rfl⟩
        · refine Tri.run 1 [.g false] [.keep [0] []] (K' := [.code [(3, 0), (0, 0), (0, 0), (0, 0), (1, 1)] 0, .code [(3, 0), (0, 0), (0, 0)] 1]) (σ' := ⟨[(0, .int .i64 v1)], []⟩) rfl ⟨hd3, trivial⟩ rfl ?_
          have h := Option.some.inj h
          subst h
          exact Tri.out 0 rfl ⟨nofun, rfl, rfl⟩
      · intro e σ' hne hq
        obtain ⟨rfl, rfl⟩ := hq
        refine TriX.exit (K' := [.code [] 4]) rfl ?_
        refine Tri.run 1 [] [.keep [4] []] (K' := [.code [] 5]) (σ' := ⟨[(4, .int .i64 v3)], []⟩) rfl trivial rfl ?_
        have h := Option.some.inj h
        subst h
        exact Tri.ret rfl ⟨.inl rfl, rfl, rfl⟩
    · refine Tri.run 1 [.g false] [.keep [0, 1] []] (K' := [.code [(3, 0), (0, 0)] 0, .blk 0, .code [] 4]) (σ' := ⟨[(0, .int .i64 (IntKind.i64.wrap (0 - a0))), (1, .int .i64 a1)], []⟩) rfl ⟨hd2, trivial⟩ rfl ?_
      obtain ⟨v6, hk8, h⟩ := bind_some h
      refine Tri.loop (K1 := [.code [(3, 0), (0, 0), (0, 0)] 0]) (K2 := [.blk 0, .code [] 4]) (fun (v4, v5) => ⟨[(0, .int .i64 v4), (1, .int .i64 v5)], []⟩) (fun x e σ' => match x with | v6 => e = .exit 0 ∧ σ' = ⟨[(0, .int .i64 v6)], []⟩) hk8 rfl rfl ?_ ?_
      · intro s x hs
        clear h
        have h := hs
        clear hs
        obtain ⟨v4, v5⟩ := s
        refine Tri.run 1 [] [.keep [0, 1, 15] []] (K' := [.code [(3, 0), (0, 0), (0, 0), (0, 0)] 1, .code [(3, 0), (0, 0), (0, 0)] 1]) (σ' := ⟨[(0, .int .i64 v4), (1, .int .i64 v5), (15, .bool (decide (v5 > (0 : Int))))], []⟩) rfl trivial rfl ?_
        rcases bif_some h with ⟨hd6, h⟩ | ⟨hd6, h⟩
        · obtain ⟨hg7, h⟩ := grd_some h
          refine Tri.run 3 [.g true] [.keep [0, 5] []] (K' := [.code [(3, 0), (0, 0), (0, 0), (1, 0)] 2, .blk 1]) (σ' := ⟨[(0, .int .i64 v5), (5, .int .i64 (v4.tmod v5))], []⟩) rfl ⟨hg7, hd6, trivial⟩ rfl ?_
          refine Tri.run 1 [] [.keep [0, 1] []] (K' := []) (σ' := ⟨[(0, .int .i64 v5), (1, .int .i64 (v4.tmod v5))], []⟩) rfl trivial rfl ?_
          have h := Option.some.inj h
          subst h
          exact Tri.nil ⟨rfl, rfl⟩
        · refine Tri.run 1 [.g false] [.keep [0] []] (K' := [.code [(3, 0), (0, 0), (0, 0), (0, 0), (1, 1)] 0, .code [(3, 0), (0, 0), (0, 0)] 1]) (σ' := ⟨[(0, .int .i64 v4)], []⟩) rfl ⟨hd6, trivial⟩ rfl ?_
          have h := Option.some.inj h
          subst h
          exact Tri.out 0 rfl ⟨nofun, rfl, rfl⟩
      · intro e σ' hne hq
        obtain ⟨rfl, rfl⟩ := hq
        refine TriX.exit (K' := [.code [] 4]) rfl ?_
        refine Tri.run 1 [] [.keep [4] []] (K' := [.code [] 5]) (σ' := ⟨[(4, .int .i64 v6)], []⟩) rfl trivial rfl ?_
        have h := Option.some.inj h
        subst h
        exact Tri.ret rfl ⟨.inl rfl, rfl, rfl⟩
  · refine Tri.run 2 [.g false] [.keep [0, 1, 11] []] (K' := [.code [(2, 0)] 1, .code [] 3]) (σ' := ⟨[(0, .int .i64 a0), (1, .int .i64 a1), (11, .bool (decide (a1 < (0 : Int))))], []⟩) rfl ⟨hd1, trivial⟩ rfl ?_
    rcases bif_some h with ⟨hd9, h⟩ | ⟨hd9, h⟩
    · refine Tri.run 2 [.g true] [.keep [0, 1] []] (K' := [.code [(3, 0), (0, 0)] 0, .blk 0, .code [] 4]) (σ' := ⟨[(0, .int .i64 a0), (1, .int .i64 (IntKind.i64.wrap (0 - a1)))], []⟩) rfl ⟨hd9, trivial⟩ rfl ?_
      obtain ⟨v9, hk12, h⟩ := bind_some h
      refine Tri.loop (K1 := [.code [(3, 0), (0, 0), (0, 0)] 0]) (K2 := [.blk 0, .code [] 4]) (fun (v7, v8) => ⟨[(0, .int .i64 v7), (1, .int .i64 v8)], []⟩) (fun x e σ' => match x with | v9 => e = .exit 0 ∧ σ' = ⟨[(0, .int .i64 v9)], []⟩) hk12 rfl rfl ?_ ?_
      · intro s x hs
        clear h
        have h := hs
        clear hs
        obtain ⟨v7, v8⟩ := s
        refine Tri.run 1 [] [.keep [0, 1, 15] []] (K' := [.code [(3, 0), (0, 0), (0, 0), (0, 0)] 1, .code [(3, 0), (0, 0), (0, 0)] 1]) (σ' := ⟨[(0, .int .i64 v7), (1, .int .i64 v8), (15, .bool (decide (v8 > (0 : Int))))], []⟩) rfl trivial rfl ?_
        rcases bif_some h with ⟨hd10, h⟩ | ⟨hd10, h⟩
        · obtain ⟨hg11, h⟩ := grd_some h
          refine Tri.run 3 [.g true] [.keep [0, 5] []] (K' := [.code [(3, 0), (0, 0), (0, 0), (1, 0)] 2, .blk 1]) (σ' := ⟨[(0, .int .i64 v8), (5, .int .i64 (v7.tmod v8))], []⟩) rfl ⟨hg11, hd10, trivial⟩ rfl ?_
          refine Tri.run 1 [] [.keep [0, 1] []] (K' := []) (σ' := ⟨[(0, .int .i64 v8), (1, .int .i64 (v7.tmod v8))], []⟩) rfl trivial rfl ?_
          have h := Option.some.inj h
          subst h
          exact Tri.nil ⟨rfl, rfl⟩
        · refine Tri.run 1 [.g false] [.keep [0] []] (K' := [.code [(3, 0), (0, 0), (0, 0), (0, 0), (1, 1)] 0, .code [(3, 0), (0, 0), (0, 0)] 1]) (σ' := ⟨[(0, .int .i64 v7)], []⟩) rfl ⟨hd10, trivial⟩ rfl ?_
          have h := Option.some.inj h
          subst h
          exact Tri.out 0 rfl ⟨nofun, rfl, rfl⟩
      · intro e σ' hne hq
        obtain ⟨rfl, rfl⟩ := hq
        refine TriX.exit (K' := [.code [] 4]) rfl ?_
        refine Tri.run 1 [] [.keep [4] []] (K' := [.code [] 5]) (σ' := ⟨[(4, .int .i64 v9)], []⟩) rfl trivial rfl ?_
        have h := Option.some.inj h
        subst h
        exact Tri.ret rfl ⟨.inl rfl, rfl, rfl⟩
    · refine Tri.run 1 [.g false] [.keep [0, 1] []] (K' := [.code [(3, 0), (0, 0)] 0, .blk 0, .code [] 4]) (σ' := ⟨[(0, .int .i64 a0), (1, .int .i64 a1)], []⟩) rfl ⟨hd9, trivial⟩ rfl ?_
      obtain ⟨v12, hk15, h⟩ := bind_some h
      refine Tri.loop (K1 := [.code [(3, 0), (0, 0), (0, 0)] 0]) (K2 := [.blk 0, .code [] 4]) (fun (v10, v11) => ⟨[(0, .int .i64 v10), (1, .int .i64 v11)], []⟩) (fun x e σ' => match x with | v12 => e = .exit 0 ∧ σ' = ⟨[(0, .int .i64 v12)], []⟩) hk15 rfl rfl ?_ ?_
      · intro s x hs
        clear h
        have h := hs
        clear hs
        obtain ⟨v10, v11⟩ := s
        refine Tri.run 1 [] [.keep [0, 1, 15] []] (K' := [.code [(3, 0), (0, 0), (0, 0), (0, 0)] 1, .code [(3, 0), (0, 0), (0, 0)] 1]) (σ' := ⟨[(0, .int .i64 v10), (1, .int .i64 v11), (15, .bool (decide (v11 > (0 : Int))))], []⟩) rfl trivial rfl ?_
        rcases bif_some h with ⟨hd13, h⟩ | ⟨hd13, h⟩
        · obtain ⟨hg14, h⟩ := grd_some h
          refine Tri.run 3 [.g true] [.keep [0, 5] []] (K' := [.code [(3, 0), (0, 0), (0, 0), (1, 0)] 2, .blk 1]) (σ' := ⟨[(0, .int .i64 v11), (5, .int .i64 (v10.tmod v11))], []⟩) rfl ⟨hg14, hd13, trivial⟩ rfl ?_
          refine Tri.run 1 [] [.keep [0, 1] []] (K' := []) (σ' := ⟨[(0, .int .i64 v11), (1, .int .i64 (v10.tmod v11))], []⟩) rfl trivial rfl ?_
          have h := Option.some.inj h
          subst h
          exact Tri.nil ⟨rfl, rfl⟩
        · refine Tri.run 1 [.g false] [.keep [0] []] (K' := [.code [(3, 0), (0, 0), (0, 0), (0, 0), (1, 1)] 0, .code [(3, 0), (0, 0), (0, 0)] 1]) (σ' := ⟨[(0, .int .i64 v10)], []⟩) rfl ⟨hd13, trivial⟩ rfl ?_
          have h := Option.some.inj h
          subst h
          exact Tri.out 0 rfl ⟨nofun, rfl, rfl⟩
      · intro e σ' hne hq
        obtain ⟨rfl, rfl⟩ := hq
        refine TriX.exit (K' := [.code [] 4]) rfl ?_
        refine Tri.run 1 [] [.keep [4] []] (K' := [.code [] 5]) (σ' := ⟨[(4, .int .i64 v12)], []⟩) rfl trivial rfl ?_
        have h := Option.some.inj h
        subst h
        exact Tri.ret rfl ⟨.inl rfl, rfl, rfl⟩
/-! spec.IsValidRat -/
noncomputable def E_spec_IsValidRat : Env := ⟨Try.prog, tys, (Try.f48.body).getD .skip, 19, tysOk, mixedOk⟩
abbrev q_spec_IsValidRat (r : Bool) (σ' : ASt) : Prop := resAV E_spec_IsValidRat.T σ' Try.f48.results.toList = some (.bool r) ∧ keepO σ'.ob (namesO []) = []
noncomputable def m_spec_IsValidRat (a0 : Int) (a1 : Int) : Option Bool :=
(m_spec_l1In a1 (1 : Int) (1000000000 : Int)).bind fun v1 =>
bif v1 then
((m_spec_l1In a0 (-1000000000 : Int) (1000000000 : Int)).bind fun v2 =>
bif v2 then
((m_spec_l3Gcd a0 a1).bind fun v3 =>
some (v3 == (1 : Int)))
else
(some false))
else
(some false)
theorem w_spec_IsValidRat (a0 : Int) (a1 : Int) (r : Bool) (h : m_spec_IsValidRat a0 a1 = some r) : AM.Spec Try.prog 48 [.agg [.int .i64 a0, .int .i64 a1]] [] (.bool r) [] := by
  refine spec_of (E := E_spec_IsValidRat) Try.func48 rfl rfl rfl rfl ?_
  refine Tri.run 1 [] [.keep [1] [1]] (K' := [.code [(1, 0)] 0, .code [] 2]) (σ' := ⟨[(1, .ptr 1 0)], [(1, .box [.int .i64 a0, .int .i64 a1])]⟩) rfl trivial rfl ?_
  obtain ⟨v1, hk1, h⟩ := bind_some h
  rcases bif_some h with ⟨hd2, h⟩ | ⟨hd2, h⟩
  · obtain ⟨v2, hk3, h⟩ := bind_some h
    rcases bif_some h with ⟨hd4, h⟩ | ⟨hd4, h⟩
    · obtain ⟨v3, hk5, h⟩ := bind_some h
      refine Tri.run 1 [.r ⟨[], .bool v1, []⟩, .g true, .r ⟨[], .bool v2, []⟩, .g true, .r ⟨[], .int .i64 v3, []⟩] [.keep [2] []] (K' := [.code [] 2]) (σ' := ⟨[(2, .bool (v3 == (1 : Int)))], []⟩) rfl ⟨(w_spec_l3Gcd a0 a1 v3 hk5), hd4, (w_spec_l1In a0 (-1000000000 : Int) (1000000000 : Int) v2 hk3), hd2, (w_spec_l1In a1 (1 : Int) (1000000000 : Int) v1 hk1), trivial⟩ rfl ?_
      have h := Option.some.inj h
      subst h
      exact Tri.ret rfl ⟨.inl rfl, rfl, rfl⟩
    · refine Tri.run 1 [.r ⟨[], .bool v1, []⟩, .g true, .r ⟨[], .bool v2, []⟩, .g false] [.keep [2] []] (K' := [.code [] 2]) (σ' := ⟨[(2, .bool false)], []⟩) rfl ⟨hd4, (w_spec_l1In a0 (-1000000000 : Int) (1000000000 : Int) v2 hk3), hd2, (w_spec_l1In a1 (1 : Int) (1000000000 : Int) v1 hk1), trivial⟩ rfl ?_
      have h := Option.some.inj h
      subst h
      exact Tri.ret rfl ⟨.inl rfl, rfl, rfl⟩
  · refine Tri.run 1 [.r ⟨[], .bool v1, []⟩, .g false, .g false] [.keep [2] []] (K' := [.code [] 2]) (σ' := ⟨[(2, .bool false)], []⟩) rfl ⟨rfl, hd2, (w_spec_l1In a1 (1 : Int) (1000000000 : Int) v1 hk1), trivial⟩ rfl ?_
    have h := Option.some.inj h
    subst h
    exact Tri.ret rfl ⟨.inl rfl, rfl, rfl⟩
/-! spec.CompareRat -/
noncomputable def E_spec_CompareRat : Env := ⟨Try.prog, tys, (Try.f37.body).getD .skip, 33, tysOk, mixedOk⟩
abbrev q_spec_CompareRat (r : Int) (σ' : ASt) : Prop := resAV E_spec_CompareRat.T σ' Try.f37.results.toList = some (.int .i64 r) ∧ keepO σ'.ob (namesO []) = []
noncomputable def m_spec_CompareRat (a0 : Int) (a1 : Int) (a2 : Int) (a3 : Int) : Option Int :=
(m_spec_IsValidRat a0 a1).bind fun v1 =>
bif !v1 then
(some (0 : Int))
else
((m_spec_IsValidRat a2 a3).bind fun v2 =>
bif !v2 then
(some (0 : Int))
else
(bif decide ((IntKind.i64.wrap (a0 * a3)) < (IntKind.i64.wrap (a2 * a1))) then
(some (-1 : Int))
else
(bif decide ((IntKind.i64.wrap (a0 * a3)) > (IntKind.i64.wrap (a2 * a1))) then
(some (1 : Int))
else
(some (0 : Int)))))
theorem w_spec_CompareRat (a0 : Int) (a1 : Int) (a2 : Int) (a3 : Int) (r : Int) (h : m_spec_CompareRat a0 a1 a2 a3 = some r) : AM.Spec Try.prog 37 [.agg [.int .i64 a0, .int .i64 a1], .agg [.int .i64 a2, .int .i64 a3]] [] (.int .i64 r) [] := by
  refine spec_of (E := E_spec_CompareRat) Try.func37 rfl rfl rfl rfl ?_
  refine Tri.run 1 [] [.keep [2, 3] [2, 3]] (K' := [.code [(1, 0), (0, 0)] 0, .code [(1, 0)] 1, .code [] 2]) (σ' := ⟨[(2, .ptr 2 0), (3, .ptr 3 0)], [(2, .box [.int .i64 a0, .int .i64 a1]), (3, .box [.int .i64 a2, .int .i64 a3])]⟩) rfl trivial rfl ?_
  obtain ⟨v1, hk1, h⟩ := bind_some h
  rcases bif_some h with ⟨hd2, h⟩ | ⟨hd2, h⟩
  · refine Tri.run 1 [.r ⟨[], .bool v1, []⟩, .g true] [.keep [2, 3, 14] [2, 3]] (K' := [.code [(1, 0)] 1, .code [] 2]) (σ' := ⟨[(2, .ptr 2 0), (3, .ptr 3 0), (14, .bool true)], [(2, .box [.int .i64 a0, .int .i64 a1]), (3, .box [.int .i64 a2, .int .i64 a3])]⟩) rfl ⟨hd2, (w_spec_IsValidRat a0 a1 v1 hk1), trivial⟩ rfl ?_
    refine Tri.run 2 [.g true] [.keep [4] []] (K' := [.code [(1, 0), (1, 0)] 1, .code [] 2]) (σ' := ⟨[(4, .int .i64 (0 : Int))], []⟩) rfl ⟨rfl, trivial⟩ rfl ?_
    have h := Option.some.inj h
    subst h
    exact Tri.ret rfl ⟨.inl rfl, rfl, rfl⟩
  · obtain ⟨v2, hk3, h⟩ := bind_some h
    refine Tri.run 1 [.r ⟨[], .bool v1, []⟩, .g false, .r ⟨[], .bool v2, []⟩] [.keep [2, 3, 14] [2, 3]] (K' := [.code [(1, 0)] 1, .code [] 2]) (σ' := ⟨[(2, .ptr 2 0), (3, .ptr 3 0), (14, .bool (!v2))], [(2, .box [.int .i64 a0, .int .i64 a1]), (3, .box [.int .i64 a2, .int .i64 a3])]⟩) rfl ⟨(w_spec_IsValidRat a2 a3 v2 hk3), hd2, (w_spec_IsValidRat a0 a1 v1 hk1), trivial⟩ rfl ?_
    rcases bif_some h with ⟨hd4, h⟩ | ⟨hd4, h⟩
    · refine Tri.run 2 [.g true] [.keep [4] []] (K' := [.code [(1, 0), (1, 0)] 1, .code [] 2]) (σ' := ⟨[(4, .int .i64 (0 : Int))], []⟩) rfl ⟨hd4, trivial⟩ rfl ?_
      have h := Option.some.inj h
      subst h
      exact Tri.ret rfl ⟨.inl rfl, rfl, rfl⟩
    · refine Tri.run 3 [.g false] [.keep [5, 6] []] (K' := [.code [(4, 0), (0, 0), (0, 0)] 0, .code [(4, 0), (0, 0)] 1, .blk 0, .code [] 5]) (σ' := ⟨[(5, .int .i64 (IntKind.i64.wrap (a0 * a3))), (6, .int .i64 (IntKind.i64.wrap (a2 * a1)))], []⟩) rfl ⟨hd4, trivial⟩ rfl ?_
      refine Tri.run 1 [] [.keep [5, 6, 25] []] (K' := [.code [(4, 0), (0, 0)] 1, .blk 0, .code [] 5]) (σ' := ⟨[(5, .int .i64 (IntKind.i64.wrap (a0 * a3))), (6, .int .i64 (IntKind.i64.wrap (a2 * a1))), (25, .bool (decide ((IntKind.i64.wrap (a0 * a3)) < (IntKind.i64.wrap (a2 * a1)))))], []⟩) rfl trivial rfl ?_
      rcases bif_some h with ⟨hd5, h⟩ | ⟨hd5, h⟩
      · refine Tri.run 2 [.g true] [.keep [4] []] (K' := [.code [(4, 0), (0, 0), (1, 0)] 1, .blk 0, .code [] 5]) (σ' := ⟨[(4, .int .i64 (-1 : Int))], []⟩) rfl ⟨hd5, trivial⟩ rfl ?_
        have h := Option.some.inj h
        subst h
        exact Tri.ret rfl ⟨.inl rfl, rfl, rfl⟩
      · refine Tri.run 2 [.g false] [.keep [29] []] (K' := [.code [(4, 0), (0, 0), (1, 1)] 1, .blk 0, .code [] 5]) (σ' := ⟨[(29, .bool (decide ((IntKind.i64.wrap (a0 * a3)) > (IntKind.i64.wrap (a2 * a1)))))], []⟩) rfl ⟨hd5, trivial⟩ rfl ?_
        rcases bif_some h with ⟨hd6, h⟩ | ⟨hd6, h⟩
        · refine Tri.run 2 [.g true] [.keep [4] []] (K' := [.code [(4, 0), (0, 0), (1, 1), (1, 0)] 1, .blk 0, .code [] 5]) (σ' := ⟨[(4, .int .i64 (1 : Int))], []⟩) rfl ⟨hd6, trivial⟩ rfl ?_
          have h := Option.some.inj h
          subst h
          exact Tri.ret rfl ⟨.inl rfl, rfl, rfl⟩
        · refine Tri.run 2 [.g false] [.keep [4] []] (K' := [.code [] 6]) (σ' := ⟨[(4, .int .i64 (0 : Int))], []⟩) rfl ⟨hd6, trivial⟩ rfl ?_
          have h := Option.some.inj h
          subst h
          exact Tri.ret rfl ⟨.inl rfl, rfl, rfl⟩
/-! spec.CompareExcesses -/
noncomputable def E_spec_CompareExcesses : Env := ⟨Try.prog, tys, (Try.f14.body).getD .skip, 43, tysOk, mixedOk⟩
abbrev q_spec_CompareExcesses (r : Int) (σ' : ASt) : Prop := resAV E_spec_CompareExcesses.T σ' Try.f14.results.toList = some (.int .i64 r) ∧ keepO σ'.ob (namesO []) = []
noncomputable def l_spec_CompareExcesses_0 (a0 : List Q) (a1 : List Q) (v1 : Int) : Option (Int ⊕ (Unit ⊕ Int)) :=
bif decide (v1 < (a0.length : Int)) then
(bif decide (v1 < (a1.length : Int)) then
(grd ((0 : Int) ≤ v1 ∧ v1 < (a0.length : Int)) <|
grd ((0 : Int) ≤ v1 ∧ v1 < (a1.length : Int)) <|
(m_spec_CompareRat ((a0.getD v1.toNat ⟨0, 0⟩).num) ((a0.getD v1.toNat ⟨0, 0⟩).den) ((a1.getD v1.toNat ⟨0, 0⟩).num) ((a1.getD v1.toNat ⟨0, 0⟩).den)).bind fun v2 =>
bif v2 != (0 : Int) then
(some (.inr (.inr v2)))
else
(some (.inl (IntKind.i64.wrap (v1 + (1 : Int))))))
else
(some (.inr (.inl ()))))
else
(some (.inr (.inl ())))
noncomputable def m_spec_CompareExcesses (a0 : List Q) (a1 : List Q) : Option Int :=
(iter (l_spec_CompareExcesses_0 a0 a1) (0 : Int)).bind fun
| (.inl _) => (
bif decide ((a0.length : Int) < (a1.length : Int)) then
(some (-1 : Int))
else
(bif decide ((a0.length : Int) > (a1.length : Int)) then
(some (1 : Int))
else
(some (0 : Int))))
| (.inr r) => some r
theorem w_spec_CompareExcesses (a0 : List Q) (a1 : List Q) (r : Int) (h : m_spec_CompareExcesses a0 a1 = some r) : AM.Spec Try.prog 14 [.list (.rats a0), .list (.rats a1)] [] (.int .i64 r) [] := by
  refine spec_of (E := E_spec_CompareExcesses) Try.func14 rfl rfl rfl rfl ?_
  refine Tri.run 2 [] [.keep [0, 1, 5] []] (K' := [.code [(1, 0), (1, 0)] 0, .blk 0, .code [] 2]) (σ' := ⟨[(0, .list (.rats a0)), (1, .list (.rats a1)), (5, .int .i64 (0 : Int))], []⟩) rfl trivial rfl ?_
  obtain ⟨x1, hk7, h⟩ := bind_some h
  refine Tri.loop (K1 := [.code [(1, 0), (1, 0), (0, 0)] 0]) (K2 := [.blk 0, .code [] 2]) (fun v1 => ⟨[(0, .list (.rats a0)), (1, .list (.rats a1)), (5, .int .i64 v1)], []⟩) (fun x e σ' => match x with | (.inl _) => e = .exit 0 ∧ σ' = ⟨[(0, .list (.rats a0)), (1, .list (.rats a1))], []⟩ | (.inr r) => e = .ret ∧ q_spec_CompareExcesses r σ') hk7 rfl rfl ?_ ?_
  · intro v1 x hs
    clear h
    have h := hs
    clear hs
    rcases bif_some h with ⟨hd1, h⟩ | ⟨hd1, h⟩
    · refine Tri.run 1 [.g true] [.keep [0, 1, 5, 16] []] (K' := [.code [(1, 0), (1, 0), (0, 0), (0, 0)] 1, .code [(1, 0), (1, 0), (0, 0)] 1]) (σ' := ⟨[(0, .list (.rats a0)), (1, .list (.rats a1)), (5, .int .i64 v1), (16, .bool (decide (v1 < (a1.length : Int))))], []⟩) rfl ⟨hd1, trivial⟩ rfl ?_
      rcases bif_some h with ⟨hd2, h⟩ | ⟨hd2, h⟩
      · obtain ⟨hg3, h⟩ := grd_some h
        obtain ⟨hg4, h⟩ := grd_some h
        obtain ⟨v2, hk5, h⟩ := bind_some h
        refine Tri.run 3 [.g true, .r ⟨[], .int .i64 v2, []⟩] [.keep [0, 1, 5, 6, 29] []] (K' := [.code [(1, 0), (1, 0), (0, 0), (1, 0), (0, 0)] 2, .blk 1, .code [(1, 0), (1, 0), (0, 0)] 2]) (σ' := ⟨[(0, .list (.rats a0)), (1, .list (.rats a1)), (5, .int .i64 v1), (6, .int .i64 v2), (29, .bool (v2 != (0 : Int)))], []⟩) rfl ⟨(w_spec_CompareRat ((a0.getD v1.toNat ⟨0, 0⟩).num) ((a0.getD v1.toNat ⟨0, 0⟩).den) ((a1.getD v1.toNat ⟨0, 0⟩).num) ((a1.getD v1.toNat ⟨0, 0⟩).den) v2 hk5), hg4, hg3, hd2, trivial⟩ rfl ?_
        rcases bif_some h with ⟨hd6, h⟩ | ⟨hd6, h⟩
        · refine Tri.run 2 [.g true] [.keep [4] []] (K' := [.code [(1, 0), (1, 0), (0, 0), (1, 0), (0, 0), (2, 0)] 1, .blk 1, .code [(1, 0), (1, 0), (0, 0)] 2]) (σ' := ⟨[(4, .int .i64 v2)], []⟩) rfl ⟨hd6, trivial⟩ rfl ?_
          have h := Option.some.inj h
          subst h
          exact Tri.ret rfl ⟨nofun, rfl, rfl, rfl⟩
        · refine Tri.run 2 [.g false] [.keep [0, 1, 5] []] (K' := []) (σ' := ⟨[(0, .list (.rats a0)), (1, .list (.rats a1)), (5, .int .i64 (IntKind.i64.wrap (v1 + (1 : Int))))], []⟩) rfl ⟨hd6, trivial⟩ rfl ?_
          have h := Option.some.inj h
          subst h
          exact Tri.nil ⟨rfl, rfl⟩
      · refine Tri.run 1 [.g false] [.keep [0, 1] []] (K' := [.code [(1, 0), (1, 0), (0, 0), (0, 0), (1, 1)] 0, .code [(1, 0), (1, 0), (0, 0)] 1]) (σ' := ⟨[(0, .list (.rats a0)), (1, .list (.rats a1))], []⟩) rfl ⟨hd2, trivial⟩ rfl ?_
        have h := Option.some.inj h
        subst h
        exact Tri.out 0 rfl ⟨nofun, rfl, rfl⟩
    · refine Tri.run 1 [.g false] [.keep [0, 1, 5, 16] []] (K' := [.code [(1, 0), (1, 0), (0, 0), (0, 0)] 1, .code [(1, 0), (1, 0), (0, 0)] 1]) (σ' := ⟨[(0, .list (.rats a0)), (1, .list (.rats a1)), (5, .int .i64 v1), (16, .bool false)], []⟩) rfl ⟨hd1, trivial⟩ rfl ?_
      refine Tri.run 1 [.g false] [.keep [0, 1] []] (K' := [.code [(1, 0), (1, 0), (0, 0), (0, 0), (1, 1)] 0, .code [(1, 0), (1, 0), (0, 0)] 1]) (σ' := ⟨[(0, .list (.rats a0)), (1, .list (.rats a1))], []⟩) rfl ⟨rfl, trivial⟩ rfl ?_
      have h := Option.some.inj h
      subst h
      exact Tri.out 0 rfl ⟨nofun, rfl, rfl⟩
  · intro e σ' hne hq
    rcases x1 with _ | r
    · obtain ⟨rfl, rfl⟩ := hq
      refine TriX.exit (K' := [.code [] 2]) rfl ?_
      refine Tri.run 1 [] [.keep [0, 1, 31] []] (K' := [.code [(2, 0), (0, 0)] 1, .blk 2, .code [] 3]) (σ' := ⟨[(0, .list (.rats a0)), (1, .list (.rats a1)), (31, .bool (decide ((a0.length : Int) < (a1.length : Int))))], []⟩) rfl trivial rfl ?_
      rcases bif_some h with ⟨hd8, h⟩ | ⟨hd8, h⟩
      · refine Tri.run 2 [.g true] [.keep [4] []] (K' := [.code [(2, 0), (0, 0), (1, 0)] 1, .blk 2, .code [] 3]) (σ' := ⟨[(4, .int .i64 (-1 : Int))], []⟩) rfl ⟨hd8, trivial⟩ rfl ?_
        have h := Option.some.inj h
        subst h
        exact Tri.ret rfl ⟨.inl rfl, rfl, rfl⟩
      · refine Tri.run 2 [.g false] [.keep [37] []] (K' := [.code [(2, 0), (0, 0), (1, 1)] 1, .blk 2, .code [] 3]) (σ' := ⟨[(37, .bool (decide ((a0.length : Int) > (a1.length : Int))))], []⟩) rfl ⟨hd8, trivial⟩ rfl ?_
        rcases bif_some h with ⟨hd9, h⟩ | ⟨hd9, h⟩
        · refine Tri.run 2 [.g true] [.keep [4] []] (K' := [.code [(2, 0), (0, 0), (1, 1), (1, 0)] 1, .blk 2, .code [] 3]) (σ' := ⟨[(4, .int .i64 (1 : Int))], []⟩) rfl ⟨hd9, trivial⟩ rfl ?_
          have h := Option.some.inj h
          subst h
          exact Tri.ret rfl ⟨.inl rfl, rfl, rfl⟩
        · refine Tri.run 2 [.g false] [.keep [4] []] (K' := [.code [] 4]) (σ' := ⟨[(4, .int .i64 (0 : Int))], []⟩) rfl ⟨hd9, trivial⟩ rfl ?_
          have h := Option.some.inj h
          subst h
          exact Tri.ret rfl ⟨.inl rfl, rfl, rfl⟩
    · obtain ⟨rfl, hq⟩ := hq
      have h := Option.some.inj h
      subst h
      exact TriX.ret ⟨.inl rfl, hq⟩
/-! impl.common -/
noncomputable def E_impl_common : Env := ⟨Try.prog, tys, (Try.f54.body).getD .skip, 15, tysOk, mixedOk⟩
abbrev q_impl_common (r : Int) (σ' : ASt) : Prop := resAV E_impl_common.T σ' Try.f54.results.toList = some (.int .i64 r) ∧ keepO σ'.ob (namesO []) = []
noncomputable def l_impl_common_0 : (Int × Int) → Option ((Int × Int) ⊕ Int)
  | (v1, v2) => (
bif v2 != (0 : Int) then
(grd (v2 ≠ 0) <|
some (.inl (v2, v1.tmod v2)))
else
(some (.inr v1)))
noncomputable def m_impl_common (a0 : Int) (a1 : Int) : Option Int :=
(iter (l_impl_common_0) (a0, a1)).bind fun
| v3 => (
some (if IntKind.i64.wrap (0 - v3) > v3 then IntKind.i64.wrap (0 - v3) else v3))
theorem w_impl_common (a0 : Int) (a1 : Int) (r : Int) (h : m_impl_common a0 a1 = some r) : AM.Spec Try.prog 54 [.int .i64 a0, .int .i64 a1] [] (.int .i64 r) [] := by
  refine spec_of (E := E_impl_common) Try.func54 rfl rfl rfl rfl ?_
  refine Tri.run 1 [] [.keep [0, 1] []] (K' := [.code [(1, 0), (0, 0)] 0, .blk 0, .code [] 2]) (σ' := ⟨[(0, .int .i64 a0), (1, .int .i64 a1)], []⟩) rfl trivial rfl ?_
  obtain ⟨v3, hk3, h⟩ := bind_some h
  refine Tri.loop (K1 := [.code [(1, 0), (0, 0), (0, 0)] 0]) (K2 := [.blk 0, .code [] 2]) (fun (v1, v2) => ⟨[(0, .int .i64 v1), (1, .int .i64 v2)], []⟩) (fun x e σ' => match x with | v3 => e = .exit 0 ∧ σ' = ⟨[(0, .int .i64 v3)], []⟩) hk3 rfl rfl ?_ ?_
  · intro s x hs
    clear h
    have h := hs
    clear hs
    obtain ⟨v1, v2⟩ := s
    refine Tri.run 1 [] [.keep [0, 1, 6] []] (K' := [.code [(1, 0), (0, 0), (0, 0), (0, 0)] 1, .code [(1, 0), (0, 0), (0, 0)] 1]) (σ' := ⟨[(0, .int .i64 v1), (1, .int .i64 v2), (6, .bool (v2 != (0 : Int)))], []⟩) rfl trivial rfl ?_
    rcases bif_some h with ⟨hd1, h⟩ | ⟨hd1, h⟩
    · obtain ⟨hg2, h⟩ := grd_some h
      refine Tri.run 2 [.g true] [.keep [0, 1] []] (K' := []) (σ' := ⟨[(0, .int .i64 v2), (1, .int .i64 (v1.tmod v2))], []⟩) rfl ⟨hg2, hd1, trivial⟩ rfl ?_
      have h := Option.some.inj h
      subst h
      exact Tri.nil ⟨rfl, rfl⟩
    · refine Tri.run 1 [.g false] [.keep [0] []] (K' := [.code [(1, 0), (0, 0), (0, 0), (0, 0), (1, 1)] 0, .code [(1, 0), (0, 0), (0, 0)] 1]) (σ' := ⟨[(0, .int .i64 v1)], []⟩) rfl ⟨hd1, trivial⟩ rfl ?_
      have h := Option.some.inj h
      subst h
      exact Tri.out 0 rfl ⟨nofun, rfl, rfl⟩
  · intro e σ' hne hq
    obtain ⟨rfl, rfl⟩ := hq
    refine TriX.exit (K' := [.code [] 2]) rfl ?_
    refine Tri.run 1 [] [.keep [4] []] (K' := [.code [] 3]) (σ' := ⟨[(4, .int .i64 (if IntKind.i64.wrap (0 - v3) > v3 then IntKind.i64.wrap (0 - v3) else v3))], []⟩) rfl trivial rfl ?_
    have h := Option.some.inj h
    subst h
    exact Tri.ret rfl ⟨.inl rfl, rfl, rfl⟩
/-! impl.IsValidRat -/
noncomputable def E_impl_IsValidRat : Env := ⟨Try.prog, tys, (Try.f49.body).getD .skip, 19, tysOk, mixedOk⟩
abbrev q_impl_IsValidRat (r : Bool) (σ' : ASt) : Prop := resAV E_impl_IsValidRat.T σ' Try.f49.results.toList = some (.bool r) ∧ keepO σ'.ob (namesO []) = []
noncomputable def m_impl_IsValidRat (a0 : Int) (a1 : Int) : Option Bool :=
(m_impl_within a1 (1 : Int) (1000000000 : Int)).bind fun v1 =>
bif v1 then
((m_impl_within a0 (-1000000000 : Int) (1000000000 : Int)).bind fun v2 =>
bif v2 then
((m_impl_common a0 a1).bind fun v3 =>
some (v3 == (1 : Int)))
else
(some false))
else
(some false)
theorem w_impl_IsValidRat (a0 : Int) (a1 : Int) (r : Bool) (h : m_impl_IsValidRat a0 a1 = some r) : AM.Spec Try.prog 49 [.agg [.int .i64 a0, .int .i64 a1]] [] (.bool r) [] := by
  refine spec_of (E := E_impl_IsValidRat) Try.func49 rfl rfl rfl rfl ?_
  refine Tri.run 1 [] [.keep [1] [1]] (K' := [.code [(1, 0)] 0, .code [] 2]) (σ' := ⟨[(1, .ptr 1 0)], [(1, .box [.int .i64 a0, .int .i64 a1])]⟩) rfl trivial rfl ?_
  obtain ⟨v1, hk1, h⟩ := bind_some h
  rcases bif_some h with ⟨hd2, h⟩ | ⟨hd2, h⟩
  · obtain ⟨v2, hk3, h⟩ := bind_some h
    rcases bif_some h with ⟨hd4, h⟩ | ⟨hd4, h⟩
    · obtain ⟨v3, hk5, h⟩ := bind_some h
      refine Tri.run 1 [.r ⟨[], .bool v1, []⟩, .g true, .r ⟨[], .bool v2, []⟩, .g true, .r ⟨[], .int .i64 v3, []⟩] [.keep [2] []] (K' := [.code [] 2]) (σ' := ⟨[(2, .bool (v3 == (1 : Int)))], []⟩) rfl ⟨(w_impl_common a0 a1 v3 hk5), hd4, (w_impl_within a0 (-1000000000 : Int) (1000000000 : Int) v2 hk3), hd2, (w_impl_within a1 (1 : Int) (1000000000 : Int) v1 hk1), trivial⟩ rfl ?_
      have h := Option.some.inj h
      subst h
      exact Tri.ret rfl ⟨.inl rfl, rfl, rfl⟩
    · refine Tri.run 1 [.r ⟨[], .bool v1, []⟩, .g true, .r ⟨[], .bool v2, []⟩, .g false] [.keep [2] []] (K' := [.code [] 2]) (σ' := ⟨[(2, .bool false)], []⟩) rfl ⟨hd4, (w_impl_within a0 (-1000000000 : Int) (1000000000 : Int) v2 hk3), hd2, (w_impl_within a1 (1 : Int) (1000000000 : Int) v1 hk1), trivial⟩ rfl ?_
      have h := Option.some.inj h
      subst h
      exact Tri.ret rfl ⟨.inl rfl, rfl, rfl⟩
  · refine Tri.run 1 [.r ⟨[], .bool v1, []⟩, .g false, .g false] [.keep [2] []] (K' := [.code [] 2]) (σ' := ⟨[(2, .bool false)], []⟩) rfl ⟨rfl, hd2, (w_impl_within a1 (1 : Int) (1000000000 : Int) v1 hk1), trivial⟩ rfl ?_
    have h := Option.some.inj h
    subst h
    exact Tri.ret rfl ⟨.inl rfl, rfl, rfl⟩
/-! impl.CompareRat -/
noncomputable def E_impl_CompareRat : Env := ⟨Try.prog, tys, (Try.f39.body).getD .skip, 33, tysOk, mixedOk⟩
abbrev q_impl_CompareRat (r : Int) (σ' : ASt) : Prop := resAV E_impl_CompareRat.T σ' Try.f39.results.toList = some (.int .i64 r) ∧ keepO σ'.ob (namesO []) = []
noncomputable def m_impl_CompareRat (a0 : Int) (a1 : Int) (a2 : Int) (a3 : Int) : Option Int :=
(m_impl_IsValidRat a0 a1).bind fun v1 =>
bif !v1 then
(some (0 : Int))
else
((m_impl_IsValidRat a2 a3).bind fun v2 =>
bif !v2 then
(some (0 : Int))
else
(bif decide ((IntKind.i64.wrap (a0 * a3)) < (IntKind.i64.wrap (a2 * a1))) then
(some (-1 : Int))
else
(bif decide ((IntKind.i64.wrap (a0 * a3)) > (IntKind.i64.wrap (a2 * a1))) then
(some (1 : Int))
else
(some (0 : Int)))))
theorem w_impl_CompareRat (a0 : Int) (a1 : Int) (a2 : Int) (a3 : Int) (r : Int) (h : m_impl_CompareRat a0 a1 a2 a3 = some r) : AM.Spec Try.prog 39 [.agg [.int .i64 a0, .int .i64 a1], .agg [.int .i64 a2, .int .i64 a3]] [] (.int .i64 r) [] := by
  refine spec_of (E := E_impl_CompareRat) Try.func39 rfl rfl rfl rfl ?_
  refine Tri.run 1 [] [.keep [2, 3] [2, 3]] (K' := [.code [(1, 0), (0, 0)] 0, .code [(1, 0)] 1, .code [] 2]) (σ' := ⟨[(2, .ptr 2 0), (3, .ptr 3 0)], [(2, .box [.int .i64 a0, .int .i64 a1]), (3, .box [.int .i64 a2, .int .i64 a3])]⟩) rfl trivial rfl ?_
  obtain ⟨v1, hk1, h⟩ := bind_some h
  rcases bif_some h with ⟨hd2, h⟩ | ⟨hd2, h⟩
  · refine Tri.run 1 [.r ⟨[], .bool v1, []⟩, .g true] [.keep [2, 3, 14] [2, 3]] (K' := [.code [(1, 0)] 1, .code [] 2]) (σ' := ⟨[(2, .ptr 2 0), (3, .ptr 3 0), (14, .bool true)], [(2, .box [.int .i64 a0, .int .i64 a1]), (3, .box [.int .i64 a2, .int .i64 a3])]⟩) rfl ⟨hd2, (w_impl_IsValidRat a0 a1 v1 hk1), trivial⟩ rfl ?_
    refine Tri.run 2 [.g true] [.keep [4] []] (K' := [.code [(1, 0), (1, 0)] 1, .code [] 2]) (σ' := ⟨[(4, .int .i64 (0 : Int))], []⟩) rfl ⟨rfl, trivial⟩ rfl ?_
    have h := Option.some.inj h
    subst h
    exact Tri.ret rfl ⟨.inl rfl, rfl, rfl⟩
  · obtain ⟨v2, hk3, h⟩ := bind_some h
    refine Tri.run 1 [.r ⟨[], .bool v1, []⟩, .g false, .r ⟨[], .bool v2, []⟩] [.keep [2, 3, 14] [2, 3]] (K' := [.code [(1, 0)] 1, .code [] 2]) (σ' := ⟨[(2, .ptr 2 0), (3, .ptr 3 0), (14, .bool (!v2))], [(2, .box [.int .i64 a0, .int .i64 a1]), (3, .box [.int .i64 a2, .int .i64 a3])]⟩) rfl ⟨(w_impl_IsValidRat a2 a3 v2 hk3), hd2, (w_impl_IsValidRat a0 a1 v1 hk1), trivial⟩ rfl ?_
    rcases bif_some h with ⟨hd4, h⟩ | ⟨hd4, h⟩
    · refine Tri.run 2 [.g true] [.keep [4] []] (K' := [.code [(1, 0), (1, 0)] 1, .code [] 2]) (σ' := ⟨[(4, .int .i64 (0 : Int))], []⟩) rfl ⟨hd4, trivial⟩ rfl ?_
      have h := Option.some.inj h
      subst h
      exact Tri.ret rfl ⟨.inl rfl, rfl, rfl⟩
    · refine Tri.run 3 [.g false] [.keep [5, 6, 25] []] (K' := [.code [(3, 0), (0, 0)] 1, .blk 0, .code [] 4]) (σ' := ⟨[(5, .int .i64 (IntKind.i64.wrap (a0 * a3))), (6, .int .i64 (IntKind.i64.wrap (a2 * a1))), (25, .bool (decide ((IntKind.i64.wrap (a0 * a3)) < (IntKind.i64.wrap (a2 * a1)))))], []⟩) rfl ⟨hd4, trivial⟩ rfl ?_
      rcases bif_some h with ⟨hd5, h⟩ | ⟨hd5, h⟩
      · refine Tri.run 2 [.g true] [.keep [4] []] (K' := [.code [(3, 0), (0, 0), (1, 0)] 1, .blk 0, .code [] 4]) (σ' := ⟨[(4, .int .i64 (-1 : Int))], []⟩) rfl ⟨hd5, trivial⟩ rfl ?_
        have h := Option.some.inj h
        subst h
        exact Tri.ret rfl ⟨.inl rfl, rfl, rfl⟩
      · refine Tri.run 2 [.g false] [.keep [29] []] (K' := [.code [(3, 0), (0, 0), (1, 1)] 1, .blk 0, .code [] 4]) (σ' := ⟨[(29, .bool (decide ((IntKind.i64.wrap (a0 * a3)) > (IntKind.i64.wrap (a2 * a1)))))], []⟩) rfl ⟨hd5, trivial⟩ rfl ?_
        rcases bif_some h with ⟨hd6, h⟩ | ⟨hd6, h⟩
        · refine Tri.run 2 [.g true] [.keep [4] []] (K' := [.code [(3, 0), (0, 0), (1, 1), (1, 0)] 1, .blk 0, .code [] 4]) (σ' := ⟨[(4, .int .i64 (1 : Int))], []⟩) rfl ⟨hd6, trivial⟩ rfl ?_
          have h := Option.some.inj h
          subst h
          exact Tri.ret rfl ⟨.inl rfl, rfl, rfl⟩
        · refine Tri.run 2 [.g false] [.keep [4] []] (K' := [.code [] 5]) (σ' := ⟨[(4, .int .i64 (0 : Int))], []⟩) rfl ⟨hd6, trivial⟩ rfl ?_
          have h := Option.some.inj h
          subst h
          exact Tri.ret rfl ⟨.inl rfl, rfl, rfl⟩
/-! impl.CompareExcesses -/
noncomputable def E_impl_CompareExcesses : Env := ⟨Try.prog, tys, (Try.f16.body).getD .skip, 43, tysOk, mixedOk⟩
abbrev q_impl_CompareExcesses (r : Int) (σ' : ASt) : Prop := resAV E_impl_CompareExcesses.T σ' Try.f16.results.toList = some (.int .i64 r) ∧ keepO σ'.ob (namesO []) = []
noncomputable def l_impl_CompareExcesses_0 (a0 : List Q) (a1 : List Q) (v1 : Int) : Option (Int ⊕ (Unit ⊕ Int)) :=
bif decide (v1 < (a0.length : Int)) then
(bif decide (v1 < (a1.length : Int)) then
(grd ((0 : Int) ≤ v1 ∧ v1 < (a0.length : Int)) <|
grd ((0 : Int) ≤ v1 ∧ v1 < (a1.length : Int)) <|
(m_impl_CompareRat ((a0.getD v1.toNat ⟨0, 0⟩).num) ((a0.getD v1.toNat ⟨0, 0⟩).den) ((a1.getD v1.toNat ⟨0, 0⟩).num) ((a1.getD v1.toNat ⟨0, 0⟩).den)).bind fun v2 =>
bif v2 != (0 : Int) then
(some (.inr (.inr v2)))
else
(some (.inl (IntKind.i64.wrap (v1 + (1 : Int))))))
else
(some (.inr (.inl ()))))
else
(some (.inr (.inl ())))
noncomputable def m_impl_CompareExcesses (a0 : List Q) (a1 : List Q) : Option Int :=
(iter (l_impl_CompareExcesses_0 a0 a1) (0 : Int)).bind fun
| (.inl _) => (
bif decide ((a0.length : Int) < (a1.length : Int)) then
(some (-1 : Int))
else
(bif decide ((a0.length : Int) > (a1.length : Int)) then
(some (1 : Int))
else
(some (0 : Int))))
| (.inr r) => some r
theorem w_impl_CompareExcesses (a0 : List Q) (a1 : List Q) (r : Int) (h : m_impl_CompareExcesses a0 a1 = some r) : AM.Spec Try.prog 16 [.list (.rats a0), .list (.rats a1)] [] (.int .i64 r) [] := by
  refine spec_of (E := E_impl_CompareExcesses) Try.func16 rfl rfl rfl rfl ?_
  refine Tri.run 2 [] [.keep [0, 1, 5] []] (K' := [.code [(1, 0), (1, 0)] 0, .blk 0, .code [] 2]) (σ' := ⟨[(0, .list (.rats a0)), (1, .list (.rats a1)), (5, .int .i64 (0 : Int))], []⟩) rfl trivial rfl ?_
  obtain ⟨x1, hk7, h⟩ := bind_some h
  refine Tri.loop (K1 := [.code [(1, 0), (1, 0), (0, 0)] 0]) (K2 := [.blk 0, .code [] 2]) (fun v1 => ⟨[(0, .list (.rats a0)), (1, .list (.rats a1)), (5, .int .i64 v1)], []⟩) (fun x e σ' => match x with | (.inl _) => e = .exit 0 ∧ σ' = ⟨[(0, .list (.rats a0)), (1, .list (.rats a1))], []⟩ | (.inr r) => e = .ret ∧ q_impl_CompareExcesses r σ') hk7 rfl rfl ?_ ?_
  · intro v1 x hs
    clear h
    have h := hs
    clear hs
    rcases bif_some h with ⟨hd1, h⟩ | ⟨hd1, h⟩
    · refine Tri.run 1 [.g true] [.keep [0, 1, 5, 16] []] (K' := [.code [(1, 0), (1, 0), (0, 0), (0, 0)] 1, .code [(1, 0), (1, 0), (0, 0)] 1]) (σ' := ⟨[(0, .list (.rats a0)), (1, .list (.rats a1)), (5, .int .i64 v1), (16, .bool (decide (v1 < (a1.length : Int))))], []⟩) rfl ⟨hd1, trivial⟩ rfl ?_
      rcases bif_some h with ⟨hd2, h⟩ | ⟨hd2, h⟩
      · obtain ⟨hg3, h⟩ := grd_some h
        obtain ⟨hg4, h⟩ := grd_some h
        obtain ⟨v2, hk5, h⟩ := bind_some h
        refine Tri.run 3 [.g true, .r ⟨[], .int .i64 v2, []⟩] [.keep [0, 1, 5, 6, 29] []] (K' := [.code [(1, 0), (1, 0), (0, 0), (1, 0), (0, 0)] 2, .blk 1, .code [(1, 0), (1, 0), (0, 0)] 2]) (σ' := ⟨[(0, .list (.rats a0)), (1, .list (.rats a1)), (5, .int .i64 v1), (6, .int .i64 v2), (29, .bool (v2 != (0 : Int)))], []⟩) rfl ⟨(w_impl_CompareRat ((a0.getD v1.toNat ⟨0, 0⟩).num) ((a0.getD v1.toNat ⟨0, 0⟩).den) ((a1.getD v1.toNat ⟨0, 0⟩).num) ((a1.getD v1.toNat ⟨0, 0⟩).den) v2 hk5), hg4, hg3, hd2, trivial⟩ rfl ?_
        rcases bif_some h with ⟨hd6, h⟩ | ⟨hd6, h⟩
        · refine Tri.run 2 [.g true] [.keep [4] []] (K' := [.code [(1, 0), (1, 0), (0, 0), (1, 0), (0, 0), (2, 0)] 1, .blk 1, .code [(1, 0), (1, 0), (0, 0)] 2]) (σ' := ⟨[(4, .int .i64 v2)], []⟩) rfl ⟨hd6, trivial⟩ rfl ?_
          have h := Option.some.inj h
          subst h
          exact Tri.ret rfl ⟨nofun, rfl, rfl, rfl⟩
        · refine Tri.run 2 [.g false] [.keep [0, 1, 5] []] (K' := []) (σ' := ⟨[(0, .list (.rats a0)), (1, .list (.rats a1)), (5, .int .i64 (IntKind.i64.wrap (v1 + (1 : Int))))], []⟩) rfl ⟨hd6, trivial⟩ rfl ?_
          have h := Option.some.inj h
          subst h
          exact Tri.nil ⟨rfl, rfl⟩
      · refine Tri.run 1 [.g false] [.keep [0, 1] []] (K' := [.code [(1, 0), (1, 0), (0, 0), (0, 0), (1, 1)] 0, .code [(1, 0), (1, 0), (0, 0)] 1]) (σ' := ⟨[(0, .list (.rats a0)), (1, .list (.rats a1))], []⟩) rfl ⟨hd2, trivial⟩ rfl ?_
        have h := Option.some.inj h
        subst h
        exact Tri.out 0 rfl ⟨nofun, rfl, rfl⟩
    · refine Tri.run 1 [.g false] [.keep [0, 1, 5, 16] []] (K' := [.code [(1, 0), (1, 0), (0, 0), (0, 0)] 1, .code [(1, 0), (1, 0), (0, 0)] 1]) (σ' := ⟨[(0, .list (.rats a0)), (1, .list (.rats a1)), (5, .int .i64 v1), (16, .bool false)], []⟩) rfl ⟨hd1, trivial⟩ rfl ?_
      refine Tri.run 1 [.g false] [.keep [0, 1] []] (K' := [.code [(1, 0), (1, 0), (0, 0), (0, 0), (1, 1)] 0, .code [(1, 0), (1, 0), (0, 0)] 1]) (σ' := ⟨[(0, .list (.rats a0)), (1, .list (.rats a1))], []⟩) rfl ⟨rfl, trivial⟩ rfl ?_
      have h := Option.some.inj h
      subst h
      exact Tri.out 0 rfl ⟨nofun, rfl, rfl⟩
  · intro e σ' hne hq
    rcases x1 with _ | r
    · obtain ⟨rfl, rfl⟩ := hq
      refine TriX.exit (K' := [.code [] 2]) rfl ?_
      refine Tri.run 1 [] [.keep [0, 1, 31] []] (K' := [.code [(2, 0), (0, 0)] 1, .blk 2, .code [] 3]) (σ' := ⟨[(0, .list (.rats a0)), (1, .list (.rats a1)), (31, .bool (decide ((a0.length : Int) < (a1.length : Int))))], []⟩) rfl trivial rfl ?_
      rcases bif_some h with ⟨hd8, h⟩ | ⟨hd8, h⟩
      · refine Tri.run 2 [.g true] [.keep [4] []] (K' := [.code [(2, 0), (0, 0), (1, 0)] 1, .blk 2, .code [] 3]) (σ' := ⟨[(4, .int .i64 (-1 : Int))], []⟩) rfl ⟨hd8, trivial⟩ rfl ?_
        have h := Option.some.inj h
        subst h
        exact Tri.ret rfl ⟨.inl rfl, rfl, rfl⟩
      · refine Tri.run 2 [.g false] [.keep [37] []] (K' := [.code [(2, 0), (0, 0), (1, 1)] 1, .blk 2, .code [] 3]) (σ' := ⟨[(37, .bool (decide ((a0.length : Int) > (a1.length : Int))))], []⟩) rfl ⟨hd8, trivial⟩ rfl ?_
        rcases bif_some h with ⟨hd9, h⟩ | ⟨hd9, h⟩
        · refine Tri.run 2 [.g true] [.keep [4] []] (K' := [.code [(2, 0), (0, 0), (1, 1), (1, 0)] 1, .blk 2, .code [] 3]) (σ' := ⟨[(4, .int .i64 (1 : Int))], []⟩) rfl ⟨hd9, trivial⟩ rfl ?_
          have h := Option.some.inj h
          subst h
          exact Tri.ret rfl ⟨.inl rfl, rfl, rfl⟩
        · refine Tri.run 2 [.g false] [.keep [4] []] (K' := [.code [] 4]) (σ' := ⟨[(4, .int .i64 (0 : Int))], []⟩) rfl ⟨hd9, trivial⟩ rfl ?_
          have h := Option.some.inj h
          subst h
          exact Tri.ret rfl ⟨.inl rfl, rfl, rfl⟩
    · obtain ⟨rfl, hq⟩ := hq
      have h := Option.some.inj h
      subst h
      exact TriX.ret ⟨.inl rfl, hq⟩
/-! laws.eqRat -/
noncomputable def E_laws_eqRat : Env := ⟨Try.prog, tys, (Try.f40.body).getD .skip, 15, tysOk, mixedOk⟩
abbrev q_laws_eqRat (r : Bool) (σ' : ASt) : Prop := resAV E_laws_eqRat.T σ' Try.f40.results.toList = some (.bool r) ∧ keepO σ'.ob (namesO []) = []
noncomputable def m_laws_eqRat (a0 : Int) (a1 : Int) (a2 : Int) (a3 : Int) : Option Bool :=
bif a0 != a2 then
(some false)
else
(bif a1 != a3 then
(some false)
else
(some true))
theorem w_laws_eqRat (a0 : Int) (a1 : Int) (a2 : Int) (a3 : Int) (r : Bool) (h : m_laws_eqRat a0 a1 a2 a3 = some r) : AM.Spec Try.prog 40 [.agg [.int .i64 a0, .int .i64 a1], .agg [.int .i64 a2, .int .i64 a3]] [] (.bool r) [] := by
  refine spec_of (E := E_laws_eqRat) Try.func40 rfl rfl rfl rfl ?_
  refine Tri.run 2 [] [.keep [2, 3, 9] [2, 3]] (K' := [.code [(1, 0)] 1, .code [] 2]) (σ' := ⟨[(2, .ptr 2 0), (3, .ptr 3 0), (9, .bool (a0 != a2))], [(2, .box [.int .i64 a0, .int .i64 a1]), (3, .box [.int .i64 a2, .int .i64 a3])]⟩) rfl trivial rfl ?_
  rcases bif_some h with ⟨hd1, h⟩ | ⟨hd1, h⟩
  · refine Tri.run 2 [.g true] [.keep [4] []] (K' := [.code [(1, 0), (1, 0)] 1, .code [] 2]) (σ' := ⟨[(4, .bool false)], []⟩) rfl ⟨hd1, trivial⟩ rfl ?_
    have h := Option.some.inj h
    subst h
    exact Tri.ret rfl ⟨.inl rfl, rfl, rfl⟩
  · refine Tri.run 2 [.g false] [.keep [14] []] (K' := [.code [(2, 0)] 1, .code [] 3]) (σ' := ⟨[(14, .bool (a1 != a3))], []⟩) rfl ⟨hd1, trivial⟩ rfl ?_
    rcases bif_some h with ⟨hd2, h⟩ | ⟨hd2, h⟩
    · refine Tri.run 2 [.g true] [.keep [4] []] (K' := [.code [(2, 0), (1, 0)] 1, .code [] 3]) (σ' := ⟨[(4, .bool false)], []⟩) rfl ⟨hd2, trivial⟩ rfl ?_
      have h := Option.some.inj h
      subst h
      exact Tri.ret rfl ⟨.inl rfl, rfl, rfl⟩
    · refine Tri.run 2 [.g false] [.keep [4] []] (K' := [.code [] 4]) (σ' := ⟨[(4, .bool true)], []⟩) rfl ⟨hd2, trivial⟩ rfl ?_
      have h := Option.some.inj h
      subst h
      exact Tri.ret rfl ⟨.inl rfl, rfl, rfl⟩
/-! laws.eqRatS -/
noncomputable def E_laws_eqRatS : Env := ⟨Try.prog, tys, (Try.f17.body).getD .skip, 27, tysOk, mixedOk⟩
abbrev q_laws_eqRatS (r : Bool) (σ' : ASt) : Prop := resAV E_laws_eqRatS.T σ' Try.f17.results.toList = some (.bool r) ∧ keepO σ'.ob (namesO []) = []
noncomputable def l_laws_eqRatS_0 (a0 : List Q) (a1 : List Q) (v1 : Int) : Option (Int ⊕ (Unit ⊕ Bool)) :=
bif decide (v1 < (a0.length : Int)) then
(grd ((0 : Int) ≤ v1 ∧ v1 < (a0.length : Int)) <|
grd ((0 : Int) ≤ v1 ∧ v1 < (a1.length : Int)) <|
(m_laws_eqRat ((a0.getD v1.toNat ⟨0, 0⟩).num) ((a0.getD v1.toNat ⟨0, 0⟩).den) ((a1.getD v1.toNat ⟨0, 0⟩).num) ((a1.getD v1.toNat ⟨0, 0⟩).den)).bind fun v2 =>
bif !v2 then
(some (.inr (.inr false)))
else
(some (.inl (IntKind.i64.wrap (v1 + (1 : Int))))))
else
(some (.inr (.inl ())))
noncomputable def m_laws_eqRatS (a0 : List Q) (a1 : List Q) : Option Bool :=
bif (a0.length : Int) != (a1.length : Int) then
(some false)
else
((iter (l_laws_eqRatS_0 a0 a1) (0 : Int)).bind fun
| (.inl _) => (
some true)
| (.inr r) => some r)
theorem w_laws_eqRatS (a0 : List Q) (a1 : List Q) (r : Bool) (h : m_laws_eqRatS a0 a1 = some r) : AM.Spec Try.prog 17 [.list (.rats a0), .list (.rats a1)] [] (.bool r) [] := by
  refine spec_of (E := E_laws_eqRatS) Try.func17 rfl rfl rfl rfl ?_
  refine Tri.run 2 [] [.keep [0, 1, 10] []] (K' := [.code [(1, 0)] 1, .code [] 2]) (σ' := ⟨[(0, .list (.rats a0)), (1, .list (.rats a1)), (10, .bool ((a0.length : Int) != (a1.length : Int)))], []⟩) rfl trivial rfl ?_
  rcases bif_some h with ⟨hd1, h⟩ | ⟨hd1, h⟩
  · refine Tri.run 2 [.g true] [.keep [4] []] (K' := [.code [(1, 0), (1, 0)] 1, .code [] 2]) (σ' := ⟨[(4, .bool false)], []⟩) rfl ⟨hd1, trivial⟩ rfl ?_
    have h := Option.some.inj h
    subst h
    exact Tri.ret rfl ⟨.inl rfl, rfl, rfl⟩
  · refine Tri.run 2 [.g false] [.keep [0, 1, 5] []] (K' := [.code [(2, 0), (1, 0)] 0, .blk 0, .code [] 3]) (σ' := ⟨[(0, .list (.rats a0)), (1, .list (.rats a1)), (5, .int .i64 (0 : Int))], []⟩) rfl ⟨hd1, trivial⟩ rfl ?_
    obtain ⟨x1, hk7, h⟩ := bind_some h
    refine Tri.loop (K1 := [.code [(2, 0), (1, 0), (0, 0)] 0]) (K2 := [.blk 0, .code [] 3]) (fun v1 => ⟨[(0, .list (.rats a0)), (1, .list (.rats a1)), (5, .int .i64 v1)], []⟩) (fun x e σ' => match x with | (.inl _) => e = .exit 0 ∧ σ' = ⟨[], []⟩ | (.inr r) => e = .ret ∧ q_laws_eqRatS r σ') hk7 rfl rfl ?_ ?_
    · intro v1 x hs
      clear h
      have h := hs
      clear hs
      refine Tri.run 1 [] [.keep [0, 1, 5, 14] []] (K' := [.code [(2, 0), (1, 0), (0, 0), (0, 0)] 1, .code [(2, 0), (1, 0), (0, 0)] 1]) (σ' := ⟨[(0, .list (.rats a0)), (1, .list (.rats a1)), (5, .int .i64 v1), (14, .bool (decide (v1 < (a0.length : Int))))], []⟩) rfl trivial rfl ?_
      rcases bif_some h with ⟨hd2, h⟩ | ⟨hd2, h⟩
      · obtain ⟨hg3, h⟩ := grd_some h
        obtain ⟨hg4, h⟩ := grd_some h
        obtain ⟨v2, hk5, h⟩ := bind_some h
        refine Tri.run 2 [.g true, .r ⟨[], .bool v2, []⟩] [.keep [0, 1, 5, 26] []] (K' := [.code [(2, 0), (1, 0), (0, 0), (1, 0), (0, 0)] 1, .blk 1, .code [(2, 0), (1, 0), (0, 0)] 2]) (σ' := ⟨[(0, .list (.rats a0)), (1, .list (.rats a1)), (5, .int .i64 v1), (26, .bool (!v2))], []⟩) rfl ⟨(w_laws_eqRat ((a0.getD v1.toNat ⟨0, 0⟩).num) ((a0.getD v1.toNat ⟨0, 0⟩).den) ((a1.getD v1.toNat ⟨0, 0⟩).num) ((a1.getD v1.toNat ⟨0, 0⟩).den) v2 hk5), hg4, hg3, hd2, trivial⟩ rfl ?_
        rcases bif_some h with ⟨hd6, h⟩ | ⟨hd6, h⟩
        · refine Tri.run 2 [.g true] [.keep [4] []] (K' := [.code [(2, 0), (1, 0), (0, 0), (1, 0), (0, 0), (1, 0)] 1, .blk 1, .code [(2, 0), (1, 0), (0, 0)] 2]) (σ' := ⟨[(4, .bool false)], []⟩) rfl ⟨hd6, trivial⟩ rfl ?_
          have h := Option.some.inj h
          subst h
          exact Tri.ret rfl ⟨nofun, rfl, rfl, rfl⟩
        · refine Tri.run 2 [.g false] [.keep [0, 1, 5] []] (K' := []) (σ' := ⟨[(0, .list (.rats a0)), (1, .list (.rats a1)), (5, .int .i64 (IntKind.i64.wrap (v1 + (1 : Int))))], []⟩) rfl ⟨hd6, trivial⟩ rfl ?_
          have h := Option.some.inj h
          subst h
          exact Tri.nil ⟨rfl, rfl⟩
      · refine Tri.run 1 [.g false] [.keep [] []] (K' := [.code [(2, 0), (1, 0), (0, 0), (0, 0), (1, 1)] 0, .code [(2, 0), (1, 0), (0, 0)] 1]) (σ' := ⟨[], []⟩) rfl ⟨hd2, trivial⟩ rfl ?_
        have h := Option.some.inj h
        subst h
        exact Tri.out 0 rfl ⟨nofun, rfl, rfl⟩
    · intro e σ' hne hq
      rcases x1 with _ | r
      · obtain ⟨rfl, rfl⟩ := hq
        refine TriX.exit (K' := [.code [] 3]) rfl ?_
        refine Tri.run 1 [] [.keep [4] []] (K' := [.code [] 4]) (σ' := ⟨[(4, .bool true)], []⟩) rfl trivial rfl ?_
        have h := Option.some.inj h
        subst h
        exact Tri.ret rfl ⟨.inl rfl, rfl, rfl⟩
      · obtain ⟨rfl, hq⟩ := hq
        have h := Option.some.inj h
        subst h
        exact TriX.ret ⟨.inl rfl, hq⟩
/-! laws.FnExactCompareExcesses -/
noncomputable def E_laws_FnExactCompareExcesses : Env := ⟨Try.prog, tys, (Try.f4.body).getD .skip, 45, tysOk, mixedOk⟩
abbrev q_laws_FnExactCompareExcesses (r : Bool) (σ' : ASt) : Prop := resAV E_laws_FnExactCompareExcesses.T σ' Try.f4.results.toList = some (.bool r) ∧ keepO σ'.ob (namesO []) = []
noncomputable def m_laws_FnExactCompareExcesses (a0 : List Q) (a1 : List Q) : Option Bool :=
(m_laws_szRatS a0 (1048576 : Int)).bind fun v1 =>
bif decide (v1 < (0 : Int)) then
(some true)
else
((m_laws_szRatS a1 v1).bind fun v2 =>
bif decide (v2 < (0 : Int)) then
(some true)
else
((m_laws_toRatS a0).bind fun v3 =>
(m_laws_toRatS a1).bind fun v4 =>
(m_spec_CompareExcesses v3 v4).bind fun v5 =>
(m_laws_toRatS a0).bind fun v6 =>
(m_laws_toRatS a1).bind fun v7 =>
(m_impl_CompareExcesses v6 v7).bind fun v8 =>
bif v8 != v5 then
(some false)
else
((m_laws_toRatS a0).bind fun v9 =>
(m_laws_eqRatS v6 v9).bind fun v10 =>
bif !v10 then
(some false)
else
((m_laws_toRatS a1).bind fun v11 =>
(m_laws_eqRatS v7 v11).bind fun v12 =>
bif !v12 then
(some false)
else
(some true)))))
theorem w_laws_FnExactCompareExcesses (a0 : List Q) (a1 : List Q) (r : Bool) (h : m_laws_FnExactCompareExcesses a0 a1 = some r) : AM.Spec Try.prog 4 [.list (.rats a0), .list (.rats a1)] [] (.bool r) [] := by
  refine spec_of (E := E_laws_FnExactCompareExcesses) Try.func4 rfl rfl rfl rfl ?_
  refine Tri.run 2 [] [.keep [0, 1, 5] []] (K' := [.code [(2, 0)] 0, .code [] 3]) (σ' := ⟨[(0, .list (.rats a0)), (1, .list (.rats a1)), (5, .int .i64 (1048576 : Int))], []⟩) rfl trivial rfl ?_
  obtain ⟨v1, hk1, h⟩ := bind_some h
  refine Tri.run 2 [.r ⟨[], .int .i64 v1, []⟩] [.keep [0, 1, 5, 14] []] (K' := [.code [(3, 0)] 1, .code [] 4]) (σ' := ⟨[(0, .list (.rats a0)), (1, .list (.rats a1)), (5, .int .i64 v1), (14, .bool (decide (v1 < (0 : Int))))], []⟩) rfl ⟨(w_laws_szRatS a0 (1048576 : Int) v1 hk1), trivial⟩ rfl ?_
  rcases bif_some h with ⟨hd2, h⟩ | ⟨hd2, h⟩
  · refine Tri.run 2 [.g true] [.keep [4] []] (K' := [.code [(3, 0), (1, 0)] 1, .code [] 4]) (σ' := ⟨[(4, .bool true)], []⟩) rfl ⟨hd2, trivial⟩ rfl ?_
    have h := Option.some.inj h
    subst h
    exact Tri.ret rfl ⟨.inl rfl, rfl, rfl⟩
  · obtain ⟨v2, hk3, h⟩ := bind_some h
    refine Tri.run 3 [.g false, .r ⟨[], .int .i64 v2, []⟩] [.keep [0, 1, 19] []] (K' := [.code [(5, 0)] 1, .code [] 6]) (σ' := ⟨[(0, .list (.rats a0)), (1, .list (.rats a1)), (19, .bool (decide (v2 < (0 : Int))))], []⟩) rfl ⟨(w_laws_szRatS a1 v1 v2 hk3), hd2, trivial⟩ rfl ?_
    rcases bif_some h with ⟨hd4, h⟩ | ⟨hd4, h⟩
    · refine Tri.run 2 [.g true] [.keep [4] []] (K' := [.code [(5, 0), (1, 0)] 1, .code [] 6]) (σ' := ⟨[(4, .bool true)], []⟩) rfl ⟨hd4, trivial⟩ rfl ?_
      have h := Option.some.inj h
      subst h
      exact Tri.ret rfl ⟨.inl rfl, rfl, rfl⟩
    · obtain ⟨v3, hk5, h⟩ := bind_some h
      obtain ⟨v4, hk6, h⟩ := bind_some h
      obtain ⟨v5, hk7, h⟩ := bind_some h
      refine Tri.run 2 [.g false, .r ⟨[], .sl 1100 0, [(1100, .arr 53 0 0 (.rats v3))]⟩, .r ⟨[], .sl 1101 0, [(1101, .arr 53 0 0 (.rats v4))]⟩, .r ⟨[], .int .i64 v5, []⟩] [.keep [0, 1, 6] []] (K' := [.code [(7, 0)] 0, .code [] 8]) (σ' := ⟨[(0, .list (.rats a0)), (1, .list (.rats a1)), (6, .int .i64 v5)], []⟩) rfl ⟨(w_spec_CompareExcesses v3 v4 v5 hk7), ((w_laws_toRatS a1 v4 hk6).swap 1000 1101), ((w_laws_toRatS a0 v3 hk5).swap 1000 1100), hd4, trivial⟩ rfl ?_
      obtain ⟨v6, hk8, h⟩ := bind_some h
      obtain ⟨v7, hk9, h⟩ := bind_some h
      refine Tri.run 2 [.r ⟨[], .sl 1102 0, [(1102, .arr 53 0 0 (.rats v6))]⟩, .r ⟨[], .sl 1103 0, [(1103, .arr 53 0 0 (.rats v7))]⟩] [.keep [0, 1, 6, 7, 8] [1102, 1103]] (K' := [.code [(9, 0)] 0, .code [] 10]) (σ' := ⟨[(0, .list (.rats a0)), (1, .list (.rats a1)), (6, .int .i64 v5), (7, .sl 1102 0), (8, .sl 1103 0)], [(1102, .arr 53 0 0 (.rats v6)), (1103, .arr 53 0 0 (.rats v7))]⟩) rfl ⟨((w_laws_toRatS a1 v7 hk9).swap 1000 1103), ((w_laws_toRatS a0 v6 hk8).swap 1000 1102), trivial⟩ rfl ?_
      obtain ⟨v8, hk10, h⟩ := bind_some h
      refine Tri.run 2 [.r ⟨[], .int .i64 v8, []⟩] [.keep [0, 1, 7, 8, 34] [1102, 1103]] (K' := [.code [(10, 0)] 1, .code [] 11]) (σ' := ⟨[(0, .list (.rats a0)), (1, .list (.rats a1)), (7, .sl 1102 0), (8, .sl 1103 0), (34, .bool (v8 != v5))], [(1102, .arr 53 0 0 (.rats v6)), (1103, .arr 53 0 0 (.rats v7))]⟩) rfl ⟨(w_impl_CompareExcesses v6 v7 v8 hk10), trivial⟩ rfl ?_
      rcases bif_some h with ⟨hd11, h⟩ | ⟨hd11, h⟩
      · refine Tri.run 2 [.g true] [.keep [4] []] (K' := [.code [(10, 0), (1, 0)] 1, .code [] 11]) (σ' := ⟨[(4, .bool false)], []⟩) rfl ⟨hd11, trivial⟩ rfl ?_
        have h := Option.some.inj h
        subst h
        exact Tri.ret rfl ⟨.inl rfl, rfl, rfl⟩
      · obtain ⟨v9, hk12, h⟩ := bind_some h
        obtain ⟨v10, hk13, h⟩ := bind_some h
        refine Tri.run 2 [.g false, .r ⟨[], .sl 1104 0, [(1104, .arr 53 0 0 (.rats v9))]⟩, .r ⟨[], .bool v10, []⟩] [.keep [1, 8, 39] [1103]] (K' := [.code [(11, 0)] 1, .code [] 12]) (σ' := ⟨[(1, .list (.rats a1)), (8, .sl 1103 0), (39, .bool (!v10))], [(1103, .arr 53 0 0 (.rats v7))]⟩) rfl ⟨(w_laws_eqRatS v6 v9 v10 hk13), ((w_laws_toRatS a0 v9 hk12).swap 1000 1104), hd11, trivial⟩ rfl ?_
        rcases bif_some h with ⟨hd14, h⟩ | ⟨hd14, h⟩
        · refine Tri.run 2 [.g true] [.keep [4] []] (K' := [.code [(11, 0), (1, 0)] 1, .code [] 12]) (σ' := ⟨[(4, .bool false)], []⟩) rfl ⟨hd14, trivial⟩ rfl ?_
          have h := Option.some.inj h
          subst h
          exact Tri.ret rfl ⟨.inl rfl, rfl, rfl⟩
        · obtain ⟨v11, hk15, h⟩ := bind_some h
          obtain ⟨v12, hk16, h⟩ := bind_some h
          refine Tri.run 2 [.g false, .r ⟨[], .sl 1105 0, [(1105, .arr 53 0 0 (.rats v11))]⟩, .r ⟨[], .bool v12, []⟩] [.keep [44] []] (K' := [.code [(12, 0)] 1, .code [] 13]) (σ' := ⟨[(44, .bool (!v12))], []⟩) rfl ⟨(w_laws_eqRatS v7 v11 v12 hk16), ((w_laws_toRatS a1 v11 hk15).swap 1000 1105), hd14, trivial⟩ rfl ?_
          rcases bif_some h with ⟨hd17, h⟩ | ⟨hd17, h⟩
          · refine Tri.run 2 [.g true] [.keep [4] []] (K' := [.code [(12, 0), (1, 0)] 1, .code [] 13]) (σ' := ⟨[(4, .bool false)], []⟩) rfl ⟨hd17, trivial⟩ rfl ?_
            have h := Option.some.inj h
            subst h
            exact Tri.ret rfl ⟨.inl rfl, rfl, rfl⟩
          · refine Tri.run 2 [.g false] [.keep [4] []] (K' := [.code [] 14]) (σ' := ⟨[(4, .bool true)], []⟩) rfl ⟨hd17, trivial⟩ rfl ?_
            have h := Option.some.inj h
            subst h
            exact Tri.ret rfl ⟨.inl rfl, rfl, rfl⟩
/-! spec.NullPlayers -/
noncomputable def E_spec_NullPlayers : Env := ⟨Try.prog, tys, (Try.f18.body).getD .skip, 53, tysOk, mixedOk⟩
abbrev q_spec_NullPlayers (r : List Int) (σ' : ASt) : Prop := resAV E_spec_NullPlayers.T σ' Try.f18.results.toList = some (.sl 1000 0) ∧ keepO σ'.ob (namesO [(1000, .arr 3 0 0 (.ints r))]) = [(1000, .arr 3 0 0 (.ints r))]
noncomputable def l_spec_NullPlayers_1 (a1 : List Int) (v1 : Int) : (Bool × Int) → Option ((Bool × Int) ⊕ Bool)
  | (v4, v5) => (
bif decide (v5 < (a1.length : Int)) then
(bif v4 then
((m_spec_HasPlayer v5 v1).bind fun v6 =>
bif v6 then
(some (.inl (true, IntKind.i64.wrap (v5 + (1 : Int)))))
else
(grd ((0 : Int) ≤ v5 ∧ v5 < (a1.length : Int)) <|
(m_spec_l2Bit v1).bind fun v7 =>
grd ((0 : Int) ≤ IntKind.i64.wrap (v5 + v7) ∧ IntKind.i64.wrap (v5 + v7) < (a1.length : Int)) <|
some (.inl ((a1.getD v5.toNat 0) == (a1.getD ((IntKind.i64.wrap (v5 + v7)).toNat) 0), IntKind.i64.wrap (v5 + (1 : Int))))))
else
(some (.inl (false, IntKind.i64.wrap (v5 + (1 : Int))))))
else
(some (.inr v4)))
noncomputable def l_spec_NullPlayers_0 (a0 : Int) (a1 : List Int) : (Int × (List Int)) → Option ((Int × (List Int)) ⊕ ((List Int)))
  | (v1, v2) => (
bif decide (v1 < a0) then
((m_spec_IsValidGame a0 a1).bind fun v3 =>
bif v3 then
((iter (l_spec_NullPlayers_1 a1 v1) (true, (0 : Int))).bind fun
| v8 => (
bif v8 then
(grd (v2.length + [v1].length ≤ room) <|
some (.inl (IntKind.i64.wrap (v1 + (1 : Int)), v2 ++ [v1])))
else
(some (.inl (IntKind.i64.wrap (v1 + (1 : Int)), v2)))))
else
(some (.inr v2)))
else
(some (.inr v2)))
noncomputable def m_spec_NullPlayers (a0 : Int) (a1 : List Int) : Option (List Int) :=
(iter (l_spec_NullPlayers_0 a0 a1) ((0 : Int), [])).bind fun
| v9 => (
some v9)
theorem w_spec_NullPlayers (a0 : Int) (a1 : List Int) (r : List Int) (h : m_spec_NullPlayers a0 a1 = some r) : AM.Spec Try.prog 18 [.agg [.int .i64 a0, .list (.ints a1)]] [] (.sl 1000 0) [(1000, .arr 3 0 0 (.ints r))] := by
  refine spec_of (E := E_spec_NullPlayers) Try.func18 rfl rfl rfl rfl ?_
  refine Tri.run 3 [] [.keep [1, 3, 4] [1, 7]] (K' := [.code [(2, 0), (1, 0)] 0, .blk 0, .code [] 3]) (σ' := ⟨[(1, .ptr 1 0), (3, .sl 7 0), (4, .int .i64 (0 : Int))], [(1, .box [.int .i64 a0, .list (.ints a1)]), (7, .arr 3 0 0 (.ints []))]⟩) rfl trivial rfl ?_
  obtain ⟨v9, hk14, h⟩ := bind_some h
  refine Tri.loop (K1 := [.code [(2, 0), (1, 0), (0, 0)] 0]) (K2 := [.blk 0, .code [] 3]) (fun (v1, v2) => ⟨[(1, .ptr 1 0), (3, .sl 7 0), (4, .int .i64 v1)], [(1, .box [.int .i64 a0, .list (.ints a1)]), (7, .arr 3 0 0 (.ints v2))]⟩) (fun x e σ' => match x with | v9 => e = .exit 0 ∧ σ' = ⟨[(3, .sl 7 0)], [(7, .arr 3 0 0 (.ints v9))]⟩) hk14 rfl rfl ?_ ?_
  · intro s x hs
    clear h
    have h := hs
    clear hs
    obtain ⟨v1, v2⟩ := s
    rcases bif_some h with ⟨hd1, h⟩ | ⟨hd1, h⟩
    · obtain ⟨v3, hk2, h⟩ := bind_some h
      refine Tri.run 1 [.g true, .r ⟨[], .bool v3, []⟩] [.keep [1, 3, 4, 15] [1, 7]] (K' := [.code [(2, 0), (1, 0), (0, 0), (0, 0)] 1, .code [(2, 0), (1, 0), (0, 0)] 1]) (σ' := ⟨[(1, .ptr 1 0), (3, .sl 7 0), (4, .int .i64 v1), (15, .bool v3)], [(1, .box [.int .i64 a0, .list (.ints a1)]), (7, .arr 3 0 0 (.ints v2))]⟩) rfl ⟨(w_spec_IsValidGame a0 a1 v3 hk2), hd1, trivial⟩ rfl ?_
      rcases bif_some h with ⟨hd3, h⟩ | ⟨hd3, h⟩
      · refine Tri.run 3 [.g true] [.keep [1, 3, 4, 5, 6] [1, 7]] (K' := [.code [(2, 0), (1, 0), (0, 0), (1, 0), (0, 0), (1, 0), (1, 0)] 0, .blk 2, .code [(2, 0), (1, 0), (0, 0), (1, 0), (0, 0)] 2, .blk 1, .code [(2, 0), (1, 0), (0, 0)] 2]) (σ' := ⟨[(1, .ptr 1 0), (3, .sl 7 0), (4, .int .i64 v1), (5, .bool true), (6, .int .i64 (0 : Int))], [(1, .box [.int .i64 a0, .list (.ints a1)]), (7, .arr 3 0 0 (.ints v2))]⟩) rfl ⟨hd3, trivial⟩ rfl ?_
        obtain ⟨v8, hk11, h⟩ := bind_some h
        refine Tri.loop (K1 := [.code [(2, 0), (1, 0), (0, 0), (1, 0), (0, 0), (1, 0), (1, 0), (0, 0)] 0]) (K2 := [.blk 2, .code [(2, 0), (1, 0), (0, 0), (1, 0), (0, 0)] 2, .blk 1, .code [(2, 0), (1, 0), (0, 0)] 2]) (fun (v4, v5) => ⟨[(1, .ptr 1 0), (3, .sl 7 0), (4, .int .i64 v1), (5, .bool v4), (6, .int .i64 v5)], [(1, .box [.int .i64 a0, .list (.ints a1)]), (7, .arr 3 0 0 (.ints v2))]⟩) (fun x e σ' => match x with | v8 => e = .exit 2 ∧ σ' = ⟨[(1, .ptr 1 0), (3, .sl 7 0), (4, .int .i64 v1), (5, .bool v8)], [(1, .box [.int .i64 a0, .list (.ints a1)]), (7, .arr 3 0 0 (.ints v2))]⟩) hk11 rfl rfl ?_ ?_
        · intro s x hs
          clear h
          have h := hs
          clear hs
          obtain ⟨v4, v5⟩ := s
          refine Tri.run 1 [] [.keep [1, 3, 4, 5, 6, 22] [1, 7]] (K' := [.code [(2, 0), (1, 0), (0, 0), (1, 0), (0, 0), (1, 0), (1, 0), (0, 0), (0, 0)] 1, .code [(2, 0), (1, 0), (0, 0), (1, 0), (0, 0), (1, 0), (1, 0), (0, 0)] 1]) (σ' := ⟨[(1, .ptr 1 0), (3, .sl 7 0), (4, .int .i64 v1), (5, .bool v4), (6, .int .i64 v5), (22, .bool (decide (v5 < (a1.length : Int))))], [(1, .box [.int .i64 a0, .list (.ints a1)]), (7, .arr 3 0 0 (.ints v2))]⟩) rfl trivial rfl ?_
          rcases bif_some h with ⟨hd4, h⟩ | ⟨hd4, h⟩
          · rcases bif_some h with ⟨hd5, h⟩ | ⟨hd5, h⟩
            · obtain ⟨v6, hk6, h⟩ := bind_some h
              rcases bif_some h with ⟨hd7, h⟩ | ⟨hd7, h⟩
              · refine Tri.run 3 [.g true, .g true, .r ⟨[], .bool v6, []⟩, .g true] [.keep [1, 3, 4, 5, 6] [1, 7]] (K' := []) (σ' := ⟨[(1, .ptr 1 0), (3, .sl 7 0), (4, .int .i64 v1), (5, .bool true), (6, .int .i64 (IntKind.i64.wrap (v5 + (1 : Int))))], [(1, .box [.int .i64 a0, .list (.ints a1)]), (7, .arr 3 0 0 (.ints v2))]⟩) rfl ⟨hd7, (w_spec_HasPlayer v5 v1 v6 hk6), hd5, hd4, trivial⟩ rfl ?_
                have h := Option.some.inj h
                subst h
                exact Tri.nil ⟨rfl, rfl⟩
              · obtain ⟨hg8, h⟩ := grd_some h
                obtain ⟨v7, hk9, h⟩ := bind_some h
                obtain ⟨hg10, h⟩ := grd_some h
                refine Tri.run 3 [.g true, .g true, .r ⟨[], .bool v6, []⟩, .g false, .r ⟨[], .int .i64 v7, []⟩] [.keep [1, 3, 4, 5, 6] [1, 7]] (K' := []) (σ' := ⟨[(1, .ptr 1 0), (3, .sl 7 0), (4, .int .i64 v1), (5, .bool ((a1.getD v5.toNat 0) == (a1.getD ((IntKind.i64.wrap (v5 + v7)).toNat) 0))), (6, .int .i64 (IntKind.i64.wrap (v5 + (1 : Int))))], [(1, .box [.int .i64 a0, .list (.ints a1)]), (7, .arr 3 0 0 (.ints v2))]⟩) rfl ⟨hg10, (w_spec_l2Bit v1 v7 hk9), hg8, hd7, (w_spec_HasPlayer v5 v1 v6 hk6), hd5, hd4, trivial⟩ rfl ?_
                have h := Option.some.inj h
                subst h
                exact Tri.nil ⟨rfl, rfl⟩
            · refine Tri.run 3 [.g true, .g false] [.keep [1, 3, 4, 5, 6] [1, 7]] (K' := []) (σ' := ⟨[(1, .ptr 1 0), (3, .sl 7 0), (4, .int .i64 v1), (5, .bool false), (6, .int .i64 (IntKind.i64.wrap (v5 + (1 : Int))))], [(1, .box [.int .i64 a0, .list (.ints a1)]), (7, .arr 3 0 0 (.ints v2))]⟩) rfl ⟨hd5, hd4, trivial⟩ rfl ?_
              have h := Option.some.inj h
              subst h
              exact Tri.nil ⟨rfl, rfl⟩
          · refine Tri.run 1 [.g false] [.keep [1, 3, 4, 5] [1, 7]] (K' := [.code [(2, 0), (1, 0), (0, 0), (1, 0), (0, 0), (1, 0), (1, 0), (0, 0), (0, 0), (1, 1)] 0, .code [(2, 0), (1, 0), (0, 0), (1, 0), (0, 0), (1, 0), (1, 0), (0, 0)] 1]) (σ' := ⟨[(1, .ptr 1 0), (3, .sl 7 0), (4, .int .i64 v1), (5, .bool v4)], [(1, .box [.int .i64 a0, .list (.ints a1)]), (7, .arr 3 0 0 (.ints v2))]⟩) rfl ⟨hd4, trivial⟩ rfl ?_
            have h := Option.some.inj h
            subst h
            exact Tri.out 2 rfl ⟨nofun, rfl, rfl⟩
        · intro e σ' hne hq
          obtain ⟨rfl, rfl⟩ := hq
          refine TriX.exit (K' := [.code [(2, 0), (1, 0), (0, 0), (1, 0), (0, 0)] 2, .blk 1, .code [(2, 0), (1, 0), (0, 0)] 2]) rfl ?_
          refine Tri.run 1 [] [.keep [1, 3, 4, 47] [1, 7]] (K' := [.code [(2, 0), (1, 0), (0, 0), (1, 0), (0, 0)] 3, .blk 1, .code [(2, 0), (1, 0), (0, 0)] 2]) (σ' := ⟨[(1, .ptr 1 0), (3, .sl 7 0), (4, .int .i64 v1), (47, .bool v8)], [(1, .box [.int .i64 a0, .list (.ints a1)]), (7, .arr 3 0 0 (.ints v2))]⟩) rfl trivial rfl ?_
          rcases bif_some h with ⟨hd12, h⟩ | ⟨hd12, h⟩
          · obtain ⟨hg13, h⟩ := grd_some h
            refine Tri.run 3 [.g true] [.rever 7, .keep [1, 3, 4] [1, 7]] (K' := []) (σ' := ⟨[(1, .ptr 1 0), (3, .sl 7 0), (4, .int .i64 (IntKind.i64.wrap (v1 + (1 : Int))))], [(1, .box [.int .i64 a0, .list (.ints a1)]), (7, .arr 3 0 0 (.ints (v2 ++ [v1])))]⟩) rfl ⟨hg13, hd12, trivial⟩ rfl ?_
            have h := Option.some.inj h
            subst h
            exact Tri.nil ⟨rfl, rfl⟩
          · refine Tri.run 2 [.g false] [.keep [1, 3, 4] [1, 7]] (K' := []) (σ' := ⟨[(1, .ptr 1 0), (3, .sl 7 0), (4, .int .i64 (IntKind.i64.wrap (v1 + (1 : Int))))], [(1, .box [.int .i64 a0, .list (.ints a1)]), (7, .arr 3 0 0 (.ints v2))]⟩) rfl ⟨hd12, trivial⟩ rfl ?_
            have h := Option.some.inj h
            subst h
            exact Tri.nil ⟨rfl, rfl⟩
      · refine Tri.run 1 [.g false] [.keep [3] [7]] (K' := [.code [(2, 0), (1, 0), (0, 0), (0, 0), (1, 1)] 0, .code [(2, 0), (1, 0), (0, 0)] 1]) (σ' := ⟨[(3, .sl 7 0)], [(7, .arr 3 0 0 (.ints v2))]⟩) rfl ⟨hd3, trivial⟩ rfl ?_
        have h := Option.some.inj h
        subst h
        exact Tri.out 0 rfl ⟨nofun, rfl, rfl⟩
    · refine Tri.run 1 [.g false] [.keep [1, 3, 4, 15] [1, 7]] (K' := [.code [(2, 0), (1, 0), (0, 0), (0, 0)] 1, .code [(2, 0), (1, 0), (0, 0)] 1]) (σ' := ⟨[(1, .ptr 1 0), (3, .sl 7 0), (4, .int .i64 v1), (15, .bool false)], [(1, .box [.int .i64 a0, .list (.ints a1)]), (7, .arr 3 0 0 (.ints v2))]⟩) rfl ⟨hd1, trivial⟩ rfl ?_
      refine Tri.run 1 [.g false] [.keep [3] [7]] (K' := [.code [(2, 0), (1, 0), (0, 0), (0, 0), (1, 1)] 0, .code [(2, 0), (1, 0), (0, 0)] 1]) (σ' := ⟨[(3, .sl 7 0)], [(7, .arr 3 0 0 (.ints v2))]⟩) rfl ⟨rfl, trivial⟩ rfl ?_
      have h := Option.some.inj h
      subst h
      exact Tri.out 0 rfl ⟨nofun, rfl, rfl⟩
  · intro e σ' hne hq
    obtain ⟨rfl, rfl⟩ := hq
    refine TriX.exit (K' := [.code [] 3]) rfl ?_
    refine Tri.run 1 [] [.swap 7 1000, .keep [2] [1000]] (K' := [.code [] 4]) (σ' := ⟨[(2, .sl 1000 0)], [(1000, .arr 3 0 0 (.ints v9))]⟩) rfl trivial rfl ?_
    have h := Option.some.inj h
    subst h
    exact Tri.ret rfl ⟨.inl rfl, rfl, rfl⟩
/-! impl.NullPlayers -/
noncomputable def E_impl_NullPlayers : Env := ⟨Try.prog, tys, (Try.f19.body).getD .skip, 46, tysOk, mixedOk⟩
abbrev q_impl_NullPlayers (r : List Int) (σ' : ASt) : Prop := resAV E_impl_NullPlayers.T σ' Try.f19.results.toList = some (.sl 1000 0) ∧ keepO σ'.ob (namesO [(1000, .arr 3 0 0 (.ints r))]) = [(1000, .arr 3 0 0 (.ints r))]
noncomputable def l_impl_NullPlayers_1 (a1 : List Int) (v2 : Int) : (Bool × Int) → Option ((Bool × Int) ⊕ Bool)
  | (v4, v5) => (
bif decide (v5 < (a1.length : Int)) then
(grd ((0 : Int) ≤ v5 ∧ v5 < (a1.length : Int)) <|
bif v4 then
(grd ((0 : Int) ≤ v2) <|
grd ((0 : Int) ≤ bitsOf .or .i64 v5 (IntKind.i64.wrap ((1 : Int) * 2 ^ (min v2.toNat 64))) ∧ bitsOf .or .i64 v5 (IntKind.i64.wrap ((1 : Int) * 2 ^ (min v2.toNat 64))) < (a1.length : Int)) <|
some (.inl ((a1.getD v5.toNat 0) == (a1.getD ((bitsOf .or .i64 v5 (IntKind.i64.wrap ((1 : Int) * 2 ^ (min v2.toNat 64)))).toNat) 0), IntKind.i64.wrap (v5 + (1 : Int)))))
else
(some (.inl (false, IntKind.i64.wrap (v5 + (1 : Int))))))
else
(some (.inr v4)))
noncomputable def l_impl_NullPlayers_0 (a0 : Int) (a1 : List Int) : (Int × (List Int)) → Option ((Int × (List Int)) ⊕ ((List Int)))
  | (v2, v3) => (
bif decide (v2 < a0) then
((iter (l_impl_NullPlayers_1 a1 v2) (true, (0 : Int))).bind fun
| v6 => (
bif v6 then
(grd (v3.length + [v2].length ≤ room) <|
some (.inl (IntKind.i64.wrap (v2 + (1 : Int)), v3 ++ [v2])))
else
(some (.inl (IntKind.i64.wrap (v2 + (1 : Int)), v3)))))
else
(some (.inr v3)))
noncomputable def m_impl_NullPlayers (a0 : Int) (a1 : List Int) : Option (List Int) :=
(m_impl_IsValidGame a0 a1).bind fun v1 =>
bif !v1 then
(some [])
else
((iter (l_impl_NullPlayers_0 a0 a1) ((0 : Int), [])).bind fun
| v7 => (
some v7))
theorem w_impl_NullPlayers (a0 : Int) (a1 : List Int) (r : List Int) (h : m_impl_NullPlayers a0 a1 = some r) : AM.Spec Try.prog 19 [.agg [.int .i64 a0, .list (.ints a1)]] [] (.sl 1000 0) [(1000, .arr 3 0 0 (.ints r))] := by
  refine spec_of (E := E_impl_NullPlayers) Try.func19 rfl rfl rfl rfl ?_
  refine Tri.run 1 [] [.keep [1] [1]] (K' := [.code [(1, 0), (0, 0)] 0, .code [(1, 0)] 1, .code [] 2]) (σ' := ⟨[(1, .ptr 1 0)], [(1, .box [.int .i64 a0, .list (.ints a1)])]⟩) rfl trivial rfl ?_
  obtain ⟨v1, hk1, h⟩ := bind_some h
  refine Tri.run 1 [.r ⟨[], .bool v1, []⟩] [.keep [1, 10] [1]] (K' := [.code [(1, 0)] 1, .code [] 2]) (σ' := ⟨[(1, .ptr 1 0), (10, .bool (!v1))], [(1, .box [.int .i64 a0, .list (.ints a1)])]⟩) rfl ⟨(w_impl_IsValidGame a0 a1 v1 hk1), trivial⟩ rfl ?_
  rcases bif_some h with ⟨hd2, h⟩ | ⟨hd2, h⟩
  · refine Tri.run 2 [.g true] [.own 2 [] 1100 3, .swap 1100 1000, .keep [2] [1000]] (K' := [.code [(1, 0), (1, 0)] 1, .code [] 2]) (σ' := ⟨[(2, .sl 1000 0)], [(1000, .arr 3 0 0 (.ints []))]⟩) rfl ⟨hd2, trivial⟩ rfl ?_
    have h := Option.some.inj h
    subst h
    exact Tri.ret rfl ⟨.inl rfl, rfl, rfl⟩
  · refine Tri.run 3 [.g false] [.keep [1, 3, 13, 14] [1, 11]] (K' := [.code [(3, 0), (1, 0)] 0, .blk 0, .code [] 4]) (σ' := ⟨[(1, .ptr 1 0), (3, .sl 11 0), (13, .int .i64 a0), (14, .int .i64 (0 : Int))], [(1, .box [.int .i64 a0, .list (.ints a1)]), (11, .arr 3 0 0 (.ints []))]⟩) rfl ⟨hd2, trivial⟩ rfl ?_
    obtain ⟨v7, hk12, h⟩ := bind_some h
    refine Tri.loop (K1 := [.code [(3, 0), (1, 0), (0, 0)] 0]) (K2 := [.blk 0, .code [] 4]) (fun (v2, v3) => ⟨[(1, .ptr 1 0), (3, .sl 11 0), (13, .int .i64 a0), (14, .int .i64 v2)], [(1, .box [.int .i64 a0, .list (.ints a1)]), (11, .arr 3 0 0 (.ints v3))]⟩) (fun x e σ' => match x with | v7 => e = .exit 0 ∧ σ' = ⟨[(3, .sl 11 0)], [(11, .arr 3 0 0 (.ints v7))]⟩) hk12 rfl rfl ?_ ?_
    · intro s x hs
      clear h
      have h := hs
      clear hs
      obtain ⟨v2, v3⟩ := s
      refine Tri.run 1 [] [.keep [1, 3, 13, 14, 15] [1, 11]] (K' := [.code [(3, 0), (1, 0), (0, 0), (1, 0)] 0, .code [(3, 0), (1, 0), (0, 0)] 2]) (σ' := ⟨[(1, .ptr 1 0), (3, .sl 11 0), (13, .int .i64 a0), (14, .int .i64 v2), (15, .bool (decide (v2 < a0)))], [(1, .box [.int .i64 a0, .list (.ints a1)]), (11, .arr 3 0 0 (.ints v3))]⟩) rfl trivial rfl ?_
      rcases bif_some h with ⟨hd3, h⟩ | ⟨hd3, h⟩
      · refine Tri.run 3 [.g true] [.keep [1, 3, 4, 5, 13, 14] [1, 11]] (K' := [.code [(3, 0), (1, 0), (0, 0), (2, 0), (0, 0), (2, 0), (0, 0)] 0, .code [(3, 0), (1, 0), (0, 0), (2, 0), (0, 0), (2, 0)] 1, .code [(3, 0), (1, 0), (0, 0), (2, 0), (0, 0)] 3, .blk 1, .code [(3, 0), (1, 0), (0, 0)] 3]) (σ' := ⟨[(1, .ptr 1 0), (3, .sl 11 0), (4, .int .i64 v2), (5, .bool true), (13, .int .i64 a0), (14, .int .i64 v2)], [(1, .box [.int .i64 a0, .list (.ints a1)]), (11, .arr 3 0 0 (.ints v3))]⟩) rfl ⟨hd3, trivial⟩ rfl ?_
        refine Tri.run 1 [] [.keep [1, 3, 4, 5, 13, 14, 18, 19, 20] [1, 11]] (K' := [.code [(3, 0), (1, 0), (0, 0), (2, 0), (0, 0), (2, 0), (1, 0)] 0, .blk 2, .code [(3, 0), (1, 0), (0, 0), (2, 0), (0, 0)] 3, .blk 1, .code [(3, 0), (1, 0), (0, 0)] 3]) (σ' := ⟨[(1, .ptr 1 0), (3, .sl 11 0), (4, .int .i64 v2), (5, .bool true), (13, .int .i64 a0), (14, .int .i64 v2), (18, .list (.ints a1)), (19, .int .i64 (a1.length : Int)), (20, .int .i64 (0 : Int))], [(1, .box [.int .i64 a0, .list (.ints a1)]), (11, .arr 3 0 0 (.ints v3))]⟩) rfl trivial rfl ?_
        obtain ⟨v6, hk9, h⟩ := bind_some h
        refine Tri.loop (K1 := [.code [(3, 0), (1, 0), (0, 0), (2, 0), (0, 0), (2, 0), (1, 0), (0, 0)] 0]) (K2 := [.blk 2, .code [(3, 0), (1, 0), (0, 0), (2, 0), (0, 0)] 3, .blk 1, .code [(3, 0), (1, 0), (0, 0)] 3]) (fun (v4, v5) => ⟨[(1, .ptr 1 0), (3, .sl 11 0), (4, .int .i64 v2), (5, .bool v4), (13, .int .i64 a0), (14, .int .i64 v2), (18, .list (.ints a1)), (19, .int .i64 (a1.length : Int)), (20, .int .i64 v5)], [(1, .box [.int .i64 a0, .list (.ints a1)]), (11, .arr 3 0 0 (.ints v3))]⟩) (fun x e σ' => match x with | v6 => e = .exit 2 ∧ σ' = ⟨[(1, .ptr 1 0), (3, .sl 11 0), (4, .int .i64 v2), (5, .bool v6), (13, .int .i64 a0), (14, .int .i64 v2)], [(1, .box [.int .i64 a0, .list (.ints a1)]), (11, .arr 3 0 0 (.ints v3))]⟩) hk9 rfl rfl ?_ ?_
        · intro s x hs
          clear h
          have h := hs
          clear hs
          obtain ⟨v4, v5⟩ := s
          refine Tri.run 1 [] [.keep [1, 3, 4, 5, 13, 14, 18, 19, 20, 21] [1, 11]] (K' := [.code [(3, 0), (1, 0), (0, 0), (2, 0), (0, 0), (2, 0), (1, 0), (0, 0), (1, 0)] 0, .code [(3, 0), (1, 0), (0, 0), (2, 0), (0, 0), (2, 0), (1, 0), (0, 0)] 2]) (σ' := ⟨[(1, .ptr 1 0), (3, .sl 11 0), (4, .int .i64 v2), (5, .bool v4), (13, .int .i64 a0), (14, .int .i64 v2), (18, .list (.ints a1)), (19, .int .i64 (a1.length : Int)), (20, .int .i64 v5), (21, .bool (decide (v5 < (a1.length : Int))))], [(1, .box [.int .i64 a0, .list (.ints a1)]), (11, .arr 3 0 0 (.ints v3))]⟩) rfl trivial rfl ?_
          rcases bif_some h with ⟨hd4, h⟩ | ⟨hd4, h⟩
          · obtain ⟨hg5, h⟩ := grd_some h
            refine Tri.run 2 [.g true] [.keep [1, 3, 4, 5, 6, 7, 13, 14, 18, 19, 20] [1, 11]] (K' := [.code [(3, 0), (1, 0), (0, 0), (2, 0), (0, 0), (2, 0), (1, 0), (0, 0), (2, 0), (0, 0)] 1, .blk 3, .code [(3, 0), (1, 0), (0, 0), (2, 0), (0, 0), (2, 0), (1, 0), (0, 0)] 3]) (σ' := ⟨[(1, .ptr 1 0), (3, .sl 11 0), (4, .int .i64 v2), (5, .bool v4), (6, .int .i64 v5), (7, .int .i64 (a1.getD v5.toNat 0)), (13, .int .i64 a0), (14, .int .i64 v2), (18, .list (.ints a1)), (19, .int .i64 (a1.length : Int)), (20, .int .i64 v5)], [(1, .box [.int .i64 a0, .list (.ints a1)]), (11, .arr 3 0 0 (.ints v3))]⟩) rfl ⟨hg5, hd4, trivial⟩ rfl ?_
            rcases bif_some h with ⟨hd6, h⟩ | ⟨hd6, h⟩
            · obtain ⟨hg7, h⟩ := grd_some h
              obtain ⟨hg8, h⟩ := grd_some h
              refine Tri.run 2 [.g true] [.keep [1, 3, 4, 5, 13, 14, 18, 19, 20] [1, 11]] (K' := []) (σ' := ⟨[(1, .ptr 1 0), (3, .sl 11 0), (4, .int .i64 v2), (5, .bool ((a1.getD v5.toNat 0) == (a1.getD ((bitsOf .or .i64 v5 (IntKind.i64.wrap ((1 : Int) * 2 ^ (min v2.toNat 64)))).toNat) 0))), (13, .int .i64 a0), (14, .int .i64 v2), (18, .list (.ints a1)), (19, .int .i64 (a1.length : Int)), (20, .int .i64 (IntKind.i64.wrap (v5 + (1 : Int))))], [(1, .box [.int .i64 a0, .list (.ints a1)]), (11, .arr 3 0 0 (.ints v3))]⟩) rfl ⟨hg8, hg7, hd6, trivial⟩ rfl ?_
              have h := Option.some.inj h
              subst h
              exact Tri.nil ⟨rfl, rfl⟩
            · refine Tri.run 2 [.g false] [.keep [1, 3, 4, 5, 13, 14, 18, 19, 20] [1, 11]] (K' := []) (σ' := ⟨[(1, .ptr 1 0), (3, .sl 11 0), (4, .int .i64 v2), (5, .bool false), (13, .int .i64 a0), (14, .int .i64 v2), (18, .list (.ints a1)), (19, .int .i64 (a1.length : Int)), (20, .int .i64 (IntKind.i64.wrap (v5 + (1 : Int))))], [(1, .box [.int .i64 a0, .list (.ints a1)]), (11, .arr 3 0 0 (.ints v3))]⟩) rfl ⟨hd6, trivial⟩ rfl ?_
              have h := Option.some.inj h
              subst h
              exact Tri.nil ⟨rfl, rfl⟩
          · refine Tri.run 1 [.g false] [.keep [1, 3, 4, 5, 13, 14] [1, 11]] (K' := [.code [(3, 0), (1, 0), (0, 0), (2, 0), (0, 0), (2, 0), (1, 0), (0, 0), (1, 0), (0, 1)] 0, .code [(3, 0), (1, 0), (0, 0), (2, 0), (0, 0), (2, 0), (1, 0), (0, 0)] 2]) (σ' := ⟨[(1, .ptr 1 0), (3, .sl 11 0), (4, .int .i64 v2), (5, .bool v4), (13, .int .i64 a0), (14, .int .i64 v2)], [(1, .box [.int .i64 a0, .list (.ints a1)]), (11, .arr 3 0 0 (.ints v3))]⟩) rfl ⟨hd4, trivial⟩ rfl ?_
            have h := Option.some.inj h
            subst h
            exact Tri.out 2 rfl ⟨nofun, rfl, rfl⟩
        · intro e σ' hne hq
          obtain ⟨rfl, rfl⟩ := hq
          refine TriX.exit (K' := [.code [(3, 0), (1, 0), (0, 0), (2, 0), (0, 0)] 3, .blk 1, .code [(3, 0), (1, 0), (0, 0)] 3]) rfl ?_
          refine Tri.run 1 [] [.keep [1, 3, 4, 13, 14, 39] [1, 11]] (K' := [.code [(3, 0), (1, 0), (0, 0), (2, 0), (0, 0)] 4, .blk 1, .code [(3, 0), (1, 0), (0, 0)] 3]) (σ' := ⟨[(1, .ptr 1 0), (3, .sl 11 0), (4, .int .i64 v2), (13, .int .i64 a0), (14, .int .i64 v2), (39, .bool v6)], [(1, .box [.int .i64 a0, .list (.ints a1)]), (11, .arr 3 0 0 (.ints v3))]⟩) rfl trivial rfl ?_
          rcases bif_some h with ⟨hd10, h⟩ | ⟨hd10, h⟩
          · obtain ⟨hg11, h⟩ := grd_some h
            refine Tri.run 3 [.g true] [.rever 11, .keep [1, 3, 13, 14] [1, 11]] (K' := []) (σ' := ⟨[(1, .ptr 1 0), (3, .sl 11 0), (13, .int .i64 a0), (14, .int .i64 (IntKind.i64.wrap (v2 + (1 : Int))))], [(1, .box [.int .i64 a0, .list (.ints a1)]), (11, .arr 3 0 0 (.ints (v3 ++ [v2])))]⟩) rfl ⟨hg11, hd10, trivial⟩ rfl ?_
            have h := Option.some.inj h
            subst h
            exact Tri.nil ⟨rfl, rfl⟩
          · refine Tri.run 2 [.g false] [.keep [1, 3, 13, 14] [1, 11]] (K' := []) (σ' := ⟨[(1, .ptr 1 0), (3, .sl 11 0), (13, .int .i64 a0), (14, .int .i64 (IntKind.i64.wrap (v2 + (1 : Int))))], [(1, .box [.int .i64 a0, .list (.ints a1)]), (11, .arr 3 0 0 (.ints v3))]⟩) rfl ⟨hd10, trivial⟩ rfl ?_
            have h := Option.some.inj h
            subst h
            exact Tri.nil ⟨rfl, rfl⟩
      · refine Tri.run 1 [.g false] [.keep [3] [11]] (K' := [.code [(3, 0), (1, 0), (0, 0), (1, 0), (0, 1)] 0, .code [(3, 0), (1, 0), (0, 0)] 2]) (σ' := ⟨[(3, .sl 11 0)], [(11, .arr 3 0 0 (.ints v3))]⟩) rfl ⟨hd3, trivial⟩ rfl ?_
        have h := Option.some.inj h
        subst h
        exact Tri.out 0 rfl ⟨nofun, rfl, rfl⟩
    · intro e σ' hne hq
      obtain ⟨rfl, rfl⟩ := hq
      refine TriX.exit (K' := [.code [] 4]) rfl ?_
      refine Tri.run 1 [] [.swap 11 1000, .keep [2] [1000]] (K' := [.code [] 5]) (σ' := ⟨[(2, .sl 1000 0)], [(1000, .arr 3 0 0 (.ints v7))]⟩) rfl trivial rfl ?_
      have h := Option.some.inj h
      subst h
      exact Tri.ret rfl ⟨.inl rfl, rfl, rfl⟩
/-! laws.markIntS -/
noncomputable def E_laws_markIntS : Env := ⟨Try.prog, tys, (Try.f22.body).getD .skip, 19, tysOk, mixedOk⟩
abbrev q_laws_markIntS_io1 (r : Int × (List Int)) (σ' : ASt) : Prop := resAV E_laws_markIntS.T σ' Try.f22.results.toList = some (.int .i64 r.1) ∧ keepO σ'.ob (namesO [(2020, .arr 3 0 0 (.ints r.2))]) = [(2020, .arr 3 0 0 (.ints r.2))]
noncomputable def l_laws_markIntS_io1_0 : (Int × Int × (List Int)) → Option ((Int × Int × (List Int)) ⊕ ((Int × (List Int))))
  | (v1, v2, v3) => (
bif decide (v2 < (v3.length : Int)) then
(grd ((0 : Int) ≤ v2 ∧ v2 < (v3.length : Int)) <|
some (.inl (IntKind.i64.wrap (v1 + (1 : Int)), IntKind.i64.wrap (v2 + (1 : Int)), v3.set v2.toNat v1)))
else
(some (.inr (v1, v3))))
noncomputable def m_laws_markIntS_io1 (a0 : List Int) (a1 : Int) : Option (Int × (List Int)) :=
(iter (l_laws_markIntS_io1_0) (a1, (0 : Int), a0)).bind fun
| (v4, v5) => (
some (v4, v5))
theorem w_laws_markIntS_io1 (a0 : List Int) (a1 : Int) (r : Int × (List Int)) (h : m_laws_markIntS_io1 a0 a1 = some r) : AM.Spec Try.prog 22 [.sl 2020 0, .int .i64 a1] [(2020, .arr 3 0 0 (.ints a0))] (.int .i64 r.1) [(2020, .arr 3 0 0 (.ints r.2))] := by
  refine spec_of (E := E_laws_markIntS) Try.func22 rfl rfl rfl rfl ?_
  refine Tri.run 2 [] [.keep [0, 1, 5] [2020]] (K' := [.code [(1, 0), (1, 0)] 0, .blk 0, .code [] 2]) (σ' := ⟨[(0, .sl 2020 0), (1, .int .i64 a1), (5, .int .i64 (0 : Int))], [(2020, .arr 3 0 0 (.ints a0))]⟩) rfl trivial rfl ?_
  obtain ⟨x1, hk3, h⟩ := bind_some h
  refine Tri.loop (K1 := [.code [(1, 0), (1, 0), (0, 0)] 0]) (K2 := [.blk 0, .code [] 2]) (fun (v1, v2, v3) => ⟨[(0, .sl 2020 0), (1, .int .i64 v1), (5, .int .i64 v2)], [(2020, .arr 3 0 0 (.ints v3))]⟩) (fun x e σ' => match x with | (v4, v5) => e = .exit 0 ∧ σ' = ⟨[(1, .int .i64 v4)], [(2020, .arr 3 0 0 (.ints v5))]⟩) hk3 rfl rfl ?_ ?_
  · intro s x hs
    clear h
    have h := hs
    clear hs
    obtain ⟨v1, v2, v3⟩ := s
    refine Tri.run 1 [] [.keep [0, 1, 5, 9] [2020]] (K' := [.code [(1, 0), (1, 0), (0, 0), (0, 0)] 1, .code [(1, 0), (1, 0), (0, 0)] 1]) (σ' := ⟨[(0, .sl 2020 0), (1, .int .i64 v1), (5, .int .i64 v2), (9, .bool (decide (v2 < (v3.length : Int))))], [(2020, .arr 3 0 0 (.ints v3))]⟩) rfl trivial rfl ?_
    rcases bif_some h with ⟨hd1, h⟩ | ⟨hd1, h⟩
    · obtain ⟨hg2, h⟩ := grd_some h
      refine Tri.run 3 [.g true] [.keep [0, 1, 5] [2020]] (K' := [.code [(1, 0), (1, 0), (0, 0)] 2]) (σ' := ⟨[(0, .sl 2020 0), (1, .int .i64 (IntKind.i64.wrap (v1 + (1 : Int)))), (5, .int .i64 v2)], [(2020, .arr 3 0 0 (.ints (v3.set v2.toNat v1)))]⟩) rfl ⟨hg2, hd1, trivial⟩ rfl ?_
      refine Tri.run 1 [] [.keep [0, 1, 5] [2020]] (K' := []) (σ' := ⟨[(0, .sl 2020 0), (1, .int .i64 (IntKind.i64.wrap (v1 + (1 : Int)))), (5, .int .i64 (IntKind.i64.wrap (v2 + (1 : Int))))], [(2020, .arr 3 0 0 (.ints (v3.set v2.toNat v1)))]⟩) rfl trivial rfl ?_
      have h := Option.some.inj h
      subst h
      exact Tri.nil ⟨rfl, rfl⟩
    · refine Tri.run 1 [.g false] [.keep [1] [2020]] (K' := [.code [(1, 0), (1, 0), (0, 0), (0, 0), (1, 1)] 0, .code [(1, 0), (1, 0), (0, 0)] 1]) (σ' := ⟨[(1, .int .i64 v1)], [(2020, .arr 3 0 0 (.ints v3))]⟩) rfl ⟨hd1, trivial⟩ rfl ?_
      have h := Option.some.inj h
      subst h
      exact Tri.out 0 rfl ⟨nofun, rfl, rfl⟩
  · intro e σ' hne hq
    obtain ⟨v4, v5⟩ := x1
    obtain ⟨rfl, rfl⟩ := hq
    refine TriX.exit (K' := [.code [] 2]) rfl ?_
    refine Tri.run 1 [] [.keep [4] [2020]] (K' := [.code [] 3]) (σ' := ⟨[(4, .int .i64 v4)], [(2020, .arr 3 0 0 (.ints v5))]⟩) rfl trivial rfl ?_
    have h := Option.some.inj h
    subst h
    exact Tri.ret rfl ⟨.inl rfl, rfl, rfl⟩
/-! laws.markGame -/
noncomputable def E_laws_markGame : Env := ⟨Try.prog, tys, (Try.f21.body).getD .skip, 10, tysOk, mixedOk⟩
abbrev q_laws_markGame_io1 (r : Int × (List Int)) (σ' : ASt) : Prop := resAV E_laws_markGame.T σ' Try.f21.results.toList = some (.int .i64 r.1) ∧ keepO σ'.ob (namesO [(2000, .arr 3 0 0 (.ints r.2))]) = [(2000, .arr 3 0 0 (.ints r.2))]
noncomputable def m_laws_markGame_io1 (_a0 : Int) (a1 : List Int) (a2 : Int) : Option (Int × (List Int)) :=
(m_laws_markIntS_io1 a1 a2).bind fun (v1, v2) =>
some (v1, v2)
theorem w_laws_markGame_io1 (a0 : Int) (a1 : List Int) (a2 : Int) (r : Int × (List Int)) (h : m_laws_markGame_io1 a0 a1 a2 = some r) : AM.Spec Try.prog 21 [.agg [.int .i64 a0, .sl 2000 0], .int .i64 a2] [(2000, .arr 3 0 0 (.ints a1))] (.int .i64 r.1) [(2000, .arr 3 0 0 (.ints r.2))] := by
  refine spec_of (E := E_laws_markGame) Try.func21 rfl rfl rfl rfl ?_
  refine Tri.run 1 [] [.keep [1, 2] [2, 2000]] (K' := [.code [(1, 0)] 0, .code [] 2]) (σ' := ⟨[(1, .int .i64 a2), (2, .ptr 2 0)], [(2, .box [.int .i64 a0, .sl 2000 0]), (2000, .arr 3 0 0 (.ints a1))]⟩) rfl trivial rfl ?_
  obtain ⟨⟨v1, v2⟩, hk1, h⟩ := bind_some h
  refine Tri.run 2 [.r ⟨[2000], .int .i64 v1, [(2000, .arr 3 0 0 (.ints v2))]⟩] [.keep [4] [2000]] (K' := [.code [] 3]) (σ' := ⟨[(4, .int .i64 v1)], [(2000, .arr 3 0 0 (.ints v2))]⟩) rfl ⟨((w_laws_markIntS_io1 a1 a2 (v1, v2) hk1).swap 2020 2000), trivial⟩ rfl ?_
  have h := Option.some.inj h
  subst h
  exact Tri.ret rfl ⟨.inl rfl, rfl, rfl⟩
/-! laws.heldIntS -/
noncomputable def E_laws_heldIntS : Env := ⟨Try.prog, tys, (Try.f23.body).getD .skip, 21, tysOk, mixedOk⟩
abbrev q_laws_heldIntS (r : Int) (σ' : ASt) : Prop := resAV E_laws_heldIntS.T σ' Try.f23.results.toList = some (.int .i64 r) ∧ keepO σ'.ob (namesO []) = []
noncomputable def l_laws_heldIntS_0 (a0 : List Int) : (Int × Int) → Option ((Int × Int) ⊕ (Int ⊕ Int))
  | (v1, v2) => (
bif decide (v2 < (a0.length : Int)) then
(grd ((0 : Int) ≤ v2 ∧ v2 < (a0.length : Int)) <|
bif (a0.getD v2.toNat 0) != v1 then
(some (.inr (.inr (-1 : Int))))
else
(some (.inl (IntKind.i64.wrap (v1 + (1 : Int)), IntKind.i64.wrap (v2 + (1 : Int))))))
else
(some (.inr (.inl v1))))
noncomputable def m_laws_heldIntS (a0 : List Int) (a1 : Int) : Option Int :=
(iter (l_laws_heldIntS_0 a0) (a1, (0 : Int))).bind fun
| (.inl v3) => (
some v3)
| (.inr r) => some r
theorem w_laws_heldIntS (a0 : List Int) (a1 : Int) (r : Int) (h : m_laws_heldIntS a0 a1 = some r) : AM.Spec Try.prog 23 [.list (.ints a0), .int .i64 a1] [] (.int .i64 r) [] := by
  refine spec_of (E := E_laws_heldIntS) Try.func23 rfl rfl rfl rfl ?_
  refine Tri.run 2 [] [.keep [0, 1, 5] []] (K' := [.code [(1, 0), (1, 0)] 0, .blk 0, .code [] 2]) (σ' := ⟨[(0, .list (.ints a0)), (1, .int .i64 a1), (5, .int .i64 (0 : Int))], []⟩) rfl trivial rfl ?_
  obtain ⟨x1, hk4, h⟩ := bind_some h
  refine Tri.loop (K1 := [.code [(1, 0), (1, 0), (0, 0)] 0]) (K2 := [.blk 0, .code [] 2]) (fun (v1, v2) => ⟨[(0, .list (.ints a0)), (1, .int .i64 v1), (5, .int .i64 v2)], []⟩) (fun x e σ' => match x with | (.inl v3) => e = .exit 0 ∧ σ' = ⟨[(1, .int .i64 v3)], []⟩ | (.inr r) => e = .ret ∧ q_laws_heldIntS r σ') hk4 rfl rfl ?_ ?_
  · intro s x hs
    clear h
    have h := hs
    clear hs
    obtain ⟨v1, v2⟩ := s
    refine Tri.run 1 [] [.keep [0, 1, 5, 9] []] (K' := [.code [(1, 0), (1, 0), (0, 0), (0, 0)] 1, .code [(1, 0), (1, 0), (0, 0)] 1]) (σ' := ⟨[(0, .list (.ints a0)), (1, .int .i64 v1), (5, .int .i64 v2), (9, .bool (decide (v2 < (a0.length : Int))))], []⟩) rfl trivial rfl ?_
    rcases bif_some h with ⟨hd1, h⟩ | ⟨hd1, h⟩
    · obtain ⟨hg2, h⟩ := grd_some h
      refine Tri.run 2 [.g true] [.keep [0, 1, 5, 17] []] (K' := [.code [(1, 0), (1, 0), (0, 0), (1, 0), (0, 0), (0, 0)] 1, .code [(1, 0), (1, 0), (0, 0), (1, 0), (0, 0)] 1, .blk 1, .code [(1, 0), (1, 0), (0, 0)] 2]) (σ' := ⟨[(0, .list (.ints a0)), (1, .int .i64 v1), (5, .int .i64 v2), (17, .bool ((a0.getD v2.toNat 0) != v1))], []⟩) rfl ⟨hg2, hd1, trivial⟩ rfl ?_
      rcases bif_some h with ⟨hd3, h⟩ | ⟨hd3, h⟩
      · refine Tri.run 2 [.g true] [.keep [4] []] (K' := [.code [(1, 0), (1, 0), (0, 0), (1, 0), (0, 0), (0, 0), (1, 0)] 1, .code [(1, 0), (1, 0), (0, 0), (1, 0), (0, 0)] 1, .blk 1, .code [(1, 0), (1, 0), (0, 0)] 2]) (σ' := ⟨[(4, .int .i64 (-1 : Int))], []⟩) rfl ⟨hd3, trivial⟩ rfl ?_
        have h := Option.some.inj h
        subst h
        exact Tri.ret rfl ⟨nofun, rfl, rfl, rfl⟩
      · refine Tri.run 3 [.g false] [.keep [0, 1, 5] []] (K' := []) (σ' := ⟨[(0, .list (.ints a0)), (1, .int .i64 (IntKind.i64.wrap (v1 + (1 : Int)))), (5, .int .i64 (IntKind.i64.wrap (v2 + (1 : Int))))], []⟩) rfl ⟨hd3, trivial⟩ rfl ?_
        have h := Option.some.inj h
        subst h
        exact Tri.nil ⟨rfl, rfl⟩
    · refine Tri.run 1 [.g false] [.keep [1] []] (K' := [.code [(1, 0), (1, 0), (0, 0), (0, 0), (1, 1)] 0, .code [(1, 0), (1, 0), (0, 0)] 1]) (σ' := ⟨[(1, .int .i64 v1)], []⟩) rfl ⟨hd1, trivial⟩ rfl ?_
      have h := Option.some.inj h
      subst h
      exact Tri.out 0 rfl ⟨nofun, rfl, rfl⟩
  · intro e σ' hne hq
    rcases x1 with v3 | r
    · obtain ⟨rfl, rfl⟩ := hq
      refine TriX.exit (K' := [.code [] 2]) rfl ?_
      refine Tri.run 1 [] [.keep [4] []] (K' := [.code [] 3]) (σ' := ⟨[(4, .int .i64 v3)], []⟩) rfl trivial rfl ?_
      have h := Option.some.inj h
      subst h
      exact Tri.ret rfl ⟨.inl rfl, rfl, rfl⟩
    · obtain ⟨rfl, hq⟩ := hq
      have h := Option.some.inj h
      subst h
      exact TriX.ret ⟨.inl rfl, hq⟩
/-! laws.FnExactNullPlayers -/
noncomputable def E_laws_FnExactNullPlayers : Env := ⟨Try.prog, tys, (Try.f5.body).getD .skip, 69, tysOk, mixedOk⟩
abbrev q_laws_FnExactNullPlayers (r : Bool) (σ' : ASt) : Prop := resAV E_laws_FnExactNullPlayers.T σ' Try.f5.results.toList = some (.bool r) ∧ keepO σ'.ob (namesO []) = []
noncomputable def m_laws_FnExactNullPlayers (a0 : Int) (a1 : List Int) : Option Bool :=
(m_laws_szGame a0 a1 (1048576 : Int)).bind fun v1 =>
bif decide (v1 < (0 : Int)) then
(some true)
else
((m_laws_toGame a0 a1).bind fun (v2, v3) =>
(m_spec_NullPlayers v2 v3).bind fun v4 =>
(m_laws_toGame a0 a1).bind fun (v5, v6) =>
(m_impl_NullPlayers v5 v6).bind fun v7 =>
(m_laws_eqIntS v7 v4).bind fun v8 =>
bif !v8 then
(some false)
else
((m_laws_toGame a0 a1).bind fun (v9, v10) =>
(m_laws_eqGame v5 v6 v9 v10).bind fun v11 =>
bif !v11 then
(some false)
else
((m_laws_markGame_io1 v5 v6 (1 : Int)).bind fun (v12, _) =>
bif decide (v12 < (0 : Int)) then
(some false)
else
((m_laws_eqIntS v7 v4).bind fun v14 =>
bif !v14 then
(some false)
else
((m_laws_markIntS_io1 v7 (1 : Int)).bind fun (v15, v16) =>
(m_laws_heldIntS v16 (1 : Int)).bind fun v17 =>
bif decide (v17 < (0 : Int)) then
(some false)
else
(bif v17 != v15 then
(some false)
else
((m_laws_toGame a0 a1).bind fun (v18, v19) =>
(m_impl_NullPlayers v18 v19).bind fun v20 =>
(m_laws_eqIntS v20 v4).bind fun v21 =>
bif !v21 then
(some false)
else
((m_laws_heldIntS v16 (1 : Int)).bind fun v22 =>
bif decide (v22 < (0 : Int)) then
(some false)
else
(bif v22 != v15 then
(some false)
else
(some true))))))))))
theorem w_laws_FnExactNullPlayers (a0 : Int) (a1 : List Int) (r : Bool) (h : m_laws_FnExactNullPlayers a0 a1 = some r) : AM.Spec Try.prog 5 [.agg [.int .i64 a0, .list (.ints a1)]] [] (.bool r) [] := by
  refine spec_of (E := E_laws_FnExactNullPlayers) Try.func5 rfl rfl rfl rfl ?_
  refine Tri.run 2 [] [.keep [1, 3] [1]] (K' := [.code [(2, 0)] 0, .code [] 3]) (σ' := ⟨[(1, .ptr 1 0), (3, .int .i64 (1048576 : Int))], [(1, .box [.int .i64 a0, .list (.ints a1)])]⟩) rfl trivial rfl ?_
  obtain ⟨v1, hk1, h⟩ := bind_some h
  refine Tri.run 2 [.r ⟨[], .int .i64 v1, []⟩] [.keep [1, 15] [1]] (K' := [.code [(3, 0)] 1, .code [] 4]) (σ' := ⟨[(1, .ptr 1 0), (15, .bool (decide (v1 < (0 : Int))))], [(1, .box [.int .i64 a0, .list (.ints a1)])]⟩) rfl ⟨(w_laws_szGame a0 a1 (1048576 : Int) v1 hk1), trivial⟩ rfl ?_
  rcases bif_some h with ⟨hd2, h⟩ | ⟨hd2, h⟩
  · refine Tri.run 2 [.g true] [.keep [2] []] (K' := [.code [(3, 0), (1, 0)] 1, .code [] 4]) (σ' := ⟨[(2, .bool true)], []⟩) rfl ⟨hd2, trivial⟩ rfl ?_
    have h := Option.some.inj h
    subst h
    exact Tri.ret rfl ⟨.inl rfl, rfl, rfl⟩
  · obtain ⟨⟨v2, v3⟩, hk3, h⟩ := bind_some h
    obtain ⟨v4, hk4, h⟩ := bind_some h
    refine Tri.run 2 [.g false, .r ⟨[], .agg [.int .i64 v2, .sl 1100 0], [(1100, .arr 3 0 0 (.ints v3))]⟩, .r ⟨[], .sl 1101 0, [(1101, .arr 3 0 0 (.ints v4))]⟩] [.keep [1, 4] [1, 1101]] (K' := [.code [(5, 0)] 0, .code [] 6]) (σ' := ⟨[(1, .ptr 1 0), (4, .sl 1101 0)], [(1, .box [.int .i64 a0, .list (.ints a1)]), (1101, .arr 3 0 0 (.ints v4))]⟩) rfl ⟨((w_spec_NullPlayers v2 v3 v4 hk4).swap 1000 1101), ((w_laws_toGame a0 a1 (v2, v3) hk3).swap 1000 1100), hd2, trivial⟩ rfl ?_
    obtain ⟨⟨v5, v6⟩, hk5, h⟩ := bind_some h
    obtain ⟨v7, hk6, h⟩ := bind_some h
    refine Tri.run 2 [.r ⟨[], .agg [.int .i64 v5, .sl 1102 0], [(1102, .arr 3 0 0 (.ints v6))]⟩, .r ⟨[], .sl 1103 0, [(1103, .arr 3 0 0 (.ints v7))]⟩] [.keep [1, 4, 5, 6] [1, 5, 1101, 1102, 1103]] (K' := [.code [(7, 0), (0, 0)] 0, .code [(7, 0)] 1, .code [] 8]) (σ' := ⟨[(1, .ptr 1 0), (4, .sl 1101 0), (5, .ptr 5 0), (6, .sl 1103 0)], [(1, .box [.int .i64 a0, .list (.ints a1)]), (5, .box [.int .i64 v5, .sl 1102 0]), (1101, .arr 3 0 0 (.ints v4)), (1102, .arr 3 0 0 (.ints v6)), (1103, .arr 3 0 0 (.ints v7))]⟩) rfl ⟨((w_impl_NullPlayers v5 v6 v7 hk6).swap 1000 1103), ((w_laws_toGame a0 a1 (v5, v6) hk5).swap 1000 1102), trivial⟩ rfl ?_
    obtain ⟨v8, hk7, h⟩ := bind_some h
    refine Tri.run 1 [.r ⟨[], .bool v8, []⟩] [.keep [1, 4, 5, 6, 26] [1, 5, 1101, 1102, 1103]] (K' := [.code [(7, 0)] 1, .code [] 8]) (σ' := ⟨[(1, .ptr 1 0), (4, .sl 1101 0), (5, .ptr 5 0), (6, .sl 1103 0), (26, .bool (!v8))], [(1, .box [.int .i64 a0, .list (.ints a1)]), (5, .box [.int .i64 v5, .sl 1102 0]), (1101, .arr 3 0 0 (.ints v4)), (1102, .arr 3 0 0 (.ints v6)), (1103, .arr 3 0 0 (.ints v7))]⟩) rfl ⟨(w_laws_eqIntS v7 v4 v8 hk7), trivial⟩ rfl ?_
    rcases bif_some h with ⟨hd8, h⟩ | ⟨hd8, h⟩
    · refine Tri.run 2 [.g true] [.keep [2] []] (K' := [.code [(7, 0), (1, 0)] 1, .code [] 8]) (σ' := ⟨[(2, .bool false)], []⟩) rfl ⟨hd8, trivial⟩ rfl ?_
      have h := Option.some.inj h
      subst h
      exact Tri.ret rfl ⟨.inl rfl, rfl, rfl⟩
    · obtain ⟨⟨v9, v10⟩, hk9, h⟩ := bind_some h
      obtain ⟨v11, hk10, h⟩ := bind_some h
      refine Tri.run 2 [.g false, .r ⟨[], .agg [.int .i64 v9, .sl 1104 0], [(1104, .arr 3 0 0 (.ints v10))]⟩, .r ⟨[], .bool v11, []⟩] [.keep [1, 4, 5, 6, 31] [1, 5, 1101, 1102, 1103]] (K' := [.code [(8, 0)] 1, .code [] 9]) (σ' := ⟨[(1, .ptr 1 0), (4, .sl 1101 0), (5, .ptr 5 0), (6, .sl 1103 0), (31, .bool (!v11))], [(1, .box [.int .i64 a0, .list (.ints a1)]), (5, .box [.int .i64 v5, .sl 1102 0]), (1101, .arr 3 0 0 (.ints v4)), (1102, .arr 3 0 0 (.ints v6)), (1103, .arr 3 0 0 (.ints v7))]⟩) rfl ⟨(w_laws_eqGame v5 v6 v9 v10 v11 hk10), ((w_laws_toGame a0 a1 (v9, v10) hk9).swap 1000 1104), hd8, trivial⟩ rfl ?_
      rcases bif_some h with ⟨hd11, h⟩ | ⟨hd11, h⟩
      · refine Tri.run 2 [.g true] [.keep [2] []] (K' := [.code [(8, 0), (1, 0)] 1, .code [] 9]) (σ' := ⟨[(2, .bool false)], []⟩) rfl ⟨hd11, trivial⟩ rfl ?_
        have h := Option.some.inj h
        subst h
        exact Tri.ret rfl ⟨.inl rfl, rfl, rfl⟩
      · refine Tri.run 2 [.g false] [.keep [1, 4, 5, 6, 7] [1, 5, 1101, 1102, 1103]] (K' := [.code [(10, 0)] 0, .code [] 11]) (σ' := ⟨[(1, .ptr 1 0), (4, .sl 1101 0), (5, .ptr 5 0), (6, .sl 1103 0), (7, .int .i64 (1 : Int))], [(1, .box [.int .i64 a0, .list (.ints a1)]), (5, .box [.int .i64 v5, .sl 1102 0]), (1101, .arr 3 0 0 (.ints v4)), (1102, .arr 3 0 0 (.ints v6)), (1103, .arr 3 0 0 (.ints v7))]⟩) rfl ⟨hd11, trivial⟩ rfl ?_
        obtain ⟨⟨v12, v13⟩, hk12, h⟩ := bind_some h
        rcases bif_some h with ⟨hd13, h⟩ | ⟨hd13, h⟩
        · refine Tri.run 2 [.r ⟨[1102], .int .i64 v12, [(1102, .arr 3 0 0 (.ints v13))]⟩, .g true] [.keep [1, 4, 6, 42] [1, 1101, 1103]] (K' := [.code [(11, 0)] 1, .code [] 12]) (σ' := ⟨[(1, .ptr 1 0), (4, .sl 1101 0), (6, .sl 1103 0), (42, .bool true)], [(1, .box [.int .i64 a0, .list (.ints a1)]), (1101, .arr 3 0 0 (.ints v4)), (1103, .arr 3 0 0 (.ints v7))]⟩) rfl ⟨hd13, ((w_laws_markGame_io1 v5 v6 (1 : Int) (v12, v13) hk12).swap 2000 1102), trivial⟩ rfl ?_
          refine Tri.run 2 [.g true] [.keep [2] []] (K' := [.code [(11, 0), (1, 0)] 1, .code [] 12]) (σ' := ⟨[(2, .bool false)], []⟩) rfl ⟨rfl, trivial⟩ rfl ?_
          have h := Option.some.inj h
          subst h
          exact Tri.ret rfl ⟨.inl rfl, rfl, rfl⟩
        · obtain ⟨v14, hk14, h⟩ := bind_some h
          refine Tri.run 2 [.r ⟨[1102], .int .i64 v12, [(1102, .arr 3 0 0 (.ints v13))]⟩, .g false, .r ⟨[], .bool v14, []⟩] [.keep [1, 4, 6, 42] [1, 1101, 1103]] (K' := [.code [(11, 0)] 1, .code [] 12]) (σ' := ⟨[(1, .ptr 1 0), (4, .sl 1101 0), (6, .sl 1103 0), (42, .bool (!v14))], [(1, .box [.int .i64 a0, .list (.ints a1)]), (1101, .arr 3 0 0 (.ints v4)), (1103, .arr 3 0 0 (.ints v7))]⟩) rfl ⟨(w_laws_eqIntS v7 v4 v14 hk14), hd13, ((w_laws_markGame_io1 v5 v6 (1 : Int) (v12, v13) hk12).swap 2000 1102), trivial⟩ rfl ?_
          rcases bif_some h with ⟨hd15, h⟩ | ⟨hd15, h⟩
          · refine Tri.run 2 [.g true] [.keep [2] []] (K' := [.code [(11, 0), (1, 0)] 1, .code [] 12]) (σ' := ⟨[(2, .bool false)], []⟩) rfl ⟨hd15, trivial⟩ rfl ?_
            have h := Option.some.inj h
            subst h
            exact Tri.ret rfl ⟨.inl rfl, rfl, rfl⟩
          · refine Tri.run 2 [.g false] [.keep [1, 4, 6, 8] [1, 1101, 1103]] (K' := [.code [(13, 0)] 0, .code [] 14]) (σ' := ⟨[(1, .ptr 1 0), (4, .sl 1101 0), (6, .sl 1103 0), (8, .int .i64 (1 : Int))], [(1, .box [.int .i64 a0, .list (.ints a1)]), (1101, .arr 3 0 0 (.ints v4)), (1103, .arr 3 0 0 (.ints v7))]⟩) rfl ⟨hd15, trivial⟩ rfl ?_
            obtain ⟨⟨v15, v16⟩, hk16, h⟩ := bind_some h
            refine Tri.run 2 [.r ⟨[1103], .int .i64 v15, [(1103, .arr 3 0 0 (.ints v16))]⟩] [.keep [1, 4, 6, 8, 9] [1, 1101, 1103]] (K' := [.code [(15, 0)] 0, .code [] 16]) (σ' := ⟨[(1, .ptr 1 0), (4, .sl 1101 0), (6, .sl 1103 0), (8, .int .i64 v15), (9, .int .i64 (1 : Int))], [(1, .box [.int .i64 a0, .list (.ints a1)]), (1101, .arr 3 0 0 (.ints v4)), (1103, .arr 3 0 0 (.ints v16))]⟩) rfl ⟨((w_laws_markIntS_io1 v7 (1 : Int) (v15, v16) hk16).swap 2020 1103), trivial⟩ rfl ?_
            obtain ⟨v17, hk17, h⟩ := bind_some h
            refine Tri.run 2 [.r ⟨[], .int .i64 v17, []⟩] [.keep [1, 4, 6, 8, 9, 50] [1, 1101, 1103]] (K' := [.code [(16, 0)] 1, .code [] 17]) (σ' := ⟨[(1, .ptr 1 0), (4, .sl 1101 0), (6, .sl 1103 0), (8, .int .i64 v15), (9, .int .i64 v17), (50, .bool (decide (v17 < (0 : Int))))], [(1, .box [.int .i64 a0, .list (.ints a1)]), (1101, .arr 3 0 0 (.ints v4)), (1103, .arr 3 0 0 (.ints v16))]⟩) rfl ⟨(w_laws_heldIntS v16 (1 : Int) v17 hk17), trivial⟩ rfl ?_
            rcases bif_some h with ⟨hd18, h⟩ | ⟨hd18, h⟩
            · refine Tri.run 2 [.g true] [.keep [2] []] (K' := [.code [(16, 0), (1, 0)] 1, .code [] 17]) (σ' := ⟨[(2, .bool false)], []⟩) rfl ⟨hd18, trivial⟩ rfl ?_
              have h := Option.some.inj h
              subst h
              exact Tri.ret rfl ⟨.inl rfl, rfl, rfl⟩
            · refine Tri.run 2 [.g false] [.keep [1, 4, 6, 8, 53] [1, 1101, 1103]] (K' := [.code [(17, 0)] 1, .code [] 18]) (σ' := ⟨[(1, .ptr 1 0), (4, .sl 1101 0), (6, .sl 1103 0), (8, .int .i64 v15), (53, .bool (v17 != v15))], [(1, .box [.int .i64 a0, .list (.ints a1)]), (1101, .arr 3 0 0 (.ints v4)), (1103, .arr 3 0 0 (.ints v16))]⟩) rfl ⟨hd18, trivial⟩ rfl ?_
              rcases bif_some h with ⟨hd19, h⟩ | ⟨hd19, h⟩
              · refine Tri.run 2 [.g true] [.keep [2] []] (K' := [.code [(17, 0), (1, 0)] 1, .code [] 18]) (σ' := ⟨[(2, .bool false)], []⟩) rfl ⟨hd19, trivial⟩ rfl ?_
                have h := Option.some.inj h
                subst h
                exact Tri.ret rfl ⟨.inl rfl, rfl, rfl⟩
              · obtain ⟨⟨v18, v19⟩, hk20, h⟩ := bind_some h
                obtain ⟨v20, hk21, h⟩ := bind_some h
                refine Tri.run 2 [.g false, .r ⟨[], .agg [.int .i64 v18, .sl 1105 0], [(1105, .arr 3 0 0 (.ints v19))]⟩, .r ⟨[], .sl 1106 0, [(1106, .arr 3 0 0 (.ints v20))]⟩] [.keep [4, 6, 8, 10] [1101, 1103, 1106]] (K' := [.code [(19, 0), (0, 0)] 0, .code [(19, 0)] 1, .code [] 20]) (σ' := ⟨[(4, .sl 1101 0), (6, .sl 1103 0), (8, .int .i64 v15), (10, .sl 1106 0)], [(1101, .arr 3 0 0 (.ints v4)), (1103, .arr 3 0 0 (.ints v16)), (1106, .arr 3 0 0 (.ints v20))]⟩) rfl ⟨((w_impl_NullPlayers v18 v19 v20 hk21).swap 1000 1106), ((w_laws_toGame a0 a1 (v18, v19) hk20).swap 1000 1105), hd19, trivial⟩ rfl ?_
                obtain ⟨v21, hk22, h⟩ := bind_some h
                refine Tri.run 1 [.r ⟨[], .bool v21, []⟩] [.keep [6, 8, 60] [1103]] (K' := [.code [(19, 0)] 1, .code [] 20]) (σ' := ⟨[(6, .sl 1103 0), (8, .int .i64 v15), (60, .bool (!v21))], [(1103, .arr 3 0 0 (.ints v16))]⟩) rfl ⟨(w_laws_eqIntS v20 v4 v21 hk22), trivial⟩ rfl ?_
                rcases bif_some h with ⟨hd23, h⟩ | ⟨hd23, h⟩
                · refine Tri.run 2 [.g true] [.keep [2] []] (K' := [.code [(19, 0), (1, 0)] 1, .code [] 20]) (σ' := ⟨[(2, .bool false)], []⟩) rfl ⟨hd23, trivial⟩ rfl ?_
                  have h := Option.some.inj h
                  subst h
                  exact Tri.ret rfl ⟨.inl rfl, rfl, rfl⟩
                · refine Tri.run 2 [.g false] [.keep [6, 8, 9] [1103]] (K' := [.code [(21, 0)] 0, .code [] 22]) (σ' := ⟨[(6, .sl 1103 0), (8, .int .i64 v15), (9, .int .i64 (1 : Int))], [(1103, .arr 3 0 0 (.ints v16))]⟩) rfl ⟨hd23, trivial⟩ rfl ?_
                  obtain ⟨v22, hk24, h⟩ := bind_some h
                  refine Tri.run 2 [.r ⟨[], .int .i64 v22, []⟩] [.keep [8, 9, 65] []] (K' := [.code [(22, 0)] 1, .code [] 23]) (σ' := ⟨[(8, .int .i64 v15), (9, .int .i64 v22), (65, .bool (decide (v22 < (0 : Int))))], []⟩) rfl ⟨(w_laws_heldIntS v16 (1 : Int) v22 hk24), trivial⟩ rfl ?_
                  rcases bif_some h with ⟨hd25, h⟩ | ⟨hd25, h⟩
                  · refine Tri.run 2 [.g true] [.keep [2] []] (K' := [.code [(22, 0), (1, 0)] 1, .code [] 23]) (σ' := ⟨[(2, .bool false)], []⟩) rfl ⟨hd25, trivial⟩ rfl ?_
                    have h := Option.some.inj h
                    subst h
                    exact Tri.ret rfl ⟨.inl rfl, rfl, rfl⟩
                  · refine Tri.run 2 [.g false] [.keep [68] []] (K' := [.code [(23, 0)] 1, .code [] 24]) (σ' := ⟨[(68, .bool (v22 != v15))], []⟩) rfl ⟨hd25, trivial⟩ rfl ?_
                    rcases bif_some h with ⟨hd26, h⟩ | ⟨hd26, h⟩
                    · refine Tri.run 2 [.g true] [.keep [2] []] (K' := [.code [(23, 0), (1, 0)] 1, .code [] 24]) (σ' := ⟨[(2, .bool false)], []⟩) rfl ⟨hd26, trivial⟩ rfl ?_
                      have h := Option.some.inj h
                      subst h
                      exact Tri.ret rfl ⟨.inl rfl, rfl, rfl⟩
                    · refine Tri.run 2 [.g false] [.keep [2] []] (K' := [.code [] 25]) (σ' := ⟨[(2, .bool true)], []⟩) rfl ⟨hd26, trivial⟩ rfl ?_
                      have h := Option.some.inj h
                      subst h
                      exact Tri.ret rfl ⟨.inl rfl, rfl, rfl⟩
/-! spec.l2Good -/
noncomputable def E_spec_l2Good : Env := ⟨Try.prog, tys, (Try.f50.body).getD .skip, 5, tysOk, mixedOk⟩
abbrev q_spec_l2Good (r : Bool) (σ' : ASt) : Prop := resAV E_spec_l2Good.T σ' Try.f50.results.toList = some (.bool r) ∧ keepO σ'.ob (namesO []) = []
noncomputable def m_spec_l2Good (a0 : Int) : Option Bool :=
(m_spec_l1In a0 (0 : Int) (31 : Int)).bind fun v1 =>
some v1
theorem w_spec_l2Good (a0 : Int) (r : Bool) (h : m_spec_l2Good a0 = some r) : AM.Spec Try.prog 50 [.int .i64 a0] [] (.bool r) [] := by
  refine spec_of (E := E_spec_l2Good) Try.func50 rfl rfl rfl rfl ?_
  refine Tri.run 1 [] [.keep [0] []] (K' := [.code [(1, 0)] 0, .code [] 2]) (σ' := ⟨[(0, .int .i64 a0)], []⟩) rfl trivial rfl ?_
  obtain ⟨v1, hk1, h⟩ := bind_some h
  refine Tri.run 1 [.r ⟨[], .bool v1, []⟩] [.keep [2] []] (K' := [.code [] 2]) (σ' := ⟨[(2, .bool v1)], []⟩) rfl ⟨(w_spec_l1In a0 (0 : Int) (31 : Int) v1 hk1), trivial⟩ rfl ?_
  have h := Option.some.inj h
  subst h
  exact Tri.ret rfl ⟨.inl rfl, rfl, rfl⟩
/-! spec.IsSubset -/
noncomputable def E_spec_IsSubset : Env := ⟨Try.prog, tys, (Try.f41.body).getD .skip, 25, tysOk, mixedOk⟩
abbrev q_spec_IsSubset (r : Bool) (σ' : ASt) : Prop := resAV E_spec_IsSubset.T σ' Try.f41.results.toList = some (.bool r) ∧ keepO σ'.ob (namesO []) = []
noncomputable def l_spec_IsSubset_0 (a0 : Int) (a1 : Int) (v1 : Int) : Option (Int ⊕ (Unit ⊕ Bool)) :=
bif decide (v1 < (5 : Int)) then
((m_spec_HasPlayer a0 v1).bind fun v2 =>
bif v2 then
((m_spec_HasPlayer a1 v1).bind fun v3 =>
bif !v3 then
(some (.inr (.inr false)))
else
(some (.inl (IntKind.i64.wrap (v1 + (1 : Int))))))
else
(some (.inl (IntKind.i64.wrap (v1 + (1 : Int))))))
else
(some (.inr (.inl ())))
noncomputable def m_spec_IsSubset (a0 : Int) (a1 : Int) : Option Bool :=
(iter (l_spec_IsSubset_0 a0 a1) (0 : Int)).bind fun
| (.inl _) => (
(m_spec_l2Good a0).bind fun v4 =>
bif v4 then
((m_spec_l2Good a1).bind fun v5 =>
some v5)
else
(some false))
| (.inr r) => some r
theorem w_spec_IsSubset (a0 : Int) (a1 : Int) (r : Bool) (h : m_spec_IsSubset a0 a1 = some r) : AM.Spec Try.prog 41 [.int .i64 a0, .int .i64 a1] [] (.bool r) [] := by
  refine spec_of (E := E_spec_IsSubset) Try.func41 rfl rfl rfl rfl ?_
  refine Tri.run 2 [] [.keep [0, 1, 5] []] (K' := [.code [(1, 0), (1, 0)] 0, .blk 0, .code [] 2]) (σ' := ⟨[(0, .int .i64 a0), (1, .int .i64 a1), (5, .int .i64 (0 : Int))], []⟩) rfl trivial rfl ?_
  obtain ⟨x1, hk6, h⟩ := bind_some h
  refine Tri.loop (K1 := [.code [(1, 0), (1, 0), (0, 0)] 0]) (K2 := [.blk 0, .code [] 2]) (fun v1 => ⟨[(0, .int .i64 a0), (1, .int .i64 a1), (5, .int .i64 v1)], []⟩) (fun x e σ' => match x with | (.inl _) => e = .exit 0 ∧ σ' = ⟨[(0, .int .i64 a0), (1, .int .i64 a1)], []⟩ | (.inr r) => e = .ret ∧ q_spec_IsSubset r σ') hk6 rfl rfl ?_ ?_
  · intro v1 x hs
    clear h
    have h := hs
    clear hs
    refine Tri.run 1 [] [.keep [0, 1, 5, 7] []] (K' := [.code [(1, 0), (1, 0), (0, 0), (0, 0)] 1, .code [(1, 0), (1, 0), (0, 0)] 1]) (σ' := ⟨[(0, .int .i64 a0), (1, .int .i64 a1), (5, .int .i64 v1), (7, .bool (decide (v1 < (5 : Int))))], []⟩) rfl trivial rfl ?_
    rcases bif_some h with ⟨hd1, h⟩ | ⟨hd1, h⟩
    · obtain ⟨v2, hk2, h⟩ := bind_some h
      rcases bif_some h with ⟨hd3, h⟩ | ⟨hd3, h⟩
      · obtain ⟨v3, hk4, h⟩ := bind_some h
        refine Tri.run 2 [.g true, .r ⟨[], .bool v2, []⟩, .g true, .r ⟨[], .bool v3, []⟩] [.keep [0, 1, 5, 18] []] (K' := [.code [(1, 0), (1, 0), (0, 0), (1, 0), (0, 0)] 1, .blk 1, .code [(1, 0), (1, 0), (0, 0)] 2]) (σ' := ⟨[(0, .int .i64 a0), (1, .int .i64 a1), (5, .int .i64 v1), (18, .bool (!v3))], []⟩) rfl ⟨(w_spec_HasPlayer a1 v1 v3 hk4), hd3, (w_spec_HasPlayer a0 v1 v2 hk2), hd1, trivial⟩ rfl ?_
        rcases bif_some h with ⟨hd5, h⟩ | ⟨hd5, h⟩
        · refine Tri.run 2 [.g true] [.keep [4] []] (K' := [.code [(1, 0), (1, 0), (0, 0), (1, 0), (0, 0), (1, 0)] 1, .blk 1, .code [(1, 0), (1, 0), (0, 0)] 2]) (σ' := ⟨[(4, .bool false)], []⟩) rfl ⟨hd5, trivial⟩ rfl ?_
          have h := Option.some.inj h
          subst h
          exact Tri.ret rfl ⟨nofun, rfl, rfl, rfl⟩
        · refine Tri.run 2 [.g false] [.keep [0, 1, 5] []] (K' := []) (σ' := ⟨[(0, .int .i64 a0), (1, .int .i64 a1), (5, .int .i64 (IntKind.i64.wrap (v1 + (1 : Int))))], []⟩) rfl ⟨hd5, trivial⟩ rfl ?_
          have h := Option.some.inj h
          subst h
          exact Tri.nil ⟨rfl, rfl⟩
      · refine Tri.run 2 [.g true, .r ⟨[], .bool v2, []⟩, .g false] [.keep [0, 1, 5, 18] []] (K' := [.code [(1, 0), (1, 0), (0, 0), (1, 0), (0, 0)] 1, .blk 1, .code [(1, 0), (1, 0), (0, 0)] 2]) (σ' := ⟨[(0, .int .i64 a0), (1, .int .i64 a1), (5, .int .i64 v1), (18, .bool false)], []⟩) rfl ⟨hd3, (w_spec_HasPlayer a0 v1 v2 hk2), hd1, trivial⟩ rfl ?_
        refine Tri.run 2 [.g false] [.keep [0, 1, 5] []] (K' := []) (σ' := ⟨[(0, .int .i64 a0), (1, .int .i64 a1), (5, .int .i64 (IntKind.i64.wrap (v1 + (1 : Int))))], []⟩) rfl ⟨rfl, trivial⟩ rfl ?_
        have h := Option.some.inj h
        subst h
        exact Tri.nil ⟨rfl, rfl⟩
    · refine Tri.run 1 [.g false] [.keep [0, 1] []] (K' := [.code [(1, 0), (1, 0), (0, 0), (0, 0), (1, 1)] 0, .code [(1, 0), (1, 0), (0, 0)] 1]) (σ' := ⟨[(0, .int .i64 a0), (1, .int .i64 a1)], []⟩) rfl ⟨hd1, trivial⟩ rfl ?_
      have h := Option.some.inj h
      subst h
      exact Tri.out 0 rfl ⟨nofun, rfl, rfl⟩
  · intro e σ' hne hq
    rcases x1 with _ | r
    · obtain ⟨rfl, rfl⟩ := hq
      refine TriX.exit (K' := [.code [] 2]) rfl ?_
      obtain ⟨v4, hk7, h⟩ := bind_some h
      rcases bif_some h with ⟨hd8, h⟩ | ⟨hd8, h⟩
      · obtain ⟨v5, hk9, h⟩ := bind_some h
        refine Tri.run 1 [.r ⟨[], .bool v4, []⟩, .g true, .r ⟨[], .bool v5, []⟩] [.keep [4] []] (K' := [.code [] 3]) (σ' := ⟨[(4, .bool v5)], []⟩) rfl ⟨(w_spec_l2Good a1 v5 hk9), hd8, (w_spec_l2Good a0 v4 hk7), trivial⟩ rfl ?_
        have h := Option.some.inj h
        subst h
        exact Tri.ret rfl ⟨.inl rfl, rfl, rfl⟩
      · refine Tri.run 1 [.r ⟨[], .bool v4, []⟩, .g false] [.keep [4] []] (K' := [.code [] 3]) (σ' := ⟨[(4, .bool false)], []⟩) rfl ⟨hd8, (w_spec_l2Good a0 v4 hk7), trivial⟩ rfl ?_
        have h := Option.some.inj h
        subst h
        exact Tri.ret rfl ⟨.inl rfl, rfl, rfl⟩
    · obtain ⟨rfl, hq⟩ := hq
      have h := Option.some.inj h
      subst h
      exact TriX.ret ⟨.inl rfl, hq⟩
/-! spec.DividendsOf -/
noncomputable def E_spec_DividendsOf : Env := ⟨Try.prog, tys, (Try.f24.body).getD .skip, 43, tysOk, mixedOk⟩
abbrev q_spec_DividendsOf (r : List Int) (σ' : ASt) : Prop := resAV E_spec_DividendsOf.T σ' Try.f24.results.toList = some (.sl 1000 0) ∧ keepO σ'.ob (namesO [(1000, .arr 3 0 0 (.ints r))]) = [(1000, .arr 3 0 0 (.ints r))]
noncomputable def l_spec_DividendsOf_1 (v1 : Int) (v2 : List Int) : (Int × Int) → Option ((Int × Int) ⊕ Int)
  | (v4, v5) => (
bif decide (v5 < v1) then
((m_spec_IsSubset v5 v1).bind fun v6 =>
bif v6 then
(grd ((0 : Int) ≤ v5 ∧ v5 < (v2.length : Int)) <|
some (.inl (IntKind.i64.wrap (v4 - (v2.getD v5.toNat 0)), IntKind.i64.wrap (v5 + (1 : Int)))))
else
(some (.inl (v4, IntKind.i64.wrap (v5 + (1 : Int))))))
else
(some (.inr v4)))
noncomputable def l_spec_DividendsOf_0 (a0 : Int) (a1 : List Int) : (Int × (List Int)) → Option ((Int × (List Int)) ⊕ ((List Int)))
  | (v1, v2) => (
bif decide (v1 < (a1.length : Int)) then
((m_spec_IsValidGame a0 a1).bind fun v3 =>
bif v3 then
(grd ((0 : Int) ≤ v1 ∧ v1 < (a1.length : Int)) <|
(iter (l_spec_DividendsOf_1 v1 v2) (a1.getD v1.toNat 0, (0 : Int))).bind fun
| v7 => (
grd (v2.length + [v7].length ≤ room) <|
some (.inl (IntKind.i64.wrap (v1 + (1 : Int)), v2 ++ [v7]))))
else
(some (.inr v2)))
else
(some (.inr v2)))
noncomputable def m_spec_DividendsOf (a0 : Int) (a1 : List Int) : Option (List Int) :=
(iter (l_spec_DividendsOf_0 a0 a1) ((0 : Int), [])).bind fun
| v8 => (
some v8)
theorem w_spec_DividendsOf (a0 : Int) (a1 : List Int) (r : List Int) (h : m_spec_DividendsOf a0 a1 = some r) : AM.Spec Try.prog 24 [.agg [.int .i64 a0, .list (.ints a1)]] [] (.sl 1000 0) [(1000, .arr 3 0 0 (.ints r))] := by
  refine spec_of (E := E_spec_DividendsOf) Try.func24 rfl rfl rfl rfl ?_
  refine Tri.run 3 [] [.keep [1, 3, 4] [1, 7]] (K' := [.code [(2, 0), (1, 0)] 0, .blk 0, .code [] 3]) (σ' := ⟨[(1, .ptr 1 0), (3, .sl 7 0), (4, .int .i64 (0 : Int))], [(1, .box [.int .i64 a0, .list (.ints a1)]), (7, .arr 3 0 0 (.ints []))]⟩) rfl trivial rfl ?_
  obtain ⟨v8, hk11, h⟩ := bind_some h
  refine Tri.loop (K1 := [.code [(2, 0), (1, 0), (0, 0)] 0]) (K2 := [.blk 0, .code [] 3]) (fun (v1, v2) => ⟨[(1, .ptr 1 0), (3, .sl 7 0), (4, .int .i64 v1)], [(1, .box [.int .i64 a0, .list (.ints a1)]), (7, .arr 3 0 0 (.ints v2))]⟩) (fun x e σ' => match x with | v8 => e = .exit 0 ∧ σ' = ⟨[(3, .sl 7 0)], [(7, .arr 3 0 0 (.ints v8))]⟩) hk11 rfl rfl ?_ ?_
  · intro s x hs
    clear h
    have h := hs
    clear hs
    obtain ⟨v1, v2⟩ := s
    rcases bif_some h with ⟨hd1, h⟩ | ⟨hd1, h⟩
    · obtain ⟨v3, hk2, h⟩ := bind_some h
      refine Tri.run 1 [.g true, .r ⟨[], .bool v3, []⟩] [.keep [1, 3, 4, 16] [1, 7]] (K' := [.code [(2, 0), (1, 0), (0, 0), (0, 0)] 1, .code [(2, 0), (1, 0), (0, 0)] 1]) (σ' := ⟨[(1, .ptr 1 0), (3, .sl 7 0), (4, .int .i64 v1), (16, .bool v3)], [(1, .box [.int .i64 a0, .list (.ints a1)]), (7, .arr 3 0 0 (.ints v2))]⟩) rfl ⟨(w_spec_IsValidGame a0 a1 v3 hk2), hd1, trivial⟩ rfl ?_
      rcases bif_some h with ⟨hd3, h⟩ | ⟨hd3, h⟩
      · obtain ⟨hg4, h⟩ := grd_some h
        refine Tri.run 3 [.g true] [.keep [1, 3, 4, 5, 6] [1, 7]] (K' := [.code [(2, 0), (1, 0), (0, 0), (1, 0), (0, 0), (1, 0), (1, 0)] 0, .blk 2, .code [(2, 0), (1, 0), (0, 0), (1, 0), (0, 0)] 2, .blk 1, .code [(2, 0), (1, 0), (0, 0)] 2]) (σ' := ⟨[(1, .ptr 1 0), (3, .sl 7 0), (4, .int .i64 v1), (5, .int .i64 (a1.getD v1.toNat 0)), (6, .int .i64 (0 : Int))], [(1, .box [.int .i64 a0, .list (.ints a1)]), (7, .arr 3 0 0 (.ints v2))]⟩) rfl ⟨hg4, hd3, trivial⟩ rfl ?_
        obtain ⟨v7, hk9, h⟩ := bind_some h
        refine Tri.loop (K1 := [.code [(2, 0), (1, 0), (0, 0), (1, 0), (0, 0), (1, 0), (1, 0), (0, 0)] 0]) (K2 := [.blk 2, .code [(2, 0), (1, 0), (0, 0), (1, 0), (0, 0)] 2, .blk 1, .code [(2, 0), (1, 0), (0, 0)] 2]) (fun (v4, v5) => ⟨[(1, .ptr 1 0), (3, .sl 7 0), (4, .int .i64 v1), (5, .int .i64 v4), (6, .int .i64 v5)], [(1, .box [.int .i64 a0, .list (.ints a1)]), (7, .arr 3 0 0 (.ints v2))]⟩) (fun x e σ' => match x with | v7 => e = .exit 2 ∧ σ' = ⟨[(1, .ptr 1 0), (3, .sl 7 0), (4, .int .i64 v1), (5, .int .i64 v7)], [(1, .box [.int .i64 a0, .list (.ints a1)]), (7, .arr 3 0 0 (.ints v2))]⟩) hk9 rfl rfl ?_ ?_
        · intro s x hs
          clear h
          have h := hs
          clear hs
          obtain ⟨v4, v5⟩ := s
          refine Tri.run 1 [] [.keep [1, 3, 4, 5, 6, 26] [1, 7]] (K' := [.code [(2, 0), (1, 0), (0, 0), (1, 0), (0, 0), (1, 0), (1, 0), (0, 0), (0, 0)] 1, .code [(2, 0), (1, 0), (0, 0), (1, 0), (0, 0), (1, 0), (1, 0), (0, 0)] 1]) (σ' := ⟨[(1, .ptr 1 0), (3, .sl 7 0), (4, .int .i64 v1), (5, .int .i64 v4), (6, .int .i64 v5), (26, .bool (decide (v5 < v1)))], [(1, .box [.int .i64 a0, .list (.ints a1)]), (7, .arr 3 0 0 (.ints v2))]⟩) rfl trivial rfl ?_
          rcases bif_some h with ⟨hd5, h⟩ | ⟨hd5, h⟩
          · obtain ⟨v6, hk6, h⟩ := bind_some h
            refine Tri.run 2 [.g true, .r ⟨[], .bool v6, []⟩] [.keep [1, 3, 4, 5, 6, 31] [1, 7]] (K' := [.code [(2, 0), (1, 0), (0, 0), (1, 0), (0, 0), (1, 0), (1, 0), (0, 0), (1, 0), (0, 0)] 1, .blk 3, .code [(2, 0), (1, 0), (0, 0), (1, 0), (0, 0), (1, 0), (1, 0), (0, 0)] 2]) (σ' := ⟨[(1, .ptr 1 0), (3, .sl 7 0), (4, .int .i64 v1), (5, .int .i64 v4), (6, .int .i64 v5), (31, .bool v6)], [(1, .box [.int .i64 a0, .list (.ints a1)]), (7, .arr 3 0 0 (.ints v2))]⟩) rfl ⟨(w_spec_IsSubset v5 v1 v6 hk6), hd5, trivial⟩ rfl ?_
            rcases bif_some h with ⟨hd7, h⟩ | ⟨hd7, h⟩
            · obtain ⟨hg8, h⟩ := grd_some h
              refine Tri.run 3 [.g true] [.keep [1, 3, 4, 5, 6] [1, 7]] (K' := []) (σ' := ⟨[(1, .ptr 1 0), (3, .sl 7 0), (4, .int .i64 v1), (5, .int .i64 (IntKind.i64.wrap (v4 - (v2.getD v5.toNat 0)))), (6, .int .i64 (IntKind.i64.wrap (v5 + (1 : Int))))], [(1, .box [.int .i64 a0, .list (.ints a1)]), (7, .arr 3 0 0 (.ints v2))]⟩) rfl ⟨hg8, hd7, trivial⟩ rfl ?_
              have h := Option.some.inj h
              subst h
              exact Tri.nil ⟨rfl, rfl⟩
            · refine Tri.run 2 [.g false] [.keep [1, 3, 4, 5, 6] [1, 7]] (K' := []) (σ' := ⟨[(1, .ptr 1 0), (3, .sl 7 0), (4, .int .i64 v1), (5, .int .i64 v4), (6, .int .i64 (IntKind.i64.wrap (v5 + (1 : Int))))], [(1, .box [.int .i64 a0, .list (.ints a1)]), (7, .arr 3 0 0 (.ints v2))]⟩) rfl ⟨hd7, trivial⟩ rfl ?_
              have h := Option.some.inj h
              subst h
              exact Tri.nil ⟨rfl, rfl⟩
          · refine Tri.run 1 [.g false] [.keep [1, 3, 4, 5] [1, 7]] (K' := [.code [(2, 0), (1, 0), (0, 0), (1, 0), (0, 0), (1, 0), (1, 0), (0, 0), (0, 0), (1, 1)] 0, .code [(2, 0), (1, 0), (0, 0), (1, 0), (0, 0), (1, 0), (1, 0), (0, 0)] 1]) (σ' := ⟨[(1, .ptr 1 0), (3, .sl 7 0), (4, .int .i64 v1), (5, .int .i64 v4)], [(1, .box [.int .i64 a0, .list (.ints a1)]), (7, .arr 3 0 0 (.ints v2))]⟩) rfl ⟨hd5, trivial⟩ rfl ?_
            have h := Option.some.inj h
            subst h
            exact Tri.out 2 rfl ⟨nofun, rfl, rfl⟩
        · intro e σ' hne hq
          obtain ⟨rfl, rfl⟩ := hq
          refine TriX.exit (K' := [.code [(2, 0), (1, 0), (0, 0), (1, 0), (0, 0)] 2, .blk 1, .code [(2, 0), (1, 0), (0, 0)] 2]) rfl ?_
          obtain ⟨hg10, h⟩ := grd_some h
          refine Tri.run 2 [] [.rever 7, .keep [1, 3, 4] [1, 7]] (K' := []) (σ' := ⟨[(1, .ptr 1 0), (3, .sl 7 0), (4, .int .i64 (IntKind.i64.wrap (v1 + (1 : Int))))], [(1, .box [.int .i64 a0, .list (.ints a1)]), (7, .arr 3 0 0 (.ints (v2 ++ [v7])))]⟩) rfl ⟨hg10, trivial⟩ rfl ?_
          have h := Option.some.inj h
          subst h
          exact Tri.nil ⟨rfl, rfl⟩
      · refine Tri.run 1 [.g false] [.keep [3] [7]] (K' := [.code [(2, 0), (1, 0), (0, 0), (0, 0), (1, 1)] 0, .code [(2, 0), (1, 0), (0, 0)] 1]) (σ' := ⟨[(3, .sl 7 0)], [(7, .arr 3 0 0 (.ints v2))]⟩) rfl ⟨hd3, trivial⟩ rfl ?_
        have h := Option.some.inj h
        subst h
        exact Tri.out 0 rfl ⟨nofun, rfl, rfl⟩
    · refine Tri.run 1 [.g false] [.keep [1, 3, 4, 16] [1, 7]] (K' := [.code [(2, 0), (1, 0), (0, 0), (0, 0)] 1, .code [(2, 0), (1, 0), (0, 0)] 1]) (σ' := ⟨[(1, .ptr 1 0), (3, .sl 7 0), (4, .int .i64 v1), (16, .bool false)], [(1, .box [.int .i64 a0, .list (.ints a1)]), (7, .arr 3 0 0 (.ints v2))]⟩) rfl ⟨hd1, trivial⟩ rfl ?_
      refine Tri.run 1 [.g false] [.keep [3] [7]] (K' := [.code [(2, 0), (1, 0), (0, 0), (0, 0), (1, 1)] 0, .code [(2, 0), (1, 0), (0, 0)] 1]) (σ' := ⟨[(3, .sl 7 0)], [(7, .arr 3 0 0 (.ints v2))]⟩) rfl ⟨rfl, trivial⟩ rfl ?_
      have h := Option.some.inj h
      subst h
      exact Tri.out 0 rfl ⟨nofun, rfl, rfl⟩
  · intro e σ' hne hq
    obtain ⟨rfl, rfl⟩ := hq
    refine TriX.exit (K' := [.code [] 3]) rfl ?_
    refine Tri.run 1 [] [.swap 7 1000, .keep [2] [1000]] (K' := [.code [] 4]) (σ' := ⟨[(2, .sl 1000 0)], [(1000, .arr 3 0 0 (.ints v8))]⟩) rfl trivial rfl ?_
    have h := Option.some.inj h
    subst h
    exact Tri.ret rfl ⟨.inl rfl, rfl, rfl⟩
/-! impl.DividendsOf -/
noncomputable def E_impl_DividendsOf : Env := ⟨Try.prog, tys, (Try.f25.body).getD .skip, 47, tysOk, mixedOk⟩
abbrev q_impl_DividendsOf (r : List Int) (σ' : ASt) : Prop := resAV E_impl_DividendsOf.T σ' Try.f25.results.toList = some (.sl 1000 0) ∧ keepO σ'.ob (namesO [(1000, .arr 3 0 0 (.ints r))]) = [(1000, .arr 3 0 0 (.ints r))]
noncomputable def l_impl_DividendsOf_1 (v2 : Int) : (Int × (List Int)) → Option ((Int × (List Int)) ⊕ ((List Int)))
  | (v4, v5) => (
bif decide (v4 < v2) then
(bif (bitsOf .andNot .i64 v4 v2) == (0 : Int) then
(grd ((0 : Int) ≤ v2 ∧ v2 < (v5.length : Int)) <|
grd ((0 : Int) ≤ v4 ∧ v4 < (v5.length : Int)) <|
grd ((0 : Int) ≤ v2 ∧ v2 < (v5.length : Int)) <|
some (.inl (IntKind.i64.wrap (v4 + (1 : Int)), v5.set v2.toNat (IntKind.i64.wrap ((v5.getD v2.toNat 0) - (v5.getD v4.toNat 0))))))
else
(some (.inl (IntKind.i64.wrap (v4 + (1 : Int)), v5))))
else
(some (.inr v5)))
noncomputable def l_impl_DividendsOf_0 (a1 : List Int) : (Int × (List Int)) → Option ((Int × (List Int)) ⊕ ((List Int)))
  | (v2, v3) => (
bif decide (v2 < ((List.replicate (a1.length : Int).toNat (0 : Int)).length : Int)) then
(grd ((0 : Int) ≤ v2 ∧ v2 < (a1.length : Int)) <|
grd ((0 : Int) ≤ v2 ∧ v2 < (v3.length : Int)) <|
(iter (l_impl_DividendsOf_1 v2) ((0 : Int), v3.set v2.toNat (a1.getD v2.toNat 0))).bind fun
| v6 => (
some (.inl (IntKind.i64.wrap (v2 + (1 : Int)), v6))))
else
(some (.inr v3)))
noncomputable def m_impl_DividendsOf (a0 : Int) (a1 : List Int) : Option (List Int) :=
(m_impl_IsValidGame a0 a1).bind fun v1 =>
bif !v1 then
(some [])
else
(grd ((0 : Int) ≤ (a1.length : Int) ∧ (a1.length : Int) = (a1.length : Int) ∧ (a1.length : Int) ≤ (room : Int)) <|
(iter (l_impl_DividendsOf_0 a1) ((0 : Int), List.replicate (a1.length : Int).toNat (0 : Int))).bind fun
| v7 => (
some v7))
theorem w_impl_DividendsOf (a0 : Int) (a1 : List Int) (r : List Int) (h : m_impl_DividendsOf a0 a1 = some r) : AM.Spec Try.prog 25 [.agg [.int .i64 a0, .list (.ints a1)]] [] (.sl 1000 0) [(1000, .arr 3 0 0 (.ints r))] := by
  refine spec_of (E := E_impl_DividendsOf) Try.func25 rfl rfl rfl rfl ?_
  refine Tri.run 1 [] [.keep [1] [1]] (K' := [.code [(1, 0), (0, 0)] 0, .code [(1, 0)] 1, .code [] 2]) (σ' := ⟨[(1, .ptr 1 0)], [(1, .box [.int .i64 a0, .list (.ints a1)])]⟩) rfl trivial rfl ?_
  obtain ⟨v1, hk1, h⟩ := bind_some h
  refine Tri.run 1 [.r ⟨[], .bool v1, []⟩] [.keep [1, 8] [1]] (K' := [.code [(1, 0)] 1, .code [] 2]) (σ' := ⟨[(1, .ptr 1 0), (8, .bool (!v1))], [(1, .box [.int .i64 a0, .list (.ints a1)])]⟩) rfl ⟨(w_impl_IsValidGame a0 a1 v1 hk1), trivial⟩ rfl ?_
  rcases bif_some h with ⟨hd2, h⟩ | ⟨hd2, h⟩
  · refine Tri.run 2 [.g true] [.own 2 [] 1100 3, .swap 1100 1000, .keep [2] [1000]] (K' := [.code [(1, 0), (1, 0)] 1, .code [] 2]) (σ' := ⟨[(2, .sl 1000 0)], [(1000, .arr 3 0 0 (.ints []))]⟩) rfl ⟨hd2, trivial⟩ rfl ?_
    have h := Option.some.inj h
    subst h
    exact Tri.ret rfl ⟨.inl rfl, rfl, rfl⟩
  · obtain ⟨hg3, h⟩ := grd_some h
    refine Tri.run 3 [.g false] [.keep [1, 3, 14, 15] [1, 12]] (K' := [.code [(3, 0), (1, 0)] 0, .blk 0, .code [] 4]) (σ' := ⟨[(1, .ptr 1 0), (3, .sl 12 0), (14, .int .i64 ((List.replicate (a1.length : Int).toNat (0 : Int)).length : Int)), (15, .int .i64 (0 : Int))], [(1, .box [.int .i64 a0, .list (.ints a1)]), (12, .arr 3 0 0 (.ints (List.replicate (a1.length : Int).toNat (0 : Int))))]⟩) rfl ⟨hg3, hd2, trivial⟩ rfl ?_
    obtain ⟨v7, hk13, h⟩ := bind_some h
    refine Tri.loop (K1 := [.code [(3, 0), (1, 0), (0, 0)] 0]) (K2 := [.blk 0, .code [] 4]) (fun (v2, v3) => ⟨[(1, .ptr 1 0), (3, .sl 12 0), (14, .int .i64 ((List.replicate (a1.length : Int).toNat (0 : Int)).length : Int)), (15, .int .i64 v2)], [(1, .box [.int .i64 a0, .list (.ints a1)]), (12, .arr 3 0 0 (.ints v3))]⟩) (fun x e σ' => match x with | v7 => e = .exit 0 ∧ σ' = ⟨[(3, .sl 12 0)], [(12, .arr 3 0 0 (.ints v7))]⟩) hk13 rfl rfl ?_ ?_
    · intro s x hs
      clear h
      have h := hs
      clear hs
      obtain ⟨v2, v3⟩ := s
      refine Tri.run 1 [] [.keep [1, 3, 14, 15, 16] [1, 12]] (K' := [.code [(3, 0), (1, 0), (0, 0), (1, 0)] 0, .code [(3, 0), (1, 0), (0, 0)] 2]) (σ' := ⟨[(1, .ptr 1 0), (3, .sl 12 0), (14, .int .i64 ((List.replicate (a1.length : Int).toNat (0 : Int)).length : Int)), (15, .int .i64 v2), (16, .bool (decide (v2 < ((List.replicate (a1.length : Int).toNat (0 : Int)).length : Int))))], [(1, .box [.int .i64 a0, .list (.ints a1)]), (12, .arr 3 0 0 (.ints v3))]⟩) rfl trivial rfl ?_
      rcases bif_some h with ⟨hd4, h⟩ | ⟨hd4, h⟩
      · obtain ⟨hg5, h⟩ := grd_some h
        obtain ⟨hg6, h⟩ := grd_some h
        refine Tri.run 3 [.g true] [.keep [1, 3, 4, 14, 15] [1, 12]] (K' := [.code [(3, 0), (1, 0), (0, 0), (2, 0), (0, 0), (2, 0)] 0, .code [(3, 0), (1, 0), (0, 0), (2, 0), (0, 0)] 3, .blk 1, .code [(3, 0), (1, 0), (0, 0)] 3]) (σ' := ⟨[(1, .ptr 1 0), (3, .sl 12 0), (4, .int .i64 v2), (14, .int .i64 ((List.replicate (a1.length : Int).toNat (0 : Int)).length : Int)), (15, .int .i64 v2)], [(1, .box [.int .i64 a0, .list (.ints a1)]), (12, .arr 3 0 0 (.ints (v3.set v2.toNat (a1.getD v2.toNat 0))))]⟩) rfl ⟨hg6, hg5, hd4, trivial⟩ rfl ?_
        refine Tri.run 1 [] [.keep [1, 3, 4, 14, 15, 26, 27] [1, 12]] (K' := [.code [(3, 0), (1, 0), (0, 0), (2, 0), (0, 0), (3, 0)] 0, .blk 2, .blk 1, .code [(3, 0), (1, 0), (0, 0)] 3]) (σ' := ⟨[(1, .ptr 1 0), (3, .sl 12 0), (4, .int .i64 v2), (14, .int .i64 ((List.replicate (a1.length : Int).toNat (0 : Int)).length : Int)), (15, .int .i64 v2), (26, .int .i64 v2), (27, .int .i64 (0 : Int))], [(1, .box [.int .i64 a0, .list (.ints a1)]), (12, .arr 3 0 0 (.ints (v3.set v2.toNat (a1.getD v2.toNat 0))))]⟩) rfl trivial rfl ?_
        obtain ⟨v6, hk12, h⟩ := bind_some h
        refine Tri.loop (K1 := [.code [(3, 0), (1, 0), (0, 0), (2, 0), (0, 0), (3, 0), (0, 0)] 0]) (K2 := [.blk 2, .blk 1, .code [(3, 0), (1, 0), (0, 0)] 3]) (fun (v4, v5) => ⟨[(1, .ptr 1 0), (3, .sl 12 0), (4, .int .i64 v2), (14, .int .i64 ((List.replicate (a1.length : Int).toNat (0 : Int)).length : Int)), (15, .int .i64 v2), (26, .int .i64 v2), (27, .int .i64 v4)], [(1, .box [.int .i64 a0, .list (.ints a1)]), (12, .arr 3 0 0 (.ints v5))]⟩) (fun x e σ' => match x with | v6 => e = .exit 2 ∧ σ' = ⟨[(1, .ptr 1 0), (3, .sl 12 0), (14, .int .i64 ((List.replicate (a1.length : Int).toNat (0 : Int)).length : Int)), (15, .int .i64 v2)], [(1, .box [.int .i64 a0, .list (.ints a1)]), (12, .arr 3 0 0 (.ints v6))]⟩) hk12 rfl rfl ?_ ?_
        · intro s x hs
          clear h
          have h := hs
          clear hs
          obtain ⟨v4, v5⟩ := s
          refine Tri.run 1 [] [.keep [1, 3, 4, 14, 15, 26, 27, 28] [1, 12]] (K' := [.code [(3, 0), (1, 0), (0, 0), (2, 0), (0, 0), (3, 0), (0, 0), (1, 0)] 0, .code [(3, 0), (1, 0), (0, 0), (2, 0), (0, 0), (3, 0), (0, 0)] 2]) (σ' := ⟨[(1, .ptr 1 0), (3, .sl 12 0), (4, .int .i64 v2), (14, .int .i64 ((List.replicate (a1.length : Int).toNat (0 : Int)).length : Int)), (15, .int .i64 v2), (26, .int .i64 v2), (27, .int .i64 v4), (28, .bool (decide (v4 < v2)))], [(1, .box [.int .i64 a0, .list (.ints a1)]), (12, .arr 3 0 0 (.ints v5))]⟩) rfl trivial rfl ?_
          rcases bif_some h with ⟨hd7, h⟩ | ⟨hd7, h⟩
          · refine Tri.run 3 [.g true] [.keep [1, 3, 4, 5, 14, 15, 26, 27, 33] [1, 12]] (K' := [.code [(3, 0), (1, 0), (0, 0), (2, 0), (0, 0), (3, 0), (0, 0), (2, 0), (0, 0)] 2, .blk 3, .code [(3, 0), (1, 0), (0, 0), (2, 0), (0, 0), (3, 0), (0, 0)] 3]) (σ' := ⟨[(1, .ptr 1 0), (3, .sl 12 0), (4, .int .i64 v2), (5, .int .i64 v4), (14, .int .i64 ((List.replicate (a1.length : Int).toNat (0 : Int)).length : Int)), (15, .int .i64 v2), (26, .int .i64 v2), (27, .int .i64 v4), (33, .bool ((bitsOf .andNot .i64 v4 v2) == (0 : Int)))], [(1, .box [.int .i64 a0, .list (.ints a1)]), (12, .arr 3 0 0 (.ints v5))]⟩) rfl ⟨hd7, trivial⟩ rfl ?_
            rcases bif_some h with ⟨hd8, h⟩ | ⟨hd8, h⟩
            · obtain ⟨hg9, h⟩ := grd_some h
              obtain ⟨hg10, h⟩ := grd_some h
              obtain ⟨hg11, h⟩ := grd_some h
              refine Tri.run 3 [.g true] [.keep [1, 3, 4, 14, 15, 26, 27] [1, 12]] (K' := []) (σ' := ⟨[(1, .ptr 1 0), (3, .sl 12 0), (4, .int .i64 v2), (14, .int .i64 ((List.replicate (a1.length : Int).toNat (0 : Int)).length : Int)), (15, .int .i64 v2), (26, .int .i64 v2), (27, .int .i64 (IntKind.i64.wrap (v4 + (1 : Int))))], [(1, .box [.int .i64 a0, .list (.ints a1)]), (12, .arr 3 0 0 (.ints (v5.set v2.toNat (IntKind.i64.wrap ((v5.getD v2.toNat 0) - (v5.getD v4.toNat 0))))))]⟩) rfl ⟨hg11, hg10, hg9, hd8, trivial⟩ rfl ?_
              have h := Option.some.inj h
              subst h
              exact Tri.nil ⟨rfl, rfl⟩
            · refine Tri.run 2 [.g false] [.keep [1, 3, 4, 14, 15, 26, 27] [1, 12]] (K' := []) (σ' := ⟨[(1, .ptr 1 0), (3, .sl 12 0), (4, .int .i64 v2), (14, .int .i64 ((List.replicate (a1.length : Int).toNat (0 : Int)).length : Int)), (15, .int .i64 v2), (26, .int .i64 v2), (27, .int .i64 (IntKind.i64.wrap (v4 + (1 : Int))))], [(1, .box [.int .i64 a0, .list (.ints a1)]), (12, .arr 3 0 0 (.ints v5))]⟩) rfl ⟨hd8, trivial⟩ rfl ?_
              have h := Option.some.inj h
              subst h
              exact Tri.nil ⟨rfl, rfl⟩
          · refine Tri.run 1 [.g false] [.keep [1, 3, 14, 15] [1, 12]] (K' := [.code [(3, 0), (1, 0), (0, 0), (2, 0), (0, 0), (3, 0), (0, 0), (1, 0), (0, 1)] 0, .code [(3, 0), (1, 0), (0, 0), (2, 0), (0, 0), (3, 0), (0, 0)] 2]) (σ' := ⟨[(1, .ptr 1 0), (3, .sl 12 0), (14, .int .i64 ((List.replicate (a1.length : Int).toNat (0 : Int)).length : Int)), (15, .int .i64 v2)], [(1, .box [.int .i64 a0, .list (.ints a1)]), (12, .arr 3 0 0 (.ints v5))]⟩) rfl ⟨hd7, trivial⟩ rfl ?_
            have h := Option.some.inj h
            subst h
            exact Tri.out 2 rfl ⟨nofun, rfl, rfl⟩
        · intro e σ' hne hq
          obtain ⟨rfl, rfl⟩ := hq
          refine TriX.exit (K' := [.blk 1, .code [(3, 0), (1, 0), (0, 0)] 3]) rfl ?_
          refine Tri.run 1 [] [.keep [1, 3, 14, 15] [1, 12]] (K' := []) (σ' := ⟨[(1, .ptr 1 0), (3, .sl 12 0), (14, .int .i64 ((List.replicate (a1.length : Int).toNat (0 : Int)).length : Int)), (15, .int .i64 (IntKind.i64.wrap (v2 + (1 : Int))))], [(1, .box [.int .i64 a0, .list (.ints a1)]), (12, .arr 3 0 0 (.ints v6))]⟩) rfl trivial rfl ?_
          have h := Option.some.inj h
          subst h
          exact Tri.nil ⟨rfl, rfl⟩
      · refine Tri.run 1 [.g false] [.keep [3] [12]] (K' := [.code [(3, 0), (1, 0), (0, 0), (1, 0), (0, 1)] 0, .code [(3, 0), (1, 0), (0, 0)] 2]) (σ' := ⟨[(3, .sl 12 0)], [(12, .arr 3 0 0 (.ints v3))]⟩) rfl ⟨hd4, trivial⟩ rfl ?_
        have h := Option.some.inj h
        subst h
        exact Tri.out 0 rfl ⟨nofun, rfl, rfl⟩
    · intro e σ' hne hq
      obtain ⟨rfl, rfl⟩ := hq
      refine TriX.exit (K' := [.code [] 4]) rfl ?_
      refine Tri.run 1 [] [.swap 12 1000, .keep [2] [1000]] (K' := [.code [] 5]) (σ' := ⟨[(2, .sl 1000 0)], [(1000, .arr 3 0 0 (.ints v7))]⟩) rfl trivial rfl ?_
      have h := Option.some.inj h
      subst h
      exact Tri.ret rfl ⟨.inl rfl, rfl, rfl⟩
/-! laws.FnExactDividendsOf -/
noncomputable def E_laws_FnExactDividendsOf : Env := ⟨Try.prog, tys, (Try.f6.body).getD .skip, 69, tysOk, mixedOk⟩
abbrev q_laws_FnExactDividendsOf (r : Bool) (σ' : ASt) : Prop := resAV E_laws_FnExactDividendsOf.T σ' Try.f6.results.toList = some (.bool r) ∧ keepO σ'.ob (namesO []) = []
noncomputable def m_laws_FnExactDividendsOf (a0 : Int) (a1 : List Int) : Option Bool :=
(m_laws_szGame a0 a1 (1048576 : Int)).bind fun v1 =>
bif decide (v1 < (0 : Int)) then
(some true)
else
((m_laws_toGame a0 a1).bind fun (v2, v3) =>
(m_spec_DividendsOf v2 v3).bind fun v4 =>
(m_laws_toGame a0 a1).bind fun (v5, v6) =>
(m_impl_DividendsOf v5 v6).bind fun v7 =>
(m_laws_eqIntS v7 v4).bind fun v8 =>
bif !v8 then
(some false)
else
((m_laws_toGame a0 a1).bind fun (v9, v10) =>
(m_laws_eqGame v5 v6 v9 v10).bind fun v11 =>
bif !v11 then
(some false)
else
((m_laws_markGame_io1 v5 v6 (1 : Int)).bind fun (v12, _) =>
bif decide (v12 < (0 : Int)) then
(some false)
else
((m_laws_eqIntS v7 v4).bind fun v14 =>
bif !v14 then
(some false)
else
((m_laws_markIntS_io1 v7 (1 : Int)).bind fun (v15, v16) =>
(m_laws_heldIntS v16 (1 : Int)).bind fun v17 =>
bif decide (v17 < (0 : Int)) then
(some false)
else
(bif v17 != v15 then
(some false)
else
((m_laws_toGame a0 a1).bind fun (v18, v19) =>
(m_impl_DividendsOf v18 v19).bind fun v20 =>
(m_laws_eqIntS v20 v4).bind fun v21 =>
bif !v21 then
(some false)
else
((m_laws_heldIntS v16 (1 : Int)).bind fun v22 =>
bif decide (v22 < (0 : Int)) then
(some false)
else
(bif v22 != v15 then
(some false)
else
(some true))))))))))
theorem w_laws_FnExactDividendsOf (a0 : Int) (a1 : List Int) (r : Bool) (h : m_laws_FnExactDividendsOf a0 a1 = some r) : AM.Spec Try.prog 6 [.agg [.int .i64 a0, .list (.ints a1)]] [] (.bool r) [] := by
  refine spec_of (E := E_laws_FnExactDividendsOf) Try.func6 rfl rfl rfl rfl ?_
  refine Tri.run 2 [] [.keep [1, 3] [1]] (K' := [.code [(2, 0)] 0, .code [] 3]) (σ' := ⟨[(1, .ptr 1 0), (3, .int .i64 (1048576 : Int))], [(1, .box [.int .i64 a0, .list (.ints a1)])]⟩) rfl trivial rfl ?_
  obtain ⟨v1, hk1, h⟩ := bind_some h
  refine Tri.run 2 [.r ⟨[], .int .i64 v1, []⟩] [.keep [1, 15] [1]] (K' := [.code [(3, 0)] 1, .code [] 4]) (σ' := ⟨[(1, .ptr 1 0), (15, .bool (decide (v1 < (0 : Int))))], [(1, .box [.int .i64 a0, .list (.ints a1)])]⟩) rfl ⟨(w_laws_szGame a0 a1 (1048576 : Int) v1 hk1), trivial⟩ rfl ?_
  rcases bif_some h with ⟨hd2, h⟩ | ⟨hd2, h⟩
  · refine Tri.run 2 [.g true] [.keep [2] []] (K' := [.code [(3, 0), (1, 0)] 1, .code [] 4]) (σ' := ⟨[(2, .bool true)], []⟩) rfl ⟨hd2, trivial⟩ rfl ?_
    have h := Option.some.inj h
    subst h
    exact Tri.ret rfl ⟨.inl rfl, rfl, rfl⟩
  · obtain ⟨⟨v2, v3⟩, hk3, h⟩ := bind_some h
    obtain ⟨v4, hk4, h⟩ := bind_some h
    refine Tri.run 2 [.g false, .r ⟨[], .agg [.int .i64 v2, .sl 1100 0], [(1100, .arr 3 0 0 (.ints v3))]⟩, .r ⟨[], .sl 1101 0, [(1101, .arr 3 0 0 (.ints v4))]⟩] [.keep [1, 4] [1, 1101]] (K' := [.code [(5, 0)] 0, .code [] 6]) (σ' := ⟨[(1, .ptr 1 0), (4, .sl 1101 0)], [(1, .box [.int .i64 a0, .list (.ints a1)]), (1101, .arr 3 0 0 (.ints v4))]⟩) rfl ⟨((w_spec_DividendsOf v2 v3 v4 hk4).swap 1000 1101), ((w_laws_toGame a0 a1 (v2, v3) hk3).swap 1000 1100), hd2, trivial⟩ rfl ?_
    obtain ⟨⟨v5, v6⟩, hk5, h⟩ := bind_some h
    obtain ⟨v7, hk6, h⟩ := bind_some h
    refine Tri.run 2 [.r ⟨[], .agg [.int .i64 v5, .sl 1102 0], [(1102, .arr 3 0 0 (.ints v6))]⟩, .r ⟨[], .sl 1103 0, [(1103, .arr 3 0 0 (.ints v7))]⟩] [.keep [1, 4, 5, 6] [1, 5, 1101, 1102, 1103]] (K' := [.code [(7, 0), (0, 0)] 0, .code [(7, 0)] 1, .code [] 8]) (σ' := ⟨[(1, .ptr 1 0), (4, .sl 1101 0), (5, .ptr 5 0), (6, .sl 1103 0)], [(1, .box [.int .i64 a0, .list (.ints a1)]), (5, .box [.int .i64 v5, .sl 1102 0]), (1101, .arr 3 0 0 (.ints v4)), (1102, .arr 3 0 0 (.ints v6)), (1103, .arr 3 0 0 (.ints v7))]⟩) rfl ⟨((w_impl_DividendsOf v5 v6 v7 hk6).swap 1000 1103), ((w_laws_toGame a0 a1 (v5, v6) hk5).swap 1000 1102), trivial⟩ rfl ?_
    obtain ⟨v8, hk7, h⟩ := bind_some h
    refine Tri.run 1 [.r ⟨[], .bool v8, []⟩] [.keep [1, 4, 5, 6, 26] [1, 5, 1101, 1102, 1103]] (K' := [.code [(7, 0)] 1, .code [] 8]) (σ' := ⟨[(1, .ptr 1 0), (4, .sl 1101 0), (5, .ptr 5 0), (6, .sl 1103 0), (26, .bool (!v8))], [(1, .box [.int .i64 a0, .list (.ints a1)]), (5, .box [.int .i64 v5, .sl 1102 0]), (1101, .arr 3 0 0 (.ints v4)), (1102, .arr 3 0 0 (.ints v6)), (1103, .arr 3 0 0 (.ints v7))]⟩) rfl ⟨(w_laws_eqIntS v7 v4 v8 hk7), trivial⟩ rfl ?_
    rcases bif_some h with ⟨hd8, h⟩ | ⟨hd8, h⟩
    · refine Tri.run 2 [.g true] [.keep [2] []] (K' := [.code [(7, 0), (1, 0)] 1, .code [] 8]) (σ' := ⟨[(2, .bool false)], []⟩) rfl ⟨hd8, trivial⟩ rfl ?_
      have h := Option.some.inj h
      subst h
      exact Tri.ret rfl ⟨.inl rfl, rfl, rfl⟩
    · obtain ⟨⟨v9, v10⟩, hk9, h⟩ := bind_some h
      obtain ⟨v11, hk10, h⟩ := bind_some h
      refine Tri.run 2 [.g false, .r ⟨[], .agg [.int .i64 v9, .sl 1104 0], [(1104, .arr 3 0 0 (.ints v10))]⟩, .r ⟨[], .bool v11, []⟩] [.keep [1, 4, 5, 6, 31] [1, 5, 1101, 1102, 1103]] (K' := [.code [(8, 0)] 1, .code [] 9]) (σ' := ⟨[(1, .ptr 1 0), (4, .sl 1101 0), (5, .ptr 5 0), (6, .sl 1103 0), (31, .bool (!v11))], [(1, .box [.int .i64 a0, .list (.ints a1)]), (5, .box [.int .i64 v5, .sl 1102 0]), (1101, .arr 3 0 0 (.ints v4)), (1102, .arr 3 0 0 (.ints v6)), (1103, .arr 3 0 0 (.ints v7))]⟩) rfl ⟨(w_laws_eqGame v5 v6 v9 v10 v11 hk10), ((w_laws_toGame a0 a1 (v9, v10) hk9).swap 1000 1104), hd8, trivial⟩ rfl ?_
      rcases bif_some h with ⟨hd11, h⟩ | ⟨hd11, h⟩
      · refine Tri.run 2 [.g true] [.keep [2] []] (K' := [.code [(8, 0), (1, 0)] 1, .code [] 9]) (σ' := ⟨[(2, .bool false)], []⟩) rfl ⟨hd11, trivial⟩ rfl ?_
        have h := Option.some.inj h
        subst h
        exact Tri.ret rfl ⟨.inl rfl, rfl, rfl⟩
      · refine Tri.run 2 [.g false] [.keep [1, 4, 5, 6, 7] [1, 5, 1101, 1102, 1103]] (K' := [.code [(10, 0)] 0, .code [] 11]) (σ' := ⟨[(1, .ptr 1 0), (4, .sl 1101 0), (5, .ptr 5 0), (6, .sl 1103 0), (7, .int .i64 (1 : Int))], [(1, .box [.int .i64 a0, .list (.ints a1)]), (5, .box [.int .i64 v5, .sl 1102 0]), (1101, .arr 3 0 0 (.ints v4)), (1102, .arr 3 0 0 (.ints v6)), (1103, .arr 3 0 0 (.ints v7))]⟩) rfl ⟨hd11, trivial⟩ rfl ?_
        obtain ⟨⟨v12, v13⟩, hk12, h⟩ := bind_some h
        rcases bif_some h with ⟨hd13, h⟩ | ⟨hd13, h⟩
        · refine Tri.run 2 [.r ⟨[1102], .int .i64 v12, [(1102, .arr 3 0 0 (.ints v13))]⟩, .g true] [.keep [1, 4, 6, 42] [1, 1101, 1103]] (K' := [.code [(11, 0)] 1, .code [] 12]) (σ' := ⟨[(1, .ptr 1 0), (4, .sl 1101 0), (6, .sl 1103 0), (42, .bool true)], [(1, .box [.int .i64 a0, .list (.ints a1)]), (1101, .arr 3 0 0 (.ints v4)), (1103, .arr 3 0 0 (.ints v7))]⟩) rfl ⟨hd13, ((w_laws_markGame_io1 v5 v6 (1 : Int) (v12, v13) hk12).swap 2000 1102), trivial⟩ rfl ?_
          refine Tri.run 2 [.g true] [.keep [2] []] (K' := [.code [(11, 0), (1, 0)] 1, .code [] 12]) (σ' := ⟨[(2, .bool false)], []⟩) rfl ⟨rfl, trivial⟩ rfl ?_
          have h := Option.some.inj h
          subst h
          exact Tri.ret rfl ⟨.inl rfl, rfl, rfl⟩
        · obtain ⟨v14, hk14, h⟩ := bind_some h
          refine Tri.run 2 [.r ⟨[1102], .int .i64 v12, [(1102, .arr 3 0 0 (.ints v13))]⟩, .g false, .r ⟨[], .bool v14, []⟩] [.keep [1, 4, 6, 42] [1, 1101, 1103]] (K' := [.code [(11, 0)] 1, .code [] 12]) (σ' := ⟨[(1, .ptr 1 0), (4, .sl 1101 0), (6, .sl 1103 0), (42, .bool (!v14))], [(1, .box [.int .i64 a0, .list (.ints a1)]), (1101, .arr 3 0 0 (.ints v4)), (1103, .arr 3 0 0 (.ints v7))]⟩) rfl ⟨(w_laws_eqIntS v7 v4 v14 hk14), hd13, ((w_laws_markGame_io1 v5 v6 (1 : Int) (v12, v13) hk12).swap 2000 1102), trivial⟩ rfl ?_
          rcases bif_some h with ⟨hd15, h⟩ | ⟨hd15, h⟩
          · refine Tri.run 2 [.g true] [.keep [2] []] (K' := [.code [(11, 0), (1, 0)] 1, .code [] 12]) (σ' := ⟨[(2, .bool false)], []⟩) rfl ⟨hd15, trivial⟩ rfl ?_
            have h := Option.some.inj h
            subst h
            exact Tri.ret rfl ⟨.inl rfl, rfl, rfl⟩
          · refine Tri.run 2 [.g false] [.keep [1, 4, 6, 8] [1, 1101, 1103]] (K' := [.code [(13, 0)] 0, .code [] 14]) (σ' := ⟨[(1, .ptr 1 0), (4, .sl 1101 0), (6, .sl 1103 0), (8, .int .i64 (1 : Int))], [(1, .box [.int .i64 a0, .list (.ints a1)]), (1101, .arr 3 0 0 (.ints v4)), (1103, .arr 3 0 0 (.ints v7))]⟩) rfl ⟨hd15, trivial⟩ rfl ?_
            obtain ⟨⟨v15, v16⟩, hk16, h⟩ := bind_some h
            refine Tri.run 2 [.r ⟨[1103], .int .i64 v15, [(1103, .arr 3 0 0 (.ints v16))]⟩] [.keep [1, 4, 6, 8, 9] [1, 1101, 1103]] (K' := [.code [(15, 0)] 0, .code [] 16]) (σ' := ⟨[(1, .ptr 1 0), (4, .sl 1101 0), (6, .sl 1103 0), (8, .int .i64 v15), (9, .int .i64 (1 : Int))], [(1, .box [.int .i64 a0, .list (.ints a1)]), (1101, .arr 3 0 0 (.ints v4)), (1103, .arr 3 0 0 (.ints v16))]⟩) rfl ⟨((w_laws_markIntS_io1 v7 (1 : Int) (v15, v16) hk16).swap 2020 1103), trivial⟩ rfl ?_
            obtain ⟨v17, hk17, h⟩ := bind_some h
            refine Tri.run 2 [.r ⟨[], .int .i64 v17, []⟩] [.keep [1, 4, 6, 8, 9, 50] [1, 1101, 1103]] (K' := [.code [(16, 0)] 1, .code [] 17]) (σ' := ⟨[(1, .ptr 1 0), (4, .sl 1101 0), (6, .sl 1103 0), (8, .int .i64 v15), (9, .int .i64 v17), (50, .bool (decide (v17 < (0 : Int))))], [(1, .box [.int .i64 a0, .list (.ints a1)]), (1101, .arr 3 0 0 (.ints v4)), (1103, .arr 3 0 0 (.ints v16))]⟩) rfl ⟨(w_laws_heldIntS v16 (1 : Int) v17 hk17), trivial⟩ rfl ?_
            rcases bif_some h with ⟨hd18, h⟩ | ⟨hd18, h⟩
            · refine Tri.run 2 [.g true] [.keep [2] []] (K' := [.code [(16, 0), (1, 0)] 1, .code [] 17]) (σ' := ⟨[(2, .bool false)], []⟩) rfl ⟨hd18, trivial⟩ rfl ?_
              have h := Option.some.inj h
              subst h
              exact Tri.ret rfl ⟨.inl rfl, rfl, rfl⟩
            · refine Tri.run 2 [.g false] [.keep [1, 4, 6, 8, 53] [1, 1101, 1103]] (K' := [.code [(17, 0)] 1, .code [] 18]) (σ' := ⟨[(1, .ptr 1 0), (4, .sl 1101 0), (6, .sl 1103 0), (8, .int .i64 v15), (53, .bool (v17 != v15))], [(1, .box [.int .i64 a0, .list (.ints a1)]), (1101, .arr 3 0 0 (.ints v4)), (1103, .arr 3 0 0 (.ints v16))]⟩) rfl ⟨hd18, trivial⟩ rfl ?_
              rcases bif_some h with ⟨hd19, h⟩ | ⟨hd19, h⟩
              · refine Tri.run 2 [.g true] [.keep [2] []] (K' := [.code [(17, 0), (1, 0)] 1, .code [] 18]) (σ' := ⟨[(2, .bool false)], []⟩) rfl ⟨hd19, trivial⟩ rfl ?_
                have h := Option.some.inj h
                subst h
                exact Tri.ret rfl ⟨.inl rfl, rfl, rfl⟩
              · obtain ⟨⟨v18, v19⟩, hk20, h⟩ := bind_some h
                obtain ⟨v20, hk21, h⟩ := bind_some h
                refine Tri.run 2 [.g false, .r ⟨[], .agg [.int .i64 v18, .sl 1105 0], [(1105, .arr 3 0 0 (.ints v19))]⟩, .r ⟨[], .sl 1106 0, [(1106, .arr 3 0 0 (.ints v20))]⟩] [.keep [4, 6, 8, 10] [1101, 1103, 1106]] (K' := [.code [(19, 0), (0, 0)] 0, .code [(19, 0)] 1, .code [] 20]) (σ' := ⟨[(4, .sl 1101 0), (6, .sl 1103 0), (8, .int .i64 v15), (10, .sl 1106 0)], [(1101, .arr 3 0 0 (.ints v4)), (1103, .arr 3 0 0 (.ints v16)), (1106, .arr 3 0 0 (.ints v20))]⟩) rfl ⟨((w_impl_DividendsOf v18 v19 v20 hk21).swap 1000 1106), ((w_laws_toGame a0 a1 (v18, v19) hk20).swap 1000 1105), hd19, trivial⟩ rfl ?_
                obtain ⟨v21, hk22, h⟩ := bind_some h
                refine Tri.run 1 [.r ⟨[], .bool v21, []⟩] [.keep [6, 8, 60] [1103]] (K' := [.code [(19, 0)] 1, .code [] 20]) (σ' := ⟨[(6, .sl 1103 0), (8, .int .i64 v15), (60, .bool (!v21))], [(1103, .arr 3 0 0 (.ints v16))]⟩) rfl ⟨(w_laws_eqIntS v20 v4 v21 hk22), trivial⟩ rfl ?_
                rcases bif_some h with ⟨hd23, h⟩ | ⟨hd23, h⟩
                · refine Tri.run 2 [.g true] [.keep [2] []] (K' := [.code [(19, 0), (1, 0)] 1, .code [] 20]) (σ' := ⟨[(2, .bool false)], []⟩) rfl ⟨hd23, trivial⟩ rfl ?_
                  have h := Option.some.inj h
                  subst h
                  exact Tri.ret rfl ⟨.inl rfl, rfl, rfl⟩
                · refine Tri.run 2 [.g false] [.keep [6, 8, 9] [1103]] (K' := [.code [(21, 0)] 0, .code [] 22]) (σ' := ⟨[(6, .sl 1103 0), (8, .int .i64 v15), (9, .int .i64 (1 : Int))], [(1103, .arr 3 0 0 (.ints v16))]⟩) rfl ⟨hd23, trivial⟩ rfl ?_
                  obtain ⟨v22, hk24, h⟩ := bind_some h
                  refine Tri.run 2 [.r ⟨[], .int .i64 v22, []⟩] [.keep [8, 9, 65] []] (K' := [.code [(22, 0)] 1, .code [] 23]) (σ' := ⟨[(8, .int .i64 v15), (9, .int .i64 v22), (65, .bool (decide (v22 < (0 : Int))))], []⟩) rfl ⟨(w_laws_heldIntS v16 (1 : Int) v22 hk24), trivial⟩ rfl ?_
                  rcases bif_some h with ⟨hd25, h⟩ | ⟨hd25, h⟩
                  · refine Tri.run 2 [.g true] [.keep [2] []] (K' := [.code [(22, 0), (1, 0)] 1, .code [] 23]) (σ' := ⟨[(2, .bool false)], []⟩) rfl ⟨hd25, trivial⟩ rfl ?_
                    have h := Option.some.inj h
                    subst h
                    exact Tri.ret rfl ⟨.inl rfl, rfl, rfl⟩
                  · refine Tri.run 2 [.g false] [.keep [68] []] (K' := [.code [(23, 0)] 1, .code [] 24]) (σ' := ⟨[(68, .bool (v22 != v15))], []⟩) rfl ⟨hd25, trivial⟩ rfl ?_
                    rcases bif_some h with ⟨hd26, h⟩ | ⟨hd26, h⟩
                    · refine Tri.run 2 [.g true] [.keep [2] []] (K' := [.code [(23, 0), (1, 0)] 1, .code [] 24]) (σ' := ⟨[(2, .bool false)], []⟩) rfl ⟨hd26, trivial⟩ rfl ?_
                      have h := Option.some.inj h
                      subst h
                      exact Tri.ret rfl ⟨.inl rfl, rfl, rfl⟩
                    · refine Tri.run 2 [.g false] [.keep [2] []] (K' := [.code [] 25]) (σ' := ⟨[(2, .bool true)], []⟩) rfl ⟨hd26, trivial⟩ rfl ?_
                      have h := Option.some.inj h
                      subst h
                      exact Tri.ret rfl ⟨.inl rfl, rfl, rfl⟩
/-! spec.l8Copy -/
noncomputable def E_spec_l8Copy : Env := ⟨Try.prog, tys, (Try.f42.body).getD .skip, 10, tysOk, mixedOk⟩
abbrev q_spec_l8Copy (r : Int × (List Int)) (σ' : ASt) : Prop := resAV E_spec_l8Copy.T σ' Try.f42.results.toList = some (.agg [.int .i64 r.1, .sl 1000 0]) ∧ keepO σ'.ob (namesO [(1000, .arr 3 0 0 (.ints r.2))]) = [(1000, .arr 3 0 0 (.ints r.2))]
noncomputable def m_spec_l8Copy (a0 : Int) (a1 : List Int) : Option (Int × (List Int)) :=
grd (([] : List Int).length + a1.length ≤ room) <|
some (a0, [] ++ a1)
theorem w_spec_l8Copy (a0 : Int) (a1 : List Int) (r : Int × (List Int)) (h : m_spec_l8Copy a0 a1 = some r) : AM.Spec Try.prog 42 [.agg [.int .i64 a0, .list (.ints a1)]] [] (.agg [.int .i64 r.1, .sl 1000 0]) [(1000, .arr 3 0 0 (.ints r.2))] := by
  refine spec_of (E := E_spec_l8Copy) Try.func42 rfl rfl rfl rfl ?_
  obtain ⟨hg1, h⟩ := grd_some h
  refine Tri.run 2 [] [.rever 5, .swap 5 1000, .keep [2] [2, 1000]] (K' := [.code [] 2]) (σ' := ⟨[(2, .ptr 2 0)], [(2, .box [.int .i64 a0, .sl 1000 0]), (1000, .arr 3 0 0 (.ints ([] ++ a1)))]⟩) rfl ⟨hg1, trivial⟩ rfl ?_
  have h := Option.some.inj h
  subst h
  exact Tri.ret rfl ⟨.inl rfl, rfl, rfl⟩
/-! spec.AddGames -/
noncomputable def E_spec_AddGames : Env := ⟨Try.prog, tys, (Try.f26.body).getD .skip, 53, tysOk, mixedOk⟩
abbrev q_spec_AddGames (r : Int × Bool × (List Int)) (σ' : ASt) : Prop := resAV E_spec_AddGames.T σ' Try.f26.results.toList = some (.tuple [.agg [.int .i64 r.1, .sl 1000 0], .bool r.2.1]) ∧ keepO σ'.ob (namesO [(1000, .arr 3 0 0 (.ints r.2.2))]) = [(1000, .arr 3 0 0 (.ints r.2.2))]
noncomputable def l_spec_AddGames_0 (a1 : List Int) (a3 : List Int) : (Int × (List Int)) → Option ((Int × (List Int)) ⊕ ((List Int)))
  | (v5, v6) => (
bif decide (v5 < (v6.length : Int)) then
(grd ((0 : Int) ≤ v5 ∧ v5 < (a1.length : Int)) <|
grd ((0 : Int) ≤ v5 ∧ v5 < (a3.length : Int)) <|
grd ((0 : Int) ≤ v5 ∧ v5 < (v6.length : Int)) <|
some (.inl (IntKind.i64.wrap (v5 + (1 : Int)), v6.set v5.toNat (IntKind.i64.wrap ((a1.getD v5.toNat 0) + (a3.getD v5.toNat 0))))))
else
(some (.inr v6)))
noncomputable def m_spec_AddGames (a0 : Int) (a1 : List Int) (a2 : Int) (a3 : List Int) : Option (Int × Bool × (List Int)) :=
(m_spec_IsValidGame a0 a1).bind fun v1 =>
bif !v1 then
(some (0, false, []))
else
((m_spec_IsValidGame a2 a3).bind fun v2 =>
bif !v2 then
(some (0, false, []))
else
(bif a0 != a2 then
(some (0, false, []))
else
((m_spec_l8Copy a0 a1).bind fun (v3, v4) =>
(iter (l_spec_AddGames_0 a1 a3) ((0 : Int), v4)).bind fun
| v7 => (
(m_spec_IsValidGame v3 v7).bind fun v8 =>
bif !v8 then
(some (0, false, []))
else
(some (v3, true, v7))))))
theorem w_spec_AddGames (a0 : Int) (a1 : List Int) (a2 : Int) (a3 : List Int) (r : Int × Bool × (List Int)) (h : m_spec_AddGames a0 a1 a2 a3 = some r) : AM.Spec Try.prog 26 [.agg [.int .i64 a0, .list (.ints a1)], .agg [.int .i64 a2, .list (.ints a3)]] [] (.tuple [.agg [.int .i64 r.1, .sl 1000 0], .bool r.2.1]) [(1000, .arr 3 0 0 (.ints r.2.2))] := by
  refine spec_of (E := E_spec_AddGames) Try.func26 rfl rfl rfl rfl ?_
  refine Tri.run 1 [] [.keep [2, 3, 4] [2, 3, 4]] (K' := [.code [(1, 0), (0, 0)] 0, .code [(1, 0)] 1, .code [] 2]) (σ' := ⟨[(2, .ptr 2 0), (3, .ptr 3 0), (4, .ptr 4 0)], [(2, .box [.int .i64 a0, .list (.ints a1)]), (3, .box [.int .i64 a2, .list (.ints a3)]), (4, .box [.int .i64 0, .nil (.ints [])])]⟩) rfl trivial rfl ?_
  obtain ⟨v1, hk1, h⟩ := bind_some h
  rcases bif_some h with ⟨hd2, h⟩ | ⟨hd2, h⟩
  · refine Tri.run 1 [.r ⟨[], .bool v1, []⟩, .g true, .g true] [.keep [2, 3, 4, 22] [2, 3, 4]] (K' := [.code [(1, 0)] 1, .code [] 2]) (σ' := ⟨[(2, .ptr 2 0), (3, .ptr 3 0), (4, .ptr 4 0), (22, .bool true)], [(2, .box [.int .i64 a0, .list (.ints a1)]), (3, .box [.int .i64 a2, .list (.ints a3)]), (4, .box [.int .i64 0, .nil (.ints [])])]⟩) rfl ⟨rfl, hd2, (w_spec_IsValidGame a0 a1 v1 hk1), trivial⟩ rfl ?_
    refine Tri.run 2 [.g true] [.ownc 4 1 1100 3, .swap 1100 1000, .keep [4, 5] [4, 1000]] (K' := [.code [(1, 0), (1, 0)] 1, .code [] 2]) (σ' := ⟨[(4, .ptr 4 0), (5, .bool false)], [(4, .box [.int .i64 0, .sl 1000 0]), (1000, .arr 3 0 0 (.ints []))]⟩) rfl ⟨rfl, trivial⟩ rfl ?_
    have h := Option.some.inj h
    subst h
    exact Tri.ret rfl ⟨.inl rfl, rfl, rfl⟩
  · obtain ⟨v2, hk3, h⟩ := bind_some h
    rcases bif_some h with ⟨hd4, h⟩ | ⟨hd4, h⟩
    · refine Tri.run 1 [.r ⟨[], .bool v1, []⟩, .g false, .r ⟨[], .bool v2, []⟩, .g true] [.keep [2, 3, 4, 22] [2, 3, 4]] (K' := [.code [(1, 0)] 1, .code [] 2]) (σ' := ⟨[(2, .ptr 2 0), (3, .ptr 3 0), (4, .ptr 4 0), (22, .bool true)], [(2, .box [.int .i64 a0, .list (.ints a1)]), (3, .box [.int .i64 a2, .list (.ints a3)]), (4, .box [.int .i64 0, .nil (.ints [])])]⟩) rfl ⟨hd4, (w_spec_IsValidGame a2 a3 v2 hk3), hd2, (w_spec_IsValidGame a0 a1 v1 hk1), trivial⟩ rfl ?_
      refine Tri.run 2 [.g true] [.ownc 4 1 1101 3, .swap 1101 1000, .keep [4, 5] [4, 1000]] (K' := [.code [(1, 0), (1, 0)] 1, .code [] 2]) (σ' := ⟨[(4, .ptr 4 0), (5, .bool false)], [(4, .box [.int .i64 0, .sl 1000 0]), (1000, .arr 3 0 0 (.ints []))]⟩) rfl ⟨rfl, trivial⟩ rfl ?_
      have h := Option.some.inj h
      subst h
      exact Tri.ret rfl ⟨.inl rfl, rfl, rfl⟩
    · refine Tri.run 1 [.r ⟨[], .bool v1, []⟩, .g false, .r ⟨[], .bool v2, []⟩, .g false] [.keep [2, 3, 4, 22] [2, 3, 4]] (K' := [.code [(1, 0)] 1, .code [] 2]) (σ' := ⟨[(2, .ptr 2 0), (3, .ptr 3 0), (4, .ptr 4 0), (22, .bool (a0 != a2))], [(2, .box [.int .i64 a0, .list (.ints a1)]), (3, .box [.int .i64 a2, .list (.ints a3)]), (4, .box [.int .i64 0, .nil (.ints [])])]⟩) rfl ⟨hd4, (w_spec_IsValidGame a2 a3 v2 hk3), hd2, (w_spec_IsValidGame a0 a1 v1 hk1), trivial⟩ rfl ?_
      rcases bif_some h with ⟨hd5, h⟩ | ⟨hd5, h⟩
      · refine Tri.run 2 [.g true] [.ownc 4 1 1102 3, .swap 1102 1000, .keep [4, 5] [4, 1000]] (K' := [.code [(1, 0), (1, 0)] 1, .code [] 2]) (σ' := ⟨[(4, .ptr 4 0), (5, .bool false)], [(4, .box [.int .i64 0, .sl 1000 0]), (1000, .arr 3 0 0 (.ints []))]⟩) rfl ⟨hd5, trivial⟩ rfl ?_
        have h := Option.some.inj h
        subst h
        exact Tri.ret rfl ⟨.inl rfl, rfl, rfl⟩
      · obtain ⟨⟨v3, v4⟩, hk6, h⟩ := bind_some h
        refine Tri.run 3 [.g false, .r ⟨[], .agg [.int .i64 v3, .sl 1103 0], [(1103, .arr 3 0 0 (.ints v4))]⟩] [.ownc 4 1 1104 3, .keep [2, 3, 4, 6, 7] [2, 3, 4, 6, 1103, 1104]] (K' := [.code [(3, 0), (1, 0)] 0, .blk 0, .code [] 4]) (σ' := ⟨[(2, .ptr 2 0), (3, .ptr 3 0), (4, .ptr 4 0), (6, .ptr 6 0), (7, .int .i64 (0 : Int))], [(2, .box [.int .i64 a0, .list (.ints a1)]), (3, .box [.int .i64 a2, .list (.ints a3)]), (4, .box [.int .i64 0, .sl 1104 0]), (6, .box [.int .i64 v3, .sl 1103 0]), (1103, .arr 3 0 0 (.ints v4)), (1104, .arr 3 0 0 (.ints []))]⟩) rfl ⟨((w_spec_l8Copy a0 a1 (v3, v4) hk6).swap 1000 1103), hd5, trivial⟩ rfl ?_
        obtain ⟨v7, hk11, h⟩ := bind_some h
        refine Tri.loop (K1 := [.code [(3, 0), (1, 0), (0, 0)] 0]) (K2 := [.blk 0, .code [] 4]) (fun (v5, v6) => ⟨[(2, .ptr 2 0), (3, .ptr 3 0), (4, .ptr 4 0), (6, .ptr 6 0), (7, .int .i64 v5)], [(2, .box [.int .i64 a0, .list (.ints a1)]), (3, .box [.int .i64 a2, .list (.ints a3)]), (4, .box [.int .i64 0, .sl 1104 0]), (6, .box [.int .i64 v3, .sl 1103 0]), (1103, .arr 3 0 0 (.ints v6)), (1104, .arr 3 0 0 (.ints []))]⟩) (fun x e σ' => match x with | v7 => e = .exit 0 ∧ σ' = ⟨[(4, .ptr 4 0), (6, .ptr 6 0)], [(4, .box [.int .i64 0, .sl 1104 0]), (6, .box [.int .i64 v3, .sl 1103 0]), (1103, .arr 3 0 0 (.ints v7)), (1104, .arr 3 0 0 (.ints []))]⟩) hk11 rfl rfl ?_ ?_
        · intro s x hs
          clear h
          have h := hs
          clear hs
          obtain ⟨v5, v6⟩ := s
          refine Tri.run 1 [] [.keep [2, 3, 4, 6, 7, 30] [2, 3, 4, 6, 1103, 1104]] (K' := [.code [(3, 0), (1, 0), (0, 0), (0, 0)] 1, .code [(3, 0), (1, 0), (0, 0)] 1]) (σ' := ⟨[(2, .ptr 2 0), (3, .ptr 3 0), (4, .ptr 4 0), (6, .ptr 6 0), (7, .int .i64 v5), (30, .bool (decide (v5 < (v6.length : Int))))], [(2, .box [.int .i64 a0, .list (.ints a1)]), (3, .box [.int .i64 a2, .list (.ints a3)]), (4, .box [.int .i64 0, .sl 1104 0]), (6, .box [.int .i64 v3, .sl 1103 0]), (1103, .arr 3 0 0 (.ints v6)), (1104, .arr 3 0 0 (.ints []))]⟩) rfl trivial rfl ?_
          rcases bif_some h with ⟨hd7, h⟩ | ⟨hd7, h⟩
          · obtain ⟨hg8, h⟩ := grd_some h
            obtain ⟨hg9, h⟩ := grd_some h
            obtain ⟨hg10, h⟩ := grd_some h
            refine Tri.run 3 [.g true] [.keep [2, 3, 4, 6, 7] [2, 3, 4, 6, 1103, 1104]] (K' := []) (σ' := ⟨[(2, .ptr 2 0), (3, .ptr 3 0), (4, .ptr 4 0), (6, .ptr 6 0), (7, .int .i64 (IntKind.i64.wrap (v5 + (1 : Int))))], [(2, .box [.int .i64 a0, .list (.ints a1)]), (3, .box [.int .i64 a2, .list (.ints a3)]), (4, .box [.int .i64 0, .sl 1104 0]), (6, .box [.int .i64 v3, .sl 1103 0]), (1103, .arr 3 0 0 (.ints (v6.set v5.toNat (IntKind.i64.wrap ((a1.getD v5.toNat 0) + (a3.getD v5.toNat 0)))))), (1104, .arr 3 0 0 (.ints []))]⟩) rfl ⟨hg10, hg9, hg8, hd7, trivial⟩ rfl ?_
            have h := Option.some.inj h
            subst h
            exact Tri.nil ⟨rfl, rfl⟩
          · refine Tri.run 1 [.g false] [.keep [4, 6] [4, 6, 1103, 1104]] (K' := [.code [(3, 0), (1, 0), (0, 0), (0, 0), (1, 1)] 0, .code [(3, 0), (1, 0), (0, 0)] 1]) (σ' := ⟨[(4, .ptr 4 0), (6, .ptr 6 0)], [(4, .box [.int .i64 0, .sl 1104 0]), (6, .box [.int .i64 v3, .sl 1103 0]), (1103, .arr 3 0 0 (.ints v6)), (1104, .arr 3 0 0 (.ints []))]⟩) rfl ⟨hd7, trivial⟩ rfl ?_
            have h := Option.some.inj h
            subst h
            exact Tri.out 0 rfl ⟨nofun, rfl, rfl⟩
        · intro e σ' hne hq
          obtain ⟨rfl, rfl⟩ := hq
          refine TriX.exit (K' := [.code [] 4]) rfl ?_
          obtain ⟨v8, hk12, h⟩ := bind_some h
          refine Tri.run 1 [.r ⟨[], .bool v8, []⟩] [.keep [4, 6, 50] [4, 6, 1103, 1104]] (K' := [.code [(4, 0)] 1, .code [] 5]) (σ' := ⟨[(4, .ptr 4 0), (6, .ptr 6 0), (50, .bool (!v8))], [(4, .box [.int .i64 0, .sl 1104 0]), (6, .box [.int .i64 v3, .sl 1103 0]), (1103, .arr 3 0 0 (.ints v7)), (1104, .arr 3 0 0 (.ints []))]⟩) rfl ⟨(w_spec_IsValidGame v3 v7 v8 hk12), trivial⟩ rfl ?_
          rcases bif_some h with ⟨hd13, h⟩ | ⟨hd13, h⟩
          · refine Tri.run 2 [.g true] [.ownc 4 1 1105 3, .swap 1105 1000, .keep [4, 5] [4, 1000]] (K' := [.code [(4, 0), (1, 0)] 1, .code [] 5]) (σ' := ⟨[(4, .ptr 4 0), (5, .bool false)], [(4, .box [.int .i64 0, .sl 1000 0]), (1000, .arr 3 0 0 (.ints []))]⟩) rfl ⟨hd13, trivial⟩ rfl ?_
            have h := Option.some.inj h
            subst h
            exact Tri.ret rfl ⟨.inl rfl, rfl, rfl⟩
          · refine Tri.run 2 [.g false] [.swap 1103 1000, .keep [4, 5] [4, 1000]] (K' := [.code [] 6]) (σ' := ⟨[(4, .ptr 4 0), (5, .bool true)], [(4, .box [.int .i64 v3, .sl 1000 0]), (1000, .arr 3 0 0 (.ints v7))]⟩) rfl ⟨hd13, trivial⟩ rfl ?_
            have h := Option.some.inj h
            subst h
            exact Tri.ret rfl ⟨.inl rfl, rfl, rfl⟩
/-! impl.CountCoalitions -/
noncomputable def E_impl_CountCoalitions : Env := ⟨Try.prog, tys, (Try.f51.body).getD .skip, 8, tysOk, mixedOk⟩
abbrev q_impl_CountCoalitions (r : Int) (σ' : ASt) : Prop := resAV E_impl_CountCoalitions.T σ' Try.f51.results.toList = some (.int .i64 r) ∧ keepO σ'.ob (namesO []) = []
noncomputable def m_impl_CountCoalitions (a0 : Int) : Option Int :=
(m_impl_within a0 (0 : Int) (5 : Int)).bind fun v1 =>
bif !v1 then
(some (0 : Int))
else
(grd ((0 : Int) ≤ a0) <|
some (IntKind.i64.wrap ((1 : Int) * 2 ^ (min a0.toNat 64))))
theorem w_impl_CountCoalitions (a0 : Int) (r : Int) (h : m_impl_CountCoalitions a0 = some r) : AM.Spec Try.prog 51 [.int .i64 a0] [] (.int .i64 r) [] := by
  refine spec_of (E := E_impl_CountCoalitions) Try.func51 rfl rfl rfl rfl ?_
  refine Tri.run 1 [] [.keep [0] []] (K' := [.code [(1, 0), (0, 0)] 0, .code [(1, 0)] 1, .code [] 2]) (σ' := ⟨[(0, .int .i64 a0)], []⟩) rfl trivial rfl ?_
  obtain ⟨v1, hk1, h⟩ := bind_some h
  refine Tri.run 1 [.r ⟨[], .bool v1, []⟩] [.keep [0, 5] []] (K' := [.code [(1, 0)] 1, .code [] 2]) (σ' := ⟨[(0, .int .i64 a0), (5, .bool (!v1))], []⟩) rfl ⟨(w_impl_within a0 (0 : Int) (5 : Int) v1 hk1), trivial⟩ rfl ?_
  rcases bif_some h with ⟨hd2, h⟩ | ⟨hd2, h⟩
  · refine Tri.run 2 [.g true] [.keep [2] []] (K' := [.code [(1, 0), (1, 0)] 1, .code [] 2]) (σ' := ⟨[(2, .int .i64 (0 : Int))], []⟩) rfl ⟨hd2, trivial⟩ rfl ?_
    have h := Option.some.inj h
    subst h
    exact Tri.ret rfl ⟨.inl rfl, rfl, rfl⟩
  · obtain ⟨hg3, h⟩ := grd_some h
    refine Tri.run 2 [.g false] [.keep [2] []] (K' := [.code [] 3]) (σ' := ⟨[(2, .int .i64 (IntKind.i64.wrap ((1 : Int) * 2 ^ (min a0.toNat 64))))], []⟩) rfl ⟨hg3, hd2, trivial⟩ rfl ?_
    have h := Option.some.inj h
    subst h
    exact Tri.ret rfl ⟨.inl rfl, rfl, rfl⟩
/-! impl.AddGames$1 -/
noncomputable def E_impl_AddGames_1 : Env := ⟨Try.prog, tys, (Try.f44.body).getD .skip, 16, tysOk, mixedOk⟩
abbrev q_impl_AddGames_1 (r : Int) (σ' : ASt) : Prop := resAV E_impl_AddGames_1.T σ' Try.f44.results.toList = some (.int .i64 r) ∧ keepO σ'.ob (namesO []) = []
noncomputable def m_impl_AddGames_1 (a0 : Int) (_a1 : Int) (a2 : List Int) (_a3 : Int) (a4 : List Int) : Option Int :=
grd ((0 : Int) ≤ a0 ∧ a0 < (a2.length : Int)) <|
grd ((0 : Int) ≤ a0 ∧ a0 < (a4.length : Int)) <|
some (IntKind.i64.wrap ((a2.getD a0.toNat 0) + (a4.getD a0.toNat 0)))
theorem w_impl_AddGames_1 (a0 : Int) (a1 : Int) (a2 : List Int) (a3 : Int) (a4 : List Int) (r : Int) (h : m_impl_AddGames_1 a0 a1 a2 a3 a4 = some r) : AM.Spec Try.prog 44 [.int .i64 a0, .pbox [.int .i64 a1, .list (.ints a2)] 0, .pbox [.int .i64 a3, .list (.ints a4)] 0] [] (.int .i64 r) [] := by
  refine spec_of (E := E_impl_AddGames_1) Try.func44 rfl rfl rfl rfl ?_
  obtain ⟨hg1, h⟩ := grd_some h
  obtain ⟨hg2, h⟩ := grd_some h
  refine Tri.run 2 [] [.keep [4] []] (K' := [.code [] 2]) (σ' := ⟨[(4, .int .i64 (IntKind.i64.wrap ((a2.getD a0.toNat 0) + (a4.getD a0.toNat 0))))], []⟩) rfl ⟨hg2, hg1, trivial⟩ rfl ?_
  have h := Option.some.inj h
  subst h
  exact Tri.ret rfl ⟨.inl rfl, rfl, rfl⟩
/-! impl.made -/
noncomputable def E_impl_made : Env := ⟨Try.prog, tys, (Try.f43.body).getD .skip, 29, tysOk, mixedOk⟩
abbrev q_impl_made_impl_AddGames_1 (r : Int × Bool × (List Int)) (σ' : ASt) : Prop := resAV E_impl_made.T σ' Try.f43.results.toList = some (.tuple [.agg [.int .i64 r.1, .sl 1000 0], .bool r.2.1]) ∧ keepO σ'.ob (namesO [(1000, .arr 3 0 0 (.ints r.2.2))]) = [(1000, .arr 3 0 0 (.ints r.2.2))]
noncomputable def l_impl_made_impl_AddGames_1_0 (a1 : Int) (a2 : List Int) (a3 : Int) (a4 : List Int) (v1 : Int) : (Int × (List Int)) → Option ((Int × (List Int)) ⊕ ((List Int)))
  | (v2, v3) => (
bif decide (v2 < v1) then
((m_impl_AddGames_1 v2 a1 a2 a3 a4).bind fun v4 =>
grd (v3.length + [v4].length ≤ room) <|
some (.inl (IntKind.i64.wrap (v2 + (1 : Int)), v3 ++ [v4])))
else
(some (.inr v3)))
noncomputable def m_impl_made_impl_AddGames_1 (a0 : Int) (a1 : Int) (a2 : List Int) (a3 : Int) (a4 : List Int) : Option (Int × Bool × (List Int)) :=
(m_impl_CountCoalitions a0).bind fun v1 =>
(iter (l_impl_made_impl_AddGames_1_0 a1 a2 a3 a4 v1) ((0 : Int), [])).bind fun
| v5 => (
(m_impl_IsValidGame a0 v5).bind fun v6 =>
bif !v6 then
(some (0, false, []))
else
(some (a0, true, v5)))
theorem w_impl_made_impl_AddGames_1 (a0 : Int) (a1 : Int) (a2 : List Int) (a3 : Int) (a4 : List Int) (r : Int × Bool × (List Int)) (h : m_impl_made_impl_AddGames_1 a0 a1 a2 a3 a4 = some r) : AM.Spec Try.prog 43 [.int .i64 a0, .func 44 [] [.pbox [.int .i64 a1, .list (.ints a2)] 0, .pbox [.int .i64 a3, .list (.ints a4)] 0]] [] (.tuple [.agg [.int .i64 r.1, .sl 1000 0], .bool r.2.1]) [(1000, .arr 3 0 0 (.ints r.2.2))] := by
  refine spec_of (E := E_impl_made) Try.func43 rfl rfl rfl rfl ?_
  refine Tri.run 2 [] [.keep [0, 1, 4, 6] [4, 6]] (K' := [.code [(2, 0), (0, 0)] 0, .code [(2, 0)] 1, .code [] 3]) (σ' := ⟨[(0, .int .i64 a0), (1, .func 44 [] [.pbox [.int .i64 a1, .list (.ints a2)] 0, .pbox [.int .i64 a3, .list (.ints a4)] 0]), (4, .ptr 4 0), (6, .ptr 6 0)], [(4, .box [.int .i64 0, .nil (.ints [])]), (6, .box [.int .i64 a0, .nil (.ints [])])]⟩) rfl trivial rfl ?_
  obtain ⟨v1, hk1, h⟩ := bind_some h
  refine Tri.run 1 [.r ⟨[], .int .i64 v1, []⟩] [.ownc 4 1 1100 3, .ownc 6 1 1101 3, .keep [1, 4, 6, 11, 12] [4, 6, 1100, 1101]] (K' := [.code [(2, 0), (1, 0)] 0, .blk 0, .code [] 3]) (σ' := ⟨[(1, .func 44 [] [.pbox [.int .i64 a1, .list (.ints a2)] 0, .pbox [.int .i64 a3, .list (.ints a4)] 0]), (4, .ptr 4 0), (6, .ptr 6 0), (11, .int .i64 v1), (12, .int .i64 (0 : Int))], [(4, .box [.int .i64 0, .sl 1100 0]), (6, .box [.int .i64 a0, .sl 1101 0]), (1100, .arr 3 0 0 (.ints [])), (1101, .arr 3 0 0 (.ints []))]⟩) rfl ⟨(w_impl_CountCoalitions a0 v1 hk1), trivial⟩ rfl ?_
  obtain ⟨v5, hk5, h⟩ := bind_some h
  refine Tri.loop (K1 := [.code [(2, 0), (1, 0), (0, 0)] 0]) (K2 := [.blk 0, .code [] 3]) (fun (v2, v3) => ⟨[(1, .func 44 [] [.pbox [.int .i64 a1, .list (.ints a2)] 0, .pbox [.int .i64 a3, .list (.ints a4)] 0]), (4, .ptr 4 0), (6, .ptr 6 0), (11, .int .i64 v1), (12, .int .i64 v2)], [(4, .box [.int .i64 0, .sl 1100 0]), (6, .box [.int .i64 a0, .sl 1101 0]), (1100, .arr 3 0 0 (.ints [])), (1101, .arr 3 0 0 (.ints v3))]⟩) (fun x e σ' => match x with | v5 => e = .exit 0 ∧ σ' = ⟨[(4, .ptr 4 0), (6, .ptr 6 0)], [(4, .box [.int .i64 0, .sl 1100 0]), (6, .box [.int .i64 a0, .sl 1101 0]), (1100, .arr 3 0 0 (.ints [])), (1101, .arr 3 0 0 (.ints v5))]⟩) hk5 rfl rfl ?_ ?_
  · intro s x hs
    clear h
    have h := hs
    clear hs
    obtain ⟨v2, v3⟩ := s
    refine Tri.run 1 [] [.keep [1, 4, 6, 11, 12, 13] [4, 6, 1100, 1101]] (K' := [.code [(2, 0), (1, 0), (0, 0), (1, 0)] 0, .code [(2, 0), (1, 0), (0, 0)] 2]) (σ' := ⟨[(1, .func 44 [] [.pbox [.int .i64 a1, .list (.ints a2)] 0, .pbox [.int .i64 a3, .list (.ints a4)] 0]), (4, .ptr 4 0), (6, .ptr 6 0), (11, .int .i64 v1), (12, .int .i64 v2), (13, .bool (decide (v2 < v1)))], [(4, .box [.int .i64 0, .sl 1100 0]), (6, .box [.int .i64 a0, .sl 1101 0]), (1100, .arr 3 0 0 (.ints [])), (1101, .arr 3 0 0 (.ints v3))]⟩) rfl trivial rfl ?_
    rcases bif_some h with ⟨hd2, h⟩ | ⟨hd2, h⟩
    · refine Tri.run 2 [.g true] [.keep [1, 4, 6, 7, 11, 12] [4, 6, 1100, 1101]] (K' := [.code [(2, 0), (1, 0), (0, 0), (2, 0), (0, 0)] 1, .blk 1, .code [(2, 0), (1, 0), (0, 0)] 3]) (σ' := ⟨[(1, .func 44 [] [.pbox [.int .i64 a1, .list (.ints a2)] 0, .pbox [.int .i64 a3, .list (.ints a4)] 0]), (4, .ptr 4 0), (6, .ptr 6 0), (7, .int .i64 v2), (11, .int .i64 v1), (12, .int .i64 v2)], [(4, .box [.int .i64 0, .sl 1100 0]), (6, .box [.int .i64 a0, .sl 1101 0]), (1100, .arr 3 0 0 (.ints [])), (1101, .arr 3 0 0 (.ints v3))]⟩) rfl ⟨hd2, trivial⟩ rfl ?_
      obtain ⟨v4, hk3, h⟩ := bind_some h
      obtain ⟨hg4, h⟩ := grd_some h
      refine Tri.run 2 [.r ⟨[], .int .i64 v4, []⟩] [.rever 1101, .keep [1, 4, 6, 11, 12] [4, 6, 1100, 1101]] (K' := []) (σ' := ⟨[(1, .func 44 [] [.pbox [.int .i64 a1, .list (.ints a2)] 0, .pbox [.int .i64 a3, .list (.ints a4)] 0]), (4, .ptr 4 0), (6, .ptr 6 0), (11, .int .i64 v1), (12, .int .i64 (IntKind.i64.wrap (v2 + (1 : Int))))], [(4, .box [.int .i64 0, .sl 1100 0]), (6, .box [.int .i64 a0, .sl 1101 0]), (1100, .arr 3 0 0 (.ints [])), (1101, .arr 3 0 0 (.ints (v3 ++ [v4])))]⟩) rfl ⟨hg4, (w_impl_AddGames_1 v2 a1 a2 a3 a4 v4 hk3), trivial⟩ rfl ?_
      have h := Option.some.inj h
      subst h
      exact Tri.nil ⟨rfl, rfl⟩
    · refine Tri.run 1 [.g false] [.keep [4, 6] [4, 6, 1100, 1101]] (K' := [.code [(2, 0), (1, 0), (0, 0), (1, 0), (0, 1)] 0, .code [(2, 0), (1, 0), (0, 0)] 2]) (σ' := ⟨[(4, .ptr 4 0), (6, .ptr 6 0)], [(4, .box [.int .i64 0, .sl 1100 0]), (6, .box [.int .i64 a0, .sl 1101 0]), (1100, .arr 3 0 0 (.ints [])), (1101, .arr 3 0 0 (.ints v3))]⟩) rfl ⟨hd2, trivial⟩ rfl ?_
      have h := Option.some.inj h
      subst h
      exact Tri.out 0 rfl ⟨nofun, rfl, rfl⟩
  · intro e σ' hne hq
    obtain ⟨rfl, rfl⟩ := hq
    refine TriX.exit (K' := [.code [] 3]) rfl ?_
    obtain ⟨v6, hk6, h⟩ := bind_some h
    refine Tri.run 1 [.r ⟨[], .bool v6, []⟩] [.keep [4, 6, 26] [4, 6, 1100, 1101]] (K' := [.code [(3, 0)] 1, .code [] 4]) (σ' := ⟨[(4, .ptr 4 0), (6, .ptr 6 0), (26, .bool (!v6))], [(4, .box [.int .i64 0, .sl 1100 0]), (6, .box [.int .i64 a0, .sl 1101 0]), (1100, .arr 3 0 0 (.ints [])), (1101, .arr 3 0 0 (.ints v5))]⟩) rfl ⟨(w_impl_IsValidGame a0 v5 v6 hk6), trivial⟩ rfl ?_
    rcases bif_some h with ⟨hd7, h⟩ | ⟨hd7, h⟩
    · refine Tri.run 2 [.g true] [.ownc 4 1 1102 3, .swap 1102 1000, .keep [4, 5] [4, 1000]] (K' := [.code [(3, 0), (1, 0)] 1, .code [] 4]) (σ' := ⟨[(4, .ptr 4 0), (5, .bool false)], [(4, .box [.int .i64 0, .sl 1000 0]), (1000, .arr 3 0 0 (.ints []))]⟩) rfl ⟨hd7, trivial⟩ rfl ?_
      have h := Option.some.inj h
      subst h
      exact Tri.ret rfl ⟨.inl rfl, rfl, rfl⟩
    · refine Tri.run 2 [.g false] [.swap 1101 1000, .keep [4, 5] [4, 1000]] (K' := [.code [] 5]) (σ' := ⟨[(4, .ptr 4 0), (5, .bool true)], [(4, .box [.int .i64 a0, .sl 1000 0]), (1000, .arr 3 0 0 (.ints v5))]⟩) rfl ⟨hd7, trivial⟩ rfl ?_
      have h := Option.some.inj h
      subst h
      exact Tri.ret rfl ⟨.inl rfl, rfl, rfl⟩
/-! impl.AddGames -/
noncomputable def E_impl_AddGames : Env := ⟨Try.prog, tys, (Try.f27.body).getD .skip, 28, tysOk, mixedOk⟩
abbrev q_impl_AddGames (r : Int × Bool × (List Int)) (σ' : ASt) : Prop := resAV E_impl_AddGames.T σ' Try.f27.results.toList = some (.tuple [.agg [.int .i64 r.1, .sl 1000 0], .bool r.2.1]) ∧ keepO σ'.ob (namesO [(1000, .arr 3 0 0 (.ints r.2.2))]) = [(1000, .arr 3 0 0 (.ints r.2.2))]
noncomputable def m_impl_AddGames (a0 : Int) (a1 : List Int) (a2 : Int) (a3 : List Int) : Option (Int × Bool × (List Int)) :=
(m_impl_IsValidGame a0 a1).bind fun v1 =>
bif !v1 then
(some (0, false, []))
else
((m_impl_IsValidGame a2 a3).bind fun v2 =>
bif !v2 then
(some (0, false, []))
else
(bif a0 != a2 then
(some (0, false, []))
else
((m_impl_made_impl_AddGames_1 a0 a0 a1 a2 a3).bind fun (v3, v4, v5) =>
some (v3, v4, v5))))
theorem w_impl_AddGames (a0 : Int) (a1 : List Int) (a2 : Int) (a3 : List Int) (r : Int × Bool × (List Int)) (h : m_impl_AddGames a0 a1 a2 a3 = some r) : AM.Spec Try.prog 27 [.agg [.int .i64 a0, .list (.ints a1)], .agg [.int .i64 a2, .list (.ints a3)]] [] (.tuple [.agg [.int .i64 r.1, .sl 1000 0], .bool r.2.1]) [(1000, .arr 3 0 0 (.ints r.2.2))] := by
  refine spec_of (E := E_impl_AddGames) Try.func27 rfl rfl rfl rfl ?_
  refine Tri.run 1 [] [.keep [2, 3, 4] [2, 3, 4]] (K' := [.code [(1, 0), (0, 0)] 0, .code [(1, 0)] 1, .code [] 2]) (σ' := ⟨[(2, .ptr 2 0), (3, .ptr 3 0), (4, .ptr 4 0)], [(2, .box [.int .i64 a0, .list (.ints a1)]), (3, .box [.int .i64 a2, .list (.ints a3)]), (4, .box [.int .i64 0, .nil (.ints [])])]⟩) rfl trivial rfl ?_
  obtain ⟨v1, hk1, h⟩ := bind_some h
  rcases bif_some h with ⟨hd2, h⟩ | ⟨hd2, h⟩
  · refine Tri.run 1 [.r ⟨[], .bool v1, []⟩, .g true, .g true] [.keep [2, 3, 4, 20] [2, 3, 4]] (K' := [.code [(1, 0)] 1, .code [] 2]) (σ' := ⟨[(2, .ptr 2 0), (3, .ptr 3 0), (4, .ptr 4 0), (20, .bool true)], [(2, .box [.int .i64 a0, .list (.ints a1)]), (3, .box [.int .i64 a2, .list (.ints a3)]), (4, .box [.int .i64 0, .nil (.ints [])])]⟩) rfl ⟨rfl, hd2, (w_impl_IsValidGame a0 a1 v1 hk1), trivial⟩ rfl ?_
    refine Tri.run 2 [.g true] [.ownc 4 1 1100 3, .swap 1100 1000, .keep [4, 5] [4, 1000]] (K' := [.code [(1, 0), (1, 0)] 1, .code [] 2]) (σ' := ⟨[(4, .ptr 4 0), (5, .bool false)], [(4, .box [.int .i64 0, .sl 1000 0]), (1000, .arr 3 0 0 (.ints []))]⟩) rfl ⟨rfl, trivial⟩ rfl ?_
    have h := Option.some.inj h
    subst h
    exact Tri.ret rfl ⟨.inl rfl, rfl, rfl⟩
  · obtain ⟨v2, hk3, h⟩ := bind_some h
    rcases bif_some h with ⟨hd4, h⟩ | ⟨hd4, h⟩
    · refine Tri.run 1 [.r ⟨[], .bool v1, []⟩, .g false, .r ⟨[], .bool v2, []⟩, .g true] [.keep [2, 3, 4, 20] [2, 3, 4]] (K' := [.code [(1, 0)] 1, .code [] 2]) (σ' := ⟨[(2, .ptr 2 0), (3, .ptr 3 0), (4, .ptr 4 0), (20, .bool true)], [(2, .box [.int .i64 a0, .list (.ints a1)]), (3, .box [.int .i64 a2, .list (.ints a3)]), (4, .box [.int .i64 0, .nil (.ints [])])]⟩) rfl ⟨hd4, (w_impl_IsValidGame a2 a3 v2 hk3), hd2, (w_impl_IsValidGame a0 a1 v1 hk1), trivial⟩ rfl ?_
      refine Tri.run 2 [.g true] [.ownc 4 1 1101 3, .swap 1101 1000, .keep [4, 5] [4, 1000]] (K' := [.code [(1, 0), (1, 0)] 1, .code [] 2]) (σ' := ⟨[(4, .ptr 4 0), (5, .bool false)], [(4, .box [.int .i64 0, .sl 1000 0]), (1000, .arr 3 0 0 (.ints []))]⟩) rfl ⟨rfl, trivial⟩ rfl ?_
      have h := Option.some.inj h
      subst h
      exact Tri.ret rfl ⟨.inl rfl, rfl, rfl⟩
    · refine Tri.run 1 [.r ⟨[], .bool v1, []⟩, .g false, .r ⟨[], .bool v2, []⟩, .g false] [.keep [2, 3, 4, 20] [2, 3, 4]] (K' := [.code [(1, 0)] 1, .code [] 2]) (σ' := ⟨[(2, .ptr 2 0), (3, .ptr 3 0), (4, .ptr 4 0), (20, .bool (a0 != a2))], [(2, .box [.int .i64 a0, .list (.ints a1)]), (3, .box [.int .i64 a2, .list (.ints a3)]), (4, .box [.int .i64 0, .nil (.ints [])])]⟩) rfl ⟨hd4, (w_impl_IsValidGame a2 a3 v2 hk3), hd2, (w_impl_IsValidGame a0 a1 v1 hk1), trivial⟩ rfl ?_
      rcases bif_some h with ⟨hd5, h⟩ | ⟨hd5, h⟩
      · refine Tri.run 2 [.g true] [.ownc 4 1 1102 3, .swap 1102 1000, .keep [4, 5] [4, 1000]] (K' := [.code [(1, 0), (1, 0)] 1, .code [] 2]) (σ' := ⟨[(4, .ptr 4 0), (5, .bool false)], [(4, .box [.int .i64 0, .sl 1000 0]), (1000, .arr 3 0 0 (.ints []))]⟩) rfl ⟨hd5, trivial⟩ rfl ?_
        have h := Option.some.inj h
        subst h
        exact Tri.ret rfl ⟨.inl rfl, rfl, rfl⟩
      · obtain ⟨⟨v3, v4, v5⟩, hk6, h⟩ := bind_some h
        refine Tri.run 2 [.g false, .r ⟨[], .tuple [.agg [.int .i64 v3, .sl 1103 0], .bool v4], [(1103, .arr 3 0 0 (.ints v5))]⟩] [.swap 1103 1000, .keep [4, 5] [4, 1000]] (K' := [.code [] 3]) (σ' := ⟨[(4, .ptr 4 0), (5, .bool v4)], [(4, .box [.int .i64 v3, .sl 1000 0]), (1000, .arr 3 0 0 (.ints v5))]⟩) rfl ⟨((w_impl_made_impl_AddGames_1 a0 a0 a1 a2 a3 (v3, v4, v5) hk6).swap 1000 1103), hd5, trivial⟩ rfl ?_
        have h := Option.some.inj h
        subst h
        exact Tri.ret rfl ⟨.inl rfl, rfl, rfl⟩
/-! laws.heldGame -/
noncomputable def E_laws_heldGame : Env := ⟨Try.prog, tys, (Try.f28.body).getD .skip, 12, tysOk, mixedOk⟩
abbrev q_laws_heldGame (r : Int) (σ' : ASt) : Prop := resAV E_laws_heldGame.T σ' Try.f28.results.toList = some (.int .i64 r) ∧ keepO σ'.ob (namesO []) = []
noncomputable def m_laws_heldGame (_a0 : Int) (a1 : List Int) (a2 : Int) : Option Int :=
(m_laws_heldIntS a1 a2).bind fun v1 =>
bif decide (v1 < (0 : Int)) then
(some (-1 : Int))
else
(some v1)
theorem w_laws_heldGame (a0 : Int) (a1 : List Int) (a2 : Int) (r : Int) (h : m_laws_heldGame a0 a1 a2 = some r) : AM.Spec Try.prog 28 [.agg [.int .i64 a0, .list (.ints a1)], .int .i64 a2] [] (.int .i64 r) [] := by
  refine spec_of (E := E_laws_heldGame) Try.func28 rfl rfl rfl rfl ?_
  refine Tri.run 1 [] [.keep [1, 2] [2]] (K' := [.code [(1, 0)] 0, .code [] 2]) (σ' := ⟨[(1, .int .i64 a2), (2, .ptr 2 0)], [(2, .box [.int .i64 a0, .list (.ints a1)])]⟩) rfl trivial rfl ?_
  obtain ⟨v1, hk1, h⟩ := bind_some h
  refine Tri.run 2 [.r ⟨[], .int .i64 v1, []⟩] [.keep [1, 10] []] (K' := [.code [(2, 0)] 1, .code [] 3]) (σ' := ⟨[(1, .int .i64 v1), (10, .bool (decide (v1 < (0 : Int))))], []⟩) rfl ⟨(w_laws_heldIntS a1 a2 v1 hk1), trivial⟩ rfl ?_
  rcases bif_some h with ⟨hd2, h⟩ | ⟨hd2, h⟩
  · refine Tri.run 2 [.g true] [.keep [4] []] (K' := [.code [(2, 0), (1, 0)] 1, .code [] 3]) (σ' := ⟨[(4, .int .i64 (-1 : Int))], []⟩) rfl ⟨hd2, trivial⟩ rfl ?_
    have h := Option.some.inj h
    subst h
    exact Tri.ret rfl ⟨.inl rfl, rfl, rfl⟩
  · refine Tri.run 2 [.g false] [.keep [4] []] (K' := [.code [] 4]) (σ' := ⟨[(4, .int .i64 v1)], []⟩) rfl ⟨hd2, trivial⟩ rfl ?_
    have h := Option.some.inj h
    subst h
    exact Tri.ret rfl ⟨.inl rfl, rfl, rfl⟩
/-! laws.FnExactAddGames -/
noncomputable def E_laws_FnExactAddGames : Env := ⟨Try.prog, tys, (Try.f7.body).getD .skip, 119, tysOk, mixedOk⟩
abbrev q_laws_FnExactAddGames (r : Bool) (σ' : ASt) : Prop := resAV E_laws_FnExactAddGames.T σ' Try.f7.results.toList = some (.bool r) ∧ keepO σ'.ob (namesO []) = []
noncomputable def m_laws_FnExactAddGames (a0 : Int) (a1 : List Int) (a2 : Int) (a3 : List Int) : Option Bool :=
(m_laws_szGame a0 a1 (1048576 : Int)).bind fun v1 =>
bif decide (v1 < (0 : Int)) then
(some true)
else
((m_laws_szGame a2 a3 v1).bind fun v2 =>
bif decide (v2 < (0 : Int)) then
(some true)
else
((m_laws_toGame a0 a1).bind fun (v3, v4) =>
(m_laws_toGame a2 a3).bind fun (v5, v6) =>
(m_spec_AddGames v3 v4 v5 v6).bind fun (v7, v8, v9) =>
(m_laws_toGame a0 a1).bind fun (v10, v11) =>
(m_laws_toGame a2 a3).bind fun (v12, v13) =>
(m_impl_AddGames v10 v11 v12 v13).bind fun (v14, v15, v16) =>
(m_laws_eqGame v14 v16 v7 v9).bind fun v17 =>
bif !v17 then
(some false)
else
(bif v15 != v8 then
(some false)
else
((m_laws_toGame a0 a1).bind fun (v18, v19) =>
(m_laws_eqGame v10 v11 v18 v19).bind fun v20 =>
bif !v20 then
(some false)
else
((m_laws_toGame a2 a3).bind fun (v21, v22) =>
(m_laws_eqGame v12 v13 v21 v22).bind fun v23 =>
bif !v23 then
(some false)
else
((m_laws_markGame_io1 v10 v11 (1 : Int)).bind fun (v24, _) =>
(m_laws_markGame_io1 v12 v13 v24).bind fun (v26, _) =>
bif decide (v26 < (0 : Int)) then
(some false)
else
((m_laws_eqGame v14 v16 v7 v9).bind fun v28 =>
bif !v28 then
(some false)
else
(bif v15 != v8 then
(some false)
else
((m_laws_markGame_io1 v14 v16 (1 : Int)).bind fun (v29, v30) =>
(m_laws_heldGame v14 v30 (1 : Int)).bind fun v31 =>
bif decide (v31 < (0 : Int)) then
(some false)
else
(bif v31 != v29 then
(some false)
else
((m_laws_toGame a0 a1).bind fun (v32, v33) =>
(m_laws_toGame a2 a3).bind fun (v34, v35) =>
(m_impl_AddGames v32 v33 v34 v35).bind fun (v36, v37, v38) =>
(m_laws_eqGame v36 v38 v7 v9).bind fun v39 =>
bif !v39 then
(some false)
else
(bif v37 != v8 then
(some false)
else
((m_laws_heldGame v14 v30 (1 : Int)).bind fun v40 =>
bif decide (v40 < (0 : Int)) then
(some false)
else
(bif v40 != v29 then
(some false)
else
(some true)))))))))))))))
theorem w_laws_FnExactAddGames (a0 : Int) (a1 : List Int) (a2 : Int) (a3 : List Int) (r : Bool) (h : m_laws_FnExactAddGames a0 a1 a2 a3 = some r) : AM.Spec Try.prog 7 [.agg [.int .i64 a0, .list (.ints a1)], .agg [.int .i64 a2, .list (.ints a3)]] [] (.bool r) [] := by
  refine spec_of (E := E_laws_FnExactAddGames) Try.func7 rfl rfl rfl rfl ?_
  refine Tri.run 2 [] [.keep [2, 3, 5] [2, 3]] (K' := [.code [(2, 0)] 0, .code [] 3]) (σ' := ⟨[(2, .ptr 2 0), (3, .ptr 3 0), (5, .int .i64 (1048576 : Int))], [(2, .box [.int .i64 a0, .list (.ints a1)]), (3, .box [.int .i64 a2, .list (.ints a3)])]⟩) rfl trivial rfl ?_
  obtain ⟨v1, hk1, h⟩ := bind_some h
  refine Tri.run 2 [.r ⟨[], .int .i64 v1, []⟩] [.keep [2, 3, 5, 21] [2, 3]] (K' := [.code [(3, 0)] 1, .code [] 4]) (σ' := ⟨[(2, .ptr 2 0), (3, .ptr 3 0), (5, .int .i64 v1), (21, .bool (decide (v1 < (0 : Int))))], [(2, .box [.int .i64 a0, .list (.ints a1)]), (3, .box [.int .i64 a2, .list (.ints a3)])]⟩) rfl ⟨(w_laws_szGame a0 a1 (1048576 : Int) v1 hk1), trivial⟩ rfl ?_
  rcases bif_some h with ⟨hd2, h⟩ | ⟨hd2, h⟩
  · refine Tri.run 2 [.g true] [.keep [4] []] (K' := [.code [(3, 0), (1, 0)] 1, .code [] 4]) (σ' := ⟨[(4, .bool true)], []⟩) rfl ⟨hd2, trivial⟩ rfl ?_
    have h := Option.some.inj h
    subst h
    exact Tri.ret rfl ⟨.inl rfl, rfl, rfl⟩
  · obtain ⟨v2, hk3, h⟩ := bind_some h
    refine Tri.run 3 [.g false, .r ⟨[], .int .i64 v2, []⟩] [.keep [2, 3, 26] [2, 3]] (K' := [.code [(5, 0)] 1, .code [] 6]) (σ' := ⟨[(2, .ptr 2 0), (3, .ptr 3 0), (26, .bool (decide (v2 < (0 : Int))))], [(2, .box [.int .i64 a0, .list (.ints a1)]), (3, .box [.int .i64 a2, .list (.ints a3)])]⟩) rfl ⟨(w_laws_szGame a2 a3 v1 v2 hk3), hd2, trivial⟩ rfl ?_
    rcases bif_some h with ⟨hd4, h⟩ | ⟨hd4, h⟩
    · refine Tri.run 2 [.g true] [.keep [4] []] (K' := [.code [(5, 0), (1, 0)] 1, .code [] 6]) (σ' := ⟨[(4, .bool true)], []⟩) rfl ⟨hd4, trivial⟩ rfl ?_
      have h := Option.some.inj h
      subst h
      exact Tri.ret rfl ⟨.inl rfl, rfl, rfl⟩
    · obtain ⟨⟨v3, v4⟩, hk5, h⟩ := bind_some h
      obtain ⟨⟨v5, v6⟩, hk6, h⟩ := bind_some h
      obtain ⟨⟨v7, v8, v9⟩, hk7, h⟩ := bind_some h
      refine Tri.run 2 [.g false, .r ⟨[], .agg [.int .i64 v3, .sl 1100 0], [(1100, .arr 3 0 0 (.ints v4))]⟩, .r ⟨[], .agg [.int .i64 v5, .sl 1101 0], [(1101, .arr 3 0 0 (.ints v6))]⟩, .r ⟨[], .tuple [.agg [.int .i64 v7, .sl 1102 0], .bool v8], [(1102, .arr 3 0 0 (.ints v9))]⟩] [.keep [2, 3, 6, 7] [2, 3, 6, 1102]] (K' := [.code [(7, 0)] 0, .code [] 8]) (σ' := ⟨[(2, .ptr 2 0), (3, .ptr 3 0), (6, .ptr 6 0), (7, .bool v8)], [(2, .box [.int .i64 a0, .list (.ints a1)]), (3, .box [.int .i64 a2, .list (.ints a3)]), (6, .box [.int .i64 v7, .sl 1102 0]), (1102, .arr 3 0 0 (.ints v9))]⟩) rfl ⟨((w_spec_AddGames v3 v4 v5 v6 (v7, v8, v9) hk7).swap 1000 1102), ((w_laws_toGame a2 a3 (v5, v6) hk6).swap 1000 1101), ((w_laws_toGame a0 a1 (v3, v4) hk5).swap 1000 1100), hd4, trivial⟩ rfl ?_
      obtain ⟨⟨v10, v11⟩, hk8, h⟩ := bind_some h
      obtain ⟨⟨v12, v13⟩, hk9, h⟩ := bind_some h
      refine Tri.run 2 [.r ⟨[], .agg [.int .i64 v10, .sl 1103 0], [(1103, .arr 3 0 0 (.ints v11))]⟩, .r ⟨[], .agg [.int .i64 v12, .sl 1104 0], [(1104, .arr 3 0 0 (.ints v13))]⟩] [.keep [2, 3, 6, 7, 8, 9] [2, 3, 6, 8, 9, 1102, 1103, 1104]] (K' := [.code [(9, 0)] 0, .code [] 10]) (σ' := ⟨[(2, .ptr 2 0), (3, .ptr 3 0), (6, .ptr 6 0), (7, .bool v8), (8, .ptr 8 0), (9, .ptr 9 0)], [(2, .box [.int .i64 a0, .list (.ints a1)]), (3, .box [.int .i64 a2, .list (.ints a3)]), (6, .box [.int .i64 v7, .sl 1102 0]), (8, .box [.int .i64 v10, .sl 1103 0]), (9, .box [.int .i64 v12, .sl 1104 0]), (1102, .arr 3 0 0 (.ints v9)), (1103, .arr 3 0 0 (.ints v11)), (1104, .arr 3 0 0 (.ints v13))]⟩) rfl ⟨((w_laws_toGame a2 a3 (v12, v13) hk9).swap 1000 1104), ((w_laws_toGame a0 a1 (v10, v11) hk8).swap 1000 1103), trivial⟩ rfl ?_
      obtain ⟨⟨v14, v15, v16⟩, hk10, h⟩ := bind_some h
      obtain ⟨v17, hk11, h⟩ := bind_some h
      rcases bif_some h with ⟨hd12, h⟩ | ⟨hd12, h⟩
      · refine Tri.run 2 [.r ⟨[], .tuple [.agg [.int .i64 v14, .sl 1105 0], .bool v15], [(1105, .arr 3 0 0 (.ints v16))]⟩, .r ⟨[], .bool v17, []⟩, .g true] [.keep [2, 3, 6, 7, 8, 9, 10, 11, 53] [2, 3, 6, 8, 9, 10, 1102, 1103, 1104, 1105]] (K' := [.code [(10, 0)] 1, .code [] 11]) (σ' := ⟨[(2, .ptr 2 0), (3, .ptr 3 0), (6, .ptr 6 0), (7, .bool v8), (8, .ptr 8 0), (9, .ptr 9 0), (10, .ptr 10 0), (11, .bool v15), (53, .bool true)], [(2, .box [.int .i64 a0, .list (.ints a1)]), (3, .box [.int .i64 a2, .list (.ints a3)]), (6, .box [.int .i64 v7, .sl 1102 0]), (8, .box [.int .i64 v10, .sl 1103 0]), (9, .box [.int .i64 v12, .sl 1104 0]), (10, .box [.int .i64 v14, .sl 1105 0]), (1102, .arr 3 0 0 (.ints v9)), (1103, .arr 3 0 0 (.ints v11)), (1104, .arr 3 0 0 (.ints v13)), (1105, .arr 3 0 0 (.ints v16))]⟩) rfl ⟨hd12, (w_laws_eqGame v14 v16 v7 v9 v17 hk11), ((w_impl_AddGames v10 v11 v12 v13 (v14, v15, v16) hk10).swap 1000 1105), trivial⟩ rfl ?_
        refine Tri.run 2 [.g true] [.keep [4] []] (K' := [.code [(10, 0), (1, 0)] 1, .code [] 11]) (σ' := ⟨[(4, .bool false)], []⟩) rfl ⟨rfl, trivial⟩ rfl ?_
        have h := Option.some.inj h
        subst h
        exact Tri.ret rfl ⟨.inl rfl, rfl, rfl⟩
      · refine Tri.run 2 [.r ⟨[], .tuple [.agg [.int .i64 v14, .sl 1105 0], .bool v15], [(1105, .arr 3 0 0 (.ints v16))]⟩, .r ⟨[], .bool v17, []⟩, .g false] [.keep [2, 3, 6, 7, 8, 9, 10, 11, 53] [2, 3, 6, 8, 9, 10, 1102, 1103, 1104, 1105]] (K' := [.code [(10, 0)] 1, .code [] 11]) (σ' := ⟨[(2, .ptr 2 0), (3, .ptr 3 0), (6, .ptr 6 0), (7, .bool v8), (8, .ptr 8 0), (9, .ptr 9 0), (10, .ptr 10 0), (11, .bool v15), (53, .bool (v15 != v8))], [(2, .box [.int .i64 a0, .list (.ints a1)]), (3, .box [.int .i64 a2, .list (.ints a3)]), (6, .box [.int .i64 v7, .sl 1102 0]), (8, .box [.int .i64 v10, .sl 1103 0]), (9, .box [.int .i64 v12, .sl 1104 0]), (10, .box [.int .i64 v14, .sl 1105 0]), (1102, .arr 3 0 0 (.ints v9)), (1103, .arr 3 0 0 (.ints v11)), (1104, .arr 3 0 0 (.ints v13)), (1105, .arr 3 0 0 (.ints v16))]⟩) rfl ⟨hd12, (w_laws_eqGame v14 v16 v7 v9 v17 hk11), ((w_impl_AddGames v10 v11 v12 v13 (v14, v15, v16) hk10).swap 1000 1105), trivial⟩ rfl ?_
        rcases bif_some h with ⟨hd13, h⟩ | ⟨hd13, h⟩
        · refine Tri.run 2 [.g true] [.keep [4] []] (K' := [.code [(10, 0), (1, 0)] 1, .code [] 11]) (σ' := ⟨[(4, .bool false)], []⟩) rfl ⟨hd13, trivial⟩ rfl ?_
          have h := Option.some.inj h
          subst h
          exact Tri.ret rfl ⟨.inl rfl, rfl, rfl⟩
        · obtain ⟨⟨v18, v19⟩, hk14, h⟩ := bind_some h
          obtain ⟨v20, hk15, h⟩ := bind_some h
          refine Tri.run 2 [.g false, .r ⟨[], .agg [.int .i64 v18, .sl 1106 0], [(1106, .arr 3 0 0 (.ints v19))]⟩, .r ⟨[], .bool v20, []⟩] [.keep [2, 3, 6, 7, 8, 9, 10, 11, 58] [2, 3, 6, 8, 9, 10, 1102, 1103, 1104, 1105]] (K' := [.code [(11, 0)] 1, .code [] 12]) (σ' := ⟨[(2, .ptr 2 0), (3, .ptr 3 0), (6, .ptr 6 0), (7, .bool v8), (8, .ptr 8 0), (9, .ptr 9 0), (10, .ptr 10 0), (11, .bool v15), (58, .bool (!v20))], [(2, .box [.int .i64 a0, .list (.ints a1)]), (3, .box [.int .i64 a2, .list (.ints a3)]), (6, .box [.int .i64 v7, .sl 1102 0]), (8, .box [.int .i64 v10, .sl 1103 0]), (9, .box [.int .i64 v12, .sl 1104 0]), (10, .box [.int .i64 v14, .sl 1105 0]), (1102, .arr 3 0 0 (.ints v9)), (1103, .arr 3 0 0 (.ints v11)), (1104, .arr 3 0 0 (.ints v13)), (1105, .arr 3 0 0 (.ints v16))]⟩) rfl ⟨(w_laws_eqGame v10 v11 v18 v19 v20 hk15), ((w_laws_toGame a0 a1 (v18, v19) hk14).swap 1000 1106), hd13, trivial⟩ rfl ?_
          rcases bif_some h with ⟨hd16, h⟩ | ⟨hd16, h⟩
          · refine Tri.run 2 [.g true] [.keep [4] []] (K' := [.code [(11, 0), (1, 0)] 1, .code [] 12]) (σ' := ⟨[(4, .bool false)], []⟩) rfl ⟨hd16, trivial⟩ rfl ?_
            have h := Option.some.inj h
            subst h
            exact Tri.ret rfl ⟨.inl rfl, rfl, rfl⟩
          · obtain ⟨⟨v21, v22⟩, hk17, h⟩ := bind_some h
            obtain ⟨v23, hk18, h⟩ := bind_some h
            refine Tri.run 2 [.g false, .r ⟨[], .agg [.int .i64 v21, .sl 1107 0], [(1107, .arr 3 0 0 (.ints v22))]⟩, .r ⟨[], .bool v23, []⟩] [.keep [2, 3, 6, 7, 8, 9, 10, 11, 63] [2, 3, 6, 8, 9, 10, 1102, 1103, 1104, 1105]] (K' := [.code [(12, 0)] 1, .code [] 13]) (σ' := ⟨[(2, .ptr 2 0), (3, .ptr 3 0), (6, .ptr 6 0), (7, .bool v8), (8, .ptr 8 0), (9, .ptr 9 0), (10, .ptr 10 0), (11, .bool v15), (63, .bool (!v23))], [(2, .box [.int .i64 a0, .list (.ints a1)]), (3, .box [.int .i64 a2, .list (.ints a3)]), (6, .box [.int .i64 v7, .sl 1102 0]), (8, .box [.int .i64 v10, .sl 1103 0]), (9, .box [.int .i64 v12, .sl 1104 0]), (10, .box [.int .i64 v14, .sl 1105 0]), (1102, .arr 3 0 0 (.ints v9)), (1103, .arr 3 0 0 (.ints v11)), (1104, .arr 3 0 0 (.ints v13)), (1105, .arr 3 0 0 (.ints v16))]⟩) rfl ⟨(w_laws_eqGame v12 v13 v21 v22 v23 hk18), ((w_laws_toGame a2 a3 (v21, v22) hk17).swap 1000 1107), hd16, trivial⟩ rfl ?_
            rcases bif_some h with ⟨hd19, h⟩ | ⟨hd19, h⟩
            · refine Tri.run 2 [.g true] [.keep [4] []] (K' := [.code [(12, 0), (1, 0)] 1, .code [] 13]) (σ' := ⟨[(4, .bool false)], []⟩) rfl ⟨hd19, trivial⟩ rfl ?_
              have h := Option.some.inj h
              subst h
              exact Tri.ret rfl ⟨.inl rfl, rfl, rfl⟩
            · refine Tri.run 2 [.g false] [.keep [2, 3, 6, 7, 8, 9, 10, 11, 12] [2, 3, 6, 8, 9, 10, 1102, 1103, 1104, 1105]] (K' := [.code [(14, 0)] 0, .code [] 15]) (σ' := ⟨[(2, .ptr 2 0), (3, .ptr 3 0), (6, .ptr 6 0), (7, .bool v8), (8, .ptr 8 0), (9, .ptr 9 0), (10, .ptr 10 0), (11, .bool v15), (12, .int .i64 (1 : Int))], [(2, .box [.int .i64 a0, .list (.ints a1)]), (3, .box [.int .i64 a2, .list (.ints a3)]), (6, .box [.int .i64 v7, .sl 1102 0]), (8, .box [.int .i64 v10, .sl 1103 0]), (9, .box [.int .i64 v12, .sl 1104 0]), (10, .box [.int .i64 v14, .sl 1105 0]), (1102, .arr 3 0 0 (.ints v9)), (1103, .arr 3 0 0 (.ints v11)), (1104, .arr 3 0 0 (.ints v13)), (1105, .arr 3 0 0 (.ints v16))]⟩) rfl ⟨hd19, trivial⟩ rfl ?_
              obtain ⟨⟨v24, v25⟩, hk20, h⟩ := bind_some h
              obtain ⟨⟨v26, v27⟩, hk21, h⟩ := bind_some h
              refine Tri.run 2 [.r ⟨[1103], .int .i64 v24, [(1103, .arr 3 0 0 (.ints v25))]⟩, .r ⟨[1104], .int .i64 v26, [(1104, .arr 3 0 0 (.ints v27))]⟩] [.keep [2, 3, 6, 7, 10, 11, 12] [2, 3, 6, 10, 1102, 1105]] (K' := [.code [(16, 0), (0, 0)] 0, .code [(16, 0)] 1, .code [] 17]) (σ' := ⟨[(2, .ptr 2 0), (3, .ptr 3 0), (6, .ptr 6 0), (7, .bool v8), (10, .ptr 10 0), (11, .bool v15), (12, .int .i64 v26)], [(2, .box [.int .i64 a0, .list (.ints a1)]), (3, .box [.int .i64 a2, .list (.ints a3)]), (6, .box [.int .i64 v7, .sl 1102 0]), (10, .box [.int .i64 v14, .sl 1105 0]), (1102, .arr 3 0 0 (.ints v9)), (1105, .arr 3 0 0 (.ints v16))]⟩) rfl ⟨((w_laws_markGame_io1 v12 v13 v24 (v26, v27) hk21).swap 2000 1104), ((w_laws_markGame_io1 v10 v11 (1 : Int) (v24, v25) hk20).swap 2000 1103), trivial⟩ rfl ?_
              rcases bif_some h with ⟨hd22, h⟩ | ⟨hd22, h⟩
              · refine Tri.run 1 [.g true, .g true] [.keep [2, 3, 6, 7, 10, 82] [2, 3, 6, 10, 1102, 1105]] (K' := [.code [(16, 0)] 1, .code [] 17]) (σ' := ⟨[(2, .ptr 2 0), (3, .ptr 3 0), (6, .ptr 6 0), (7, .bool v8), (10, .ptr 10 0), (82, .bool true)], [(2, .box [.int .i64 a0, .list (.ints a1)]), (3, .box [.int .i64 a2, .list (.ints a3)]), (6, .box [.int .i64 v7, .sl 1102 0]), (10, .box [.int .i64 v14, .sl 1105 0]), (1102, .arr 3 0 0 (.ints v9)), (1105, .arr 3 0 0 (.ints v16))]⟩) rfl ⟨rfl, hd22, trivial⟩ rfl ?_
                refine Tri.run 2 [.g true] [.keep [4] []] (K' := [.code [(16, 0), (1, 0)] 1, .code [] 17]) (σ' := ⟨[(4, .bool false)], []⟩) rfl ⟨rfl, trivial⟩ rfl ?_
                have h := Option.some.inj h
                subst h
                exact Tri.ret rfl ⟨.inl rfl, rfl, rfl⟩
              · obtain ⟨v28, hk23, h⟩ := bind_some h
                rcases bif_some h with ⟨hd24, h⟩ | ⟨hd24, h⟩
                · refine Tri.run 1 [.g false, .r ⟨[], .bool v28, []⟩, .g true] [.keep [2, 3, 6, 7, 10, 82] [2, 3, 6, 10, 1102, 1105]] (K' := [.code [(16, 0)] 1, .code [] 17]) (σ' := ⟨[(2, .ptr 2 0), (3, .ptr 3 0), (6, .ptr 6 0), (7, .bool v8), (10, .ptr 10 0), (82, .bool true)], [(2, .box [.int .i64 a0, .list (.ints a1)]), (3, .box [.int .i64 a2, .list (.ints a3)]), (6, .box [.int .i64 v7, .sl 1102 0]), (10, .box [.int .i64 v14, .sl 1105 0]), (1102, .arr 3 0 0 (.ints v9)), (1105, .arr 3 0 0 (.ints v16))]⟩) rfl ⟨hd24, (w_laws_eqGame v14 v16 v7 v9 v28 hk23), hd22, trivial⟩ rfl ?_
                  refine Tri.run 2 [.g true] [.keep [4] []] (K' := [.code [(16, 0), (1, 0)] 1, .code [] 17]) (σ' := ⟨[(4, .bool false)], []⟩) rfl ⟨rfl, trivial⟩ rfl ?_
                  have h := Option.some.inj h
                  subst h
                  exact Tri.ret rfl ⟨.inl rfl, rfl, rfl⟩
                · refine Tri.run 1 [.g false, .r ⟨[], .bool v28, []⟩, .g false] [.keep [2, 3, 6, 7, 10, 82] [2, 3, 6, 10, 1102, 1105]] (K' := [.code [(16, 0)] 1, .code [] 17]) (σ' := ⟨[(2, .ptr 2 0), (3, .ptr 3 0), (6, .ptr 6 0), (7, .bool v8), (10, .ptr 10 0), (82, .bool (v15 != v8))], [(2, .box [.int .i64 a0, .list (.ints a1)]), (3, .box [.int .i64 a2, .list (.ints a3)]), (6, .box [.int .i64 v7, .sl 1102 0]), (10, .box [.int .i64 v14, .sl 1105 0]), (1102, .arr 3 0 0 (.ints v9)), (1105, .arr 3 0 0 (.ints v16))]⟩) rfl ⟨hd24, (w_laws_eqGame v14 v16 v7 v9 v28 hk23), hd22, trivial⟩ rfl ?_
                  rcases bif_some h with ⟨hd25, h⟩ | ⟨hd25, h⟩
                  · refine Tri.run 2 [.g true] [.keep [4] []] (K' := [.code [(16, 0), (1, 0)] 1, .code [] 17]) (σ' := ⟨[(4, .bool false)], []⟩) rfl ⟨hd25, trivial⟩ rfl ?_
                    have h := Option.some.inj h
                    subst h
                    exact Tri.ret rfl ⟨.inl rfl, rfl, rfl⟩
                  · refine Tri.run 2 [.g false] [.keep [2, 3, 6, 7, 10, 13] [2, 3, 6, 10, 1102, 1105]] (K' := [.code [(18, 0)] 0, .code [] 19]) (σ' := ⟨[(2, .ptr 2 0), (3, .ptr 3 0), (6, .ptr 6 0), (7, .bool v8), (10, .ptr 10 0), (13, .int .i64 (1 : Int))], [(2, .box [.int .i64 a0, .list (.ints a1)]), (3, .box [.int .i64 a2, .list (.ints a3)]), (6, .box [.int .i64 v7, .sl 1102 0]), (10, .box [.int .i64 v14, .sl 1105 0]), (1102, .arr 3 0 0 (.ints v9)), (1105, .arr 3 0 0 (.ints v16))]⟩) rfl ⟨hd25, trivial⟩ rfl ?_
                    obtain ⟨⟨v29, v30⟩, hk26, h⟩ := bind_some h
                    refine Tri.run 2 [.r ⟨[1105], .int .i64 v29, [(1105, .arr 3 0 0 (.ints v30))]⟩] [.keep [2, 3, 6, 7, 10, 13, 14] [2, 3, 6, 10, 1102, 1105]] (K' := [.code [(20, 0)] 0, .code [] 21]) (σ' := ⟨[(2, .ptr 2 0), (3, .ptr 3 0), (6, .ptr 6 0), (7, .bool v8), (10, .ptr 10 0), (13, .int .i64 v29), (14, .int .i64 (1 : Int))], [(2, .box [.int .i64 a0, .list (.ints a1)]), (3, .box [.int .i64 a2, .list (.ints a3)]), (6, .box [.int .i64 v7, .sl 1102 0]), (10, .box [.int .i64 v14, .sl 1105 0]), (1102, .arr 3 0 0 (.ints v9)), (1105, .arr 3 0 0 (.ints v30))]⟩) rfl ⟨((w_laws_markGame_io1 v14 v16 (1 : Int) (v29, v30) hk26).swap 2000 1105), trivial⟩ rfl ?_
                    obtain ⟨v31, hk27, h⟩ := bind_some h
                    refine Tri.run 2 [.r ⟨[], .int .i64 v31, []⟩] [.keep [2, 3, 6, 7, 10, 13, 14, 90] [2, 3, 6, 10, 1102, 1105]] (K' := [.code [(21, 0)] 1, .code [] 22]) (σ' := ⟨[(2, .ptr 2 0), (3, .ptr 3 0), (6, .ptr 6 0), (7, .bool v8), (10, .ptr 10 0), (13, .int .i64 v29), (14, .int .i64 v31), (90, .bool (decide (v31 < (0 : Int))))], [(2, .box [.int .i64 a0, .list (.ints a1)]), (3, .box [.int .i64 a2, .list (.ints a3)]), (6, .box [.int .i64 v7, .sl 1102 0]), (10, .box [.int .i64 v14, .sl 1105 0]), (1102, .arr 3 0 0 (.ints v9)), (1105, .arr 3 0 0 (.ints v30))]⟩) rfl ⟨(w_laws_heldGame v14 v30 (1 : Int) v31 hk27), trivial⟩ rfl ?_
                    rcases bif_some h with ⟨hd28, h⟩ | ⟨hd28, h⟩
                    · refine Tri.run 2 [.g true] [.keep [4] []] (K' := [.code [(21, 0), (1, 0)] 1, .code [] 22]) (σ' := ⟨[(4, .bool false)], []⟩) rfl ⟨hd28, trivial⟩ rfl ?_
                      have h := Option.some.inj h
                      subst h
                      exact Tri.ret rfl ⟨.inl rfl, rfl, rfl⟩
                    · refine Tri.run 2 [.g false] [.keep [2, 3, 6, 7, 10, 13, 93] [2, 3, 6, 10, 1102, 1105]] (K' := [.code [(22, 0)] 1, .code [] 23]) (σ' := ⟨[(2, .ptr 2 0), (3, .ptr 3 0), (6, .ptr 6 0), (7, .bool v8), (10, .ptr 10 0), (13, .int .i64 v29), (93, .bool (v31 != v29))], [(2, .box [.int .i64 a0, .list (.ints a1)]), (3, .box [.int .i64 a2, .list (.ints a3)]), (6, .box [.int .i64 v7, .sl 1102 0]), (10, .box [.int .i64 v14, .sl 1105 0]), (1102, .arr 3 0 0 (.ints v9)), (1105, .arr 3 0 0 (.ints v30))]⟩) rfl ⟨hd28, trivial⟩ rfl ?_
                      rcases bif_some h with ⟨hd29, h⟩ | ⟨hd29, h⟩
                      · refine Tri.run 2 [.g true] [.keep [4] []] (K' := [.code [(22, 0), (1, 0)] 1, .code [] 23]) (σ' := ⟨[(4, .bool false)], []⟩) rfl ⟨hd29, trivial⟩ rfl ?_
                        have h := Option.some.inj h
                        subst h
                        exact Tri.ret rfl ⟨.inl rfl, rfl, rfl⟩
                      · obtain ⟨⟨v32, v33⟩, hk30, h⟩ := bind_some h
                        obtain ⟨⟨v34, v35⟩, hk31, h⟩ := bind_some h
                        obtain ⟨⟨v36, v37, v38⟩, hk32, h⟩ := bind_some h
                        refine Tri.run 2 [.g false, .r ⟨[], .agg [.int .i64 v32, .sl 1108 0], [(1108, .arr 3 0 0 (.ints v33))]⟩, .r ⟨[], .agg [.int .i64 v34, .sl 1109 0], [(1109, .arr 3 0 0 (.ints v35))]⟩, .r ⟨[], .tuple [.agg [.int .i64 v36, .sl 1110 0], .bool v37], [(1110, .arr 3 0 0 (.ints v38))]⟩] [.keep [6, 7, 10, 13, 15, 16] [6, 10, 15, 1102, 1105, 1110]] (K' := [.code [(24, 0), (0, 0)] 0, .code [(24, 0)] 1, .code [] 25]) (σ' := ⟨[(6, .ptr 6 0), (7, .bool v8), (10, .ptr 10 0), (13, .int .i64 v29), (15, .ptr 15 0), (16, .bool v37)], [(6, .box [.int .i64 v7, .sl 1102 0]), (10, .box [.int .i64 v14, .sl 1105 0]), (15, .box [.int .i64 v36, .sl 1110 0]), (1102, .arr 3 0 0 (.ints v9)), (1105, .arr 3 0 0 (.ints v30)), (1110, .arr 3 0 0 (.ints v38))]⟩) rfl ⟨((w_impl_AddGames v32 v33 v34 v35 (v36, v37, v38) hk32).swap 1000 1110), ((w_laws_toGame a2 a3 (v34, v35) hk31).swap 1000 1109), ((w_laws_toGame a0 a1 (v32, v33) hk30).swap 1000 1108), hd29, trivial⟩ rfl ?_
                        obtain ⟨v39, hk33, h⟩ := bind_some h
                        rcases bif_some h with ⟨hd34, h⟩ | ⟨hd34, h⟩
                        · refine Tri.run 1 [.r ⟨[], .bool v39, []⟩, .g true] [.keep [10, 13, 110] [10, 1105]] (K' := [.code [(24, 0)] 1, .code [] 25]) (σ' := ⟨[(10, .ptr 10 0), (13, .int .i64 v29), (110, .bool true)], [(10, .box [.int .i64 v14, .sl 1105 0]), (1105, .arr 3 0 0 (.ints v30))]⟩) rfl ⟨hd34, (w_laws_eqGame v36 v38 v7 v9 v39 hk33), trivial⟩ rfl ?_
                          refine Tri.run 2 [.g true] [.keep [4] []] (K' := [.code [(24, 0), (1, 0)] 1, .code [] 25]) (σ' := ⟨[(4, .bool false)], []⟩) rfl ⟨rfl, trivial⟩ rfl ?_
                          have h := Option.some.inj h
                          subst h
                          exact Tri.ret rfl ⟨.inl rfl, rfl, rfl⟩
                        · refine Tri.run 1 [.r ⟨[], .bool v39, []⟩, .g false] [.keep [10, 13, 110] [10, 1105]] (K' := [.code [(24, 0)] 1, .code [] 25]) (σ' := ⟨[(10, .ptr 10 0), (13, .int .i64 v29), (110, .bool (v37 != v8))], [(10, .box [.int .i64 v14, .sl 1105 0]), (1105, .arr 3 0 0 (.ints v30))]⟩) rfl ⟨hd34, (w_laws_eqGame v36 v38 v7 v9 v39 hk33), trivial⟩ rfl ?_
                          rcases bif_some h with ⟨hd35, h⟩ | ⟨hd35, h⟩
                          · refine Tri.run 2 [.g true] [.keep [4] []] (K' := [.code [(24, 0), (1, 0)] 1, .code [] 25]) (σ' := ⟨[(4, .bool false)], []⟩) rfl ⟨hd35, trivial⟩ rfl ?_
                            have h := Option.some.inj h
                            subst h
                            exact Tri.ret rfl ⟨.inl rfl, rfl, rfl⟩
                          · refine Tri.run 2 [.g false] [.keep [10, 13, 14] [10, 1105]] (K' := [.code [(26, 0)] 0, .code [] 27]) (σ' := ⟨[(10, .ptr 10 0), (13, .int .i64 v29), (14, .int .i64 (1 : Int))], [(10, .box [.int .i64 v14, .sl 1105 0]), (1105, .arr 3 0 0 (.ints v30))]⟩) rfl ⟨hd35, trivial⟩ rfl ?_
                            obtain ⟨v40, hk36, h⟩ := bind_some h
                            refine Tri.run 2 [.r ⟨[], .int .i64 v40, []⟩] [.keep [13, 14, 115] []] (K' := [.code [(27, 0)] 1, .code [] 28]) (σ' := ⟨[(13, .int .i64 v29), (14, .int .i64 v40), (115, .bool (decide (v40 < (0 : Int))))], []⟩) rfl ⟨(w_laws_heldGame v14 v30 (1 : Int) v40 hk36), trivial⟩ rfl ?_
                            rcases bif_some h with ⟨hd37, h⟩ | ⟨hd37, h⟩
                            · refine Tri.run 2 [.g true] [.keep [4] []] (K' := [.code [(27, 0), (1, 0)] 1, .code [] 28]) (σ' := ⟨[(4, .bool false)], []⟩) rfl ⟨hd37, trivial⟩ rfl ?_
                              have h := Option.some.inj h
                              subst h
                              exact Tri.ret rfl ⟨.inl rfl, rfl, rfl⟩
                            · refine Tri.run 2 [.g false] [.keep [118] []] (K' := [.code [(28, 0)] 1, .code [] 29]) (σ' := ⟨[(118, .bool (v40 != v29))], []⟩) rfl ⟨hd37, trivial⟩ rfl ?_
                              rcases bif_some h with ⟨hd38, h⟩ | ⟨hd38, h⟩
                              · refine Tri.run 2 [.g true] [.keep [4] []] (K' := [.code [(28, 0), (1, 0)] 1, .code [] 29]) (σ' := ⟨[(4, .bool false)], []⟩) rfl ⟨hd38, trivial⟩ rfl ?_
                                have h := Option.some.inj h
                                subst h
                                exact Tri.ret rfl ⟨.inl rfl, rfl, rfl⟩
                              · refine Tri.run 2 [.g false] [.keep [4] []] (K' := [.code [] 30]) (σ' := ⟨[(4, .bool true)], []⟩) rfl ⟨hd38, trivial⟩ rfl ?_
                                have h := Option.some.inj h
                                subst h
                                exact Tri.ret rfl ⟨.inl rfl, rfl, rfl⟩
end Go.Proofs.Ythfbjmiancgeeab
