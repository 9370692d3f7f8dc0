/- models and walks -/
import Derived.Test.YtoefgmmmcpikfaaProg
import Derived.Test.YtoefgmmmcpikfaaAmB
namespace Go.Proofs.Ytoefgmmmcpikfaa
open Go.AM
set_option maxRecDepth 100000
set_option maxHeartbeats 4000000
noncomputable def tys : TEnv := [(3, .int .i64),
  (4, .bool),
  (22, .slice 3 (.ints [])),
  (24, .struct [(0, 3), (1, 22)] [.int .i64 0, .nil (.ints [])] false),
  (29, .struct [(0, 3), (1, 3)] [.int .i64 0, .int .i64 0] true),
  (32, .struct [(0, 3), (1, 22)] [.int .i64 0, .nil (.ints [])] false),
  (34, .slice 29 (.rats [])),
  (132, .int .u64),
  (144, .int .u64)]
theorem tysOk : TOk Try.prog tys := tok_of (by kernel_rfl)
theorem mixedOk : Try.prog.follows .mixedOrders = true := by kernel_rfl
/-! laws.szIntS -/
noncomputable def E64_laws_szIntS : Env := ⟨Try.prog, tys, (Try.f64.body).getD .skip, 12, tysOk, mixedOk⟩
abbrev q_laws_szIntS (r : Int) (σ' : ASt) : Prop := resAV E64_laws_szIntS.T σ' Try.f64.results.toList = some (.int .i64 r) ∧ keepO σ'.ob (namesO []) = []
noncomputable def m_laws_szIntS (a0 : List Int) (a1 : Int) : Option Int :=
bif decide ((IntKind.i64.wrap (a1 - (a0.length : Int))) < (0 : Int)) then
(some (-1 : Int))
else
(some (IntKind.i64.wrap (a1 - (a0.length : Int))))
theorem w_laws_szIntS (a0 : List Int) (a1 : Int) (r : Int) (h : m_laws_szIntS a0 a1 = some r) : AM.Spec Try.prog 64 [.list (.ints a0), .int .i64 a1] [] (.int .i64 r) [] := by
  refine spec_of (E := E64_laws_szIntS) Try.func64 rfl rfl rfl rfl ?_
  refine Tri.run 3 [] [.keep [1, 10] []] (K' := [.code [(2, 0)] 1, .code [] 3]) (σ' := ⟨[(1, .int .i64 (IntKind.i64.wrap (a1 - (a0.length : Int)))), (10, .bool (decide ((IntKind.i64.wrap (a1 - (a0.length : Int))) < (0 : Int))))], []⟩) rfl trivial rfl ?_
  rcases bif_some h with ⟨hd1, h⟩ | ⟨hd1, h⟩
  · refine Tri.run 2 [.g true] [.keep [4] []] (K' := [.code [(2, 0), (1, 0)] 1, .code [] 3]) (σ' := ⟨[(4, .int .i64 (-1 : Int))], []⟩) rfl ⟨hd1, trivial⟩ rfl ?_
    have h := Option.some.inj h
    subst h
    exact Tri.ret rfl ⟨.inl rfl, rfl, rfl⟩
  · refine Tri.run 2 [.g false] [.keep [4] []] (K' := [.code [] 4]) (σ' := ⟨[(4, .int .i64 (IntKind.i64.wrap (a1 - (a0.length : Int))))], []⟩) rfl ⟨hd1, trivial⟩ rfl ?_
    have h := Option.some.inj h
    subst h
    exact Tri.ret rfl ⟨.inl rfl, rfl, rfl⟩
/-! laws.szGame -/
noncomputable def E15_laws_szGame : Env := ⟨Try.prog, tys, (Try.f15.body).getD .skip, 12, tysOk, mixedOk⟩
abbrev q_laws_szGame (r : Int) (σ' : ASt) : Prop := resAV E15_laws_szGame.T σ' Try.f15.results.toList = some (.int .i64 r) ∧ keepO σ'.ob (namesO []) = []
noncomputable def m_laws_szGame (_a0 : Int) (a1 : List Int) (a2 : Int) : Option Int :=
(m_laws_szIntS a1 a2).bind fun v1 =>
bif decide (v1 < (0 : Int)) then
(some (-1 : Int))
else
(some v1)
theorem w_laws_szGame (a0 : Int) (a1 : List Int) (a2 : Int) (r : Int) (h : m_laws_szGame a0 a1 a2 = some r) : AM.Spec Try.prog 15 [.agg [.int .i64 a0, .list (.ints a1)], .int .i64 a2] [] (.int .i64 r) [] := by
  refine spec_of (E := E15_laws_szGame) Try.func15 rfl rfl rfl rfl ?_
  refine Tri.run 1 [] [.keep [1, 2] [2]] (K' := [.code [(1, 0)] 0, .code [] 2]) (σ' := ⟨[(1, .int .i64 a2), (2, .ptr 2 0)], [(2, .box [.int .i64 a0, .list (.ints a1)])]⟩) rfl trivial rfl ?_
  obtain ⟨v1, hk1, h⟩ := bind_some h
  refine Tri.run 2 [.r ⟨[], .int .i64 v1, []⟩] [.keep [1, 10] []] (K' := [.code [(2, 0)] 1, .code [] 3]) (σ' := ⟨[(1, .int .i64 v1), (10, .bool (decide (v1 < (0 : Int))))], []⟩) rfl ⟨(w_laws_szIntS a1 a2 v1 hk1), trivial⟩ rfl ?_
  rcases bif_some h with ⟨hd2, h⟩ | ⟨hd2, h⟩
  · refine Tri.run 2 [.g true] [.keep [4] []] (K' := [.code [(2, 0), (1, 0)] 1, .code [] 3]) (σ' := ⟨[(4, .int .i64 (-1 : Int))], []⟩) rfl ⟨hd2, trivial⟩ rfl ?_
    have h := Option.some.inj h
    subst h
    exact Tri.ret rfl ⟨.inl rfl, rfl, rfl⟩
  · refine Tri.run 2 [.g false] [.keep [4] []] (K' := [.code [] 4]) (σ' := ⟨[(4, .int .i64 v1)], []⟩) rfl ⟨hd2, trivial⟩ rfl ?_
    have h := Option.some.inj h
    subst h
    exact Tri.ret rfl ⟨.inl rfl, rfl, rfl⟩
/-! laws.toIntS -/
noncomputable def E70_laws_toIntS : Env := ⟨Try.prog, tys, (Try.f70.body).getD .skip, 22, tysOk, mixedOk⟩
abbrev q_laws_toIntS (r : List Int) (σ' : ASt) : Prop := resAV E70_laws_toIntS.T σ' Try.f70.results.toList = some (.sl 1000 0) ∧ keepO σ'.ob (namesO [(1000, .arr 3 0 0 (.ints r))]) = [(1000, .arr 3 0 0 (.ints r))]
noncomputable def l_laws_toIntS_0 (a0 : List Int) : (Int × (List Int)) → Option ((Int × (List Int)) ⊕ ((List Int)))
  | (v1, v2) => (
bif decide (v1 < (a0.length : Int)) then
(grd ((0 : Int) ≤ v1 ∧ v1 < (a0.length : Int)) <|
grd ((0 : Int) ≤ v1 ∧ v1 < (v2.length : Int)) <|
some (.inl (IntKind.i64.wrap (v1 + (1 : Int)), v2.set v1.toNat (a0.getD v1.toNat 0))))
else
(some (.inr v2)))
noncomputable def m_laws_toIntS (a0 : List Int) : Option (List Int) :=
grd ((0 : Int) ≤ (a0.length : Int) ∧ (a0.length : Int) = (a0.length : Int) ∧ (a0.length : Int) ≤ (room : Int)) <|
(iter (l_laws_toIntS_0 a0) ((0 : Int), List.replicate (a0.length : Int).toNat (0 : Int))).bind fun
| v3 => (
some v3)
theorem w_laws_toIntS (a0 : List Int) (r : List Int) (h : m_laws_toIntS a0 = some r) : AM.Spec Try.prog 70 [.list (.ints a0)] [] (.sl 1000 0) [(1000, .arr 3 0 0 (.ints r))] := by
  refine spec_of (E := E70_laws_toIntS) Try.func70 rfl rfl rfl rfl ?_
  obtain ⟨hg1, h⟩ := grd_some h
  refine Tri.run 3 [] [.keep [0, 3, 4] [7]] (K' := [.code [(2, 0), (1, 0)] 0, .blk 0, .code [] 3]) (σ' := ⟨[(0, .list (.ints a0)), (3, .sl 7 0), (4, .int .i64 (0 : Int))], [(7, .arr 3 0 0 (.ints (List.replicate (a0.length : Int).toNat (0 : Int))))]⟩) rfl ⟨hg1, trivial⟩ rfl ?_
  obtain ⟨v3, hk5, h⟩ := bind_some h
  refine Tri.loop (K1 := [.code [(2, 0), (1, 0), (0, 0)] 0]) (K2 := [.blk 0, .code [] 3]) (fun (v1, v2) => ⟨[(0, .list (.ints a0)), (3, .sl 7 0), (4, .int .i64 v1)], [(7, .arr 3 0 0 (.ints v2))]⟩) (fun x e σ' => match x with | v3 => e = .exit 0 ∧ σ' = ⟨[(3, .sl 7 0)], [(7, .arr 3 0 0 (.ints v3))]⟩) hk5 rfl rfl ?_ ?_
  · intro s x hs
    clear h
    have h := hs
    clear hs
    obtain ⟨v1, v2⟩ := s
    refine Tri.run 1 [] [.keep [0, 3, 4, 11] [7]] (K' := [.code [(2, 0), (1, 0), (0, 0), (0, 0)] 1, .code [(2, 0), (1, 0), (0, 0)] 1]) (σ' := ⟨[(0, .list (.ints a0)), (3, .sl 7 0), (4, .int .i64 v1), (11, .bool (decide (v1 < (a0.length : Int))))], [(7, .arr 3 0 0 (.ints v2))]⟩) rfl trivial rfl ?_
    rcases bif_some h with ⟨hd2, h⟩ | ⟨hd2, h⟩
    · obtain ⟨hg3, h⟩ := grd_some h
      obtain ⟨hg4, h⟩ := grd_some h
      refine Tri.run 3 [.g true] [.keep [0, 3, 4] [7]] (K' := []) (σ' := ⟨[(0, .list (.ints a0)), (3, .sl 7 0), (4, .int .i64 (IntKind.i64.wrap (v1 + (1 : Int))))], [(7, .arr 3 0 0 (.ints (v2.set v1.toNat (a0.getD v1.toNat 0))))]⟩) rfl ⟨hg4, hg3, hd2, trivial⟩ rfl ?_
      have h := Option.some.inj h
      subst h
      exact Tri.nil ⟨rfl, rfl⟩
    · refine Tri.run 1 [.g false] [.keep [3] [7]] (K' := [.code [(2, 0), (1, 0), (0, 0), (0, 0), (1, 1)] 0, .code [(2, 0), (1, 0), (0, 0)] 1]) (σ' := ⟨[(3, .sl 7 0)], [(7, .arr 3 0 0 (.ints v2))]⟩) rfl ⟨hd2, trivial⟩ rfl ?_
      have h := Option.some.inj h
      subst h
      exact Tri.out 0 rfl ⟨nofun, rfl, rfl⟩
  · intro e σ' hne hq
    obtain ⟨rfl, rfl⟩ := hq
    refine TriX.exit (K' := [.code [] 3]) rfl ?_
    refine Tri.run 1 [] [.swap 7 1000, .keep [2] [1000]] (K' := [.code [] 4]) (σ' := ⟨[(2, .sl 1000 0)], [(1000, .arr 3 0 0 (.ints v3))]⟩) rfl trivial rfl ?_
    have h := Option.some.inj h
    subst h
    exact Tri.ret rfl ⟨.inl rfl, rfl, rfl⟩
/-! laws.toGame -/
noncomputable def E18_laws_toGame : Env := ⟨Try.prog, tys, (Try.f18.body).getD .skip, 12, tysOk, mixedOk⟩
abbrev q_laws_toGame (r : Int × (List Int)) (σ' : ASt) : Prop := resAV E18_laws_toGame.T σ' Try.f18.results.toList = some (.agg [.int .i64 r.1, .sl 1000 0]) ∧ keepO σ'.ob (namesO [(1000, .arr 3 0 0 (.ints r.2))]) = [(1000, .arr 3 0 0 (.ints r.2))]
noncomputable def m_laws_toGame (a0 : Int) (a1 : List Int) : Option (Int × (List Int)) :=
(m_laws_toIntS a1).bind fun v1 =>
some (a0, v1)
theorem w_laws_toGame (a0 : Int) (a1 : List Int) (r : Int × (List Int)) (h : m_laws_toGame a0 a1 = some r) : AM.Spec Try.prog 18 [.agg [.int .i64 a0, .list (.ints a1)]] [] (.agg [.int .i64 r.1, .sl 1000 0]) [(1000, .arr 3 0 0 (.ints r.2))] := by
  refine spec_of (E := E18_laws_toGame) Try.func18 rfl rfl rfl rfl ?_
  refine Tri.run 3 [] [.keep [1, 2, 3] [1, 2, 3]] (K' := [.code [(3, 0)] 0, .code [] 4]) (σ' := ⟨[(1, .ptr 1 0), (2, .ptr 2 0), (3, .ptr 3 0)], [(1, .box [.int .i64 a0, .list (.ints a1)]), (2, .box [.int .i64 0, .nil (.ints [])]), (3, .box [.int .i64 a0, .nil (.ints [])])]⟩) rfl trivial rfl ?_
  obtain ⟨v1, hk1, h⟩ := bind_some h
  refine Tri.run 2 [.r ⟨[], .sl 1100 0, [(1100, .arr 3 0 0 (.ints v1))]⟩] [.swap 1100 1000, .keep [2] [2, 1000]] (K' := [.code [] 5]) (σ' := ⟨[(2, .ptr 2 0)], [(2, .box [.int .i64 a0, .sl 1000 0]), (1000, .arr 3 0 0 (.ints v1))]⟩) rfl ⟨((w_laws_toIntS a1 v1 hk1).swap 1000 1100), trivial⟩ rfl ?_
  have h := Option.some.inj h
  subst h
  exact Tri.ret rfl ⟨.inl rfl, rfl, rfl⟩
/-! spec.l1In -/
noncomputable def E66_spec_l1In : Env := ⟨Try.prog, tys, (Try.f66.body).getD .skip, 15, tysOk, mixedOk⟩
abbrev q_spec_l1In (r : Bool) (σ' : ASt) : Prop := resAV E66_spec_l1In.T σ' Try.f66.results.toList = some (.bool r) ∧ keepO σ'.ob (namesO []) = []
noncomputable def m_spec_l1In (a0 : Int) (a1 : Int) (a2 : Int) : Option Bool :=
bif decide (a0 ≥ a1) then
(some (decide (a0 ≤ a2)))
else
(some false)
theorem w_spec_l1In (a0 : Int) (a1 : Int) (a2 : Int) (r : Bool) (h : m_spec_l1In a0 a1 a2 = some r) : AM.Spec Try.prog 66 [.int .i64 a0, .int .i64 a1, .int .i64 a2] [] (.bool r) [] := by
  refine spec_of (E := E66_spec_l1In) Try.func66 rfl rfl rfl rfl ?_
  refine Tri.run 1 [] [.keep [0, 1, 2] []] (K' := [.code [(1, 0)] 0, .code [] 2]) (σ' := ⟨[(0, .int .i64 a0), (1, .int .i64 a1), (2, .int .i64 a2)], []⟩) rfl trivial rfl ?_
  rcases bif_some h with ⟨hd1, h⟩ | ⟨hd1, h⟩
  · refine Tri.run 1 [.g true] [.keep [6] []] (K' := [.code [] 2]) (σ' := ⟨[(6, .bool (decide (a0 ≤ a2)))], []⟩) rfl ⟨hd1, trivial⟩ rfl ?_
    have h := Option.some.inj h
    subst h
    exact Tri.ret rfl ⟨.inl rfl, rfl, rfl⟩
  · refine Tri.run 1 [.g false] [.keep [6] []] (K' := [.code [] 2]) (σ' := ⟨[(6, .bool false)], []⟩) rfl ⟨hd1, trivial⟩ rfl ?_
    have h := Option.some.inj h
    subst h
    exact Tri.ret rfl ⟨.inl rfl, rfl, rfl⟩
/-! spec.CountCoalitions -/
noncomputable def E131_spec_CountCoalitions : Env := ⟨Try.prog, tys, (Try.f131.body).getD .skip, 16, tysOk, mixedOk⟩
abbrev q_spec_CountCoalitions (r : Int) (σ' : ASt) : Prop := resAV E131_spec_CountCoalitions.T σ' Try.f131.results.toList = some (.int .i64 r) ∧ keepO σ'.ob (namesO []) = []
noncomputable def l_spec_CountCoalitions_0 (a0 : Int) : (Int × Int) → Option ((Int × Int) ⊕ Int)
  | (v2, v3) => (
bif decide (v3 < a0) then
(some (.inl (IntKind.i64.wrap (v2 * (2 : Int)), IntKind.i64.wrap (v3 + (1 : Int)))))
else
(some (.inr v2)))
noncomputable def m_spec_CountCoalitions (a0 : Int) : Option Int :=
(m_spec_l1In a0 (0 : Int) (5 : Int)).bind fun v1 =>
bif !v1 then
(some (0 : Int))
else
((iter (l_spec_CountCoalitions_0 a0) ((1 : Int), (0 : Int))).bind fun
| v4 => (
some v4))
theorem w_spec_CountCoalitions (a0 : Int) (r : Int) (h : m_spec_CountCoalitions a0 = some r) : AM.Spec Try.prog 131 [.int .i64 a0] [] (.int .i64 r) [] := by
  refine spec_of (E := E131_spec_CountCoalitions) Try.func131 rfl rfl rfl rfl ?_
  refine Tri.run 1 [] [.keep [0] []] (K' := [.code [(1, 0), (0, 0)] 0, .code [(1, 0)] 1, .code [] 2]) (σ' := ⟨[(0, .int .i64 a0)], []⟩) rfl trivial rfl ?_
  obtain ⟨v1, hk1, h⟩ := bind_some h
  refine Tri.run 1 [.r ⟨[], .bool v1, []⟩] [.keep [0, 7] []] (K' := [.code [(1, 0)] 1, .code [] 2]) (σ' := ⟨[(0, .int .i64 a0), (7, .bool (!v1))], []⟩) rfl ⟨(w_spec_l1In a0 (0 : Int) (5 : Int) v1 hk1), trivial⟩ rfl ?_
  rcases bif_some h with ⟨hd2, h⟩ | ⟨hd2, h⟩
  · refine Tri.run 2 [.g true] [.keep [2] []] (K' := [.code [(1, 0), (1, 0)] 1, .code [] 2]) (σ' := ⟨[(2, .int .i64 (0 : Int))], []⟩) rfl ⟨hd2, trivial⟩ rfl ?_
    have h := Option.some.inj h
    subst h
    exact Tri.ret rfl ⟨.inl rfl, rfl, rfl⟩
  · refine Tri.run 3 [.g false] [.keep [0, 3, 4] []] (K' := [.code [(3, 0), (1, 0)] 0, .blk 0, .code [] 4]) (σ' := ⟨[(0, .int .i64 a0), (3, .int .i64 (1 : Int)), (4, .int .i64 (0 : Int))], []⟩) rfl ⟨hd2, trivial⟩ rfl ?_
    obtain ⟨v4, hk4, h⟩ := bind_some h
    refine Tri.loop (K1 := [.code [(3, 0), (1, 0), (0, 0)] 0]) (K2 := [.blk 0, .code [] 4]) (fun (v2, v3) => ⟨[(0, .int .i64 a0), (3, .int .i64 v2), (4, .int .i64 v3)], []⟩) (fun x e σ' => match x with | v4 => e = .exit 0 ∧ σ' = ⟨[(3, .int .i64 v4)], []⟩) hk4 rfl rfl ?_ ?_
    · intro s x hs
      clear h
      have h := hs
      clear hs
      obtain ⟨v2, v3⟩ := s
      refine Tri.run 1 [] [.keep [0, 3, 4, 10] []] (K' := [.code [(3, 0), (1, 0), (0, 0), (0, 0)] 1, .code [(3, 0), (1, 0), (0, 0)] 1]) (σ' := ⟨[(0, .int .i64 a0), (3, .int .i64 v2), (4, .int .i64 v3), (10, .bool (decide (v3 < a0)))], []⟩) rfl trivial rfl ?_
      rcases bif_some h with ⟨hd3, h⟩ | ⟨hd3, h⟩
      · refine Tri.run 3 [.g true] [.keep [0, 3, 4] []] (K' := []) (σ' := ⟨[(0, .int .i64 a0), (3, .int .i64 (IntKind.i64.wrap (v2 * (2 : Int)))), (4, .int .i64 (IntKind.i64.wrap (v3 + (1 : Int))))], []⟩) rfl ⟨hd3, trivial⟩ rfl ?_
        have h := Option.some.inj h
        subst h
        exact Tri.nil ⟨rfl, rfl⟩
      · refine Tri.run 1 [.g false] [.keep [3] []] (K' := [.code [(3, 0), (1, 0), (0, 0), (0, 0), (1, 1)] 0, .code [(3, 0), (1, 0), (0, 0)] 1]) (σ' := ⟨[(3, .int .i64 v2)], []⟩) rfl ⟨hd3, trivial⟩ rfl ?_
        have h := Option.some.inj h
        subst h
        exact Tri.out 0 rfl ⟨nofun, rfl, rfl⟩
    · intro e σ' hne hq
      obtain ⟨rfl, rfl⟩ := hq
      refine TriX.exit (K' := [.code [] 4]) rfl ?_
      refine Tri.run 1 [] [.keep [2] []] (K' := [.code [] 5]) (σ' := ⟨[(2, .int .i64 v4)], []⟩) rfl trivial rfl ?_
      have h := Option.some.inj h
      subst h
      exact Tri.ret rfl ⟨.inl rfl, rfl, rfl⟩
/-! spec.IsValidGame -/
noncomputable def E65_spec_IsValidGame : Env := ⟨Try.prog, tys, (Try.f65.body).getD .skip, 37, tysOk, mixedOk⟩
abbrev q_spec_IsValidGame (r : Bool) (σ' : ASt) : Prop := resAV E65_spec_IsValidGame.T σ' Try.f65.results.toList = some (.bool r) ∧ keepO σ'.ob (namesO []) = []
noncomputable def l_spec_IsValidGame_0 (a1 : List Int) (v1 : Int) : Option (Int ⊕ (Unit ⊕ Bool)) :=
bif decide (v1 < (a1.length : Int)) then
(grd ((0 : Int) ≤ v1 ∧ v1 < (a1.length : Int)) <|
(m_spec_l1In (a1.getD v1.toNat 0) (-500 : Int) (500 : Int)).bind fun v2 =>
bif !v2 then
(some (.inr (.inr false)))
else
(some (.inl (IntKind.i64.wrap (v1 + (1 : Int))))))
else
(some (.inr (.inl ())))
noncomputable def m_spec_IsValidGame (a0 : Int) (a1 : List Int) : Option Bool :=
(iter (l_spec_IsValidGame_0 a1) (0 : Int)).bind fun
| (.inl _) => (
(m_spec_l1In a0 (1 : Int) (5 : Int)).bind fun v3 =>
bif v3 then
((m_spec_CountCoalitions a0).bind fun v4 =>
bif (a1.length : Int) == v4 then
(grd ((0 : Int) ≤ (0 : Int) ∧ (0 : Int) < (a1.length : Int)) <|
some ((a1.getD ((0 : Int).toNat) 0) == (0 : Int)))
else
(some false))
else
(some false))
| (.inr r) => some r
theorem w_spec_IsValidGame (a0 : Int) (a1 : List Int) (r : Bool) (h : m_spec_IsValidGame a0 a1 = some r) : AM.Spec Try.prog 65 [.agg [.int .i64 a0, .list (.ints a1)]] [] (.bool r) [] := by
  refine spec_of (E := E65_spec_IsValidGame) Try.func65 rfl rfl rfl rfl ?_
  refine Tri.run 2 [] [.keep [1, 3] [1]] (K' := [.code [(1, 0), (1, 0)] 0, .blk 0, .code [] 2]) (σ' := ⟨[(1, .ptr 1 0), (3, .int .i64 (0 : Int))], [(1, .box [.int .i64 a0, .list (.ints a1)])]⟩) rfl trivial rfl ?_
  obtain ⟨x1, hk5, h⟩ := bind_some h
  refine Tri.loop (K1 := [.code [(1, 0), (1, 0), (0, 0)] 0]) (K2 := [.blk 0, .code [] 2]) (fun v1 => ⟨[(1, .ptr 1 0), (3, .int .i64 v1)], [(1, .box [.int .i64 a0, .list (.ints a1)])]⟩) (fun x e σ' => match x with | (.inl _) => e = .exit 0 ∧ σ' = ⟨[(1, .ptr 1 0)], [(1, .box [.int .i64 a0, .list (.ints a1)])]⟩ | (.inr r) => e = .ret ∧ q_spec_IsValidGame r σ') hk5 rfl rfl ?_ ?_
  · intro v1 x hs
    clear h
    have h := hs
    clear hs
    refine Tri.run 1 [] [.keep [1, 3, 8] [1]] (K' := [.code [(1, 0), (1, 0), (0, 0), (0, 0)] 1, .code [(1, 0), (1, 0), (0, 0)] 1]) (σ' := ⟨[(1, .ptr 1 0), (3, .int .i64 v1), (8, .bool (decide (v1 < (a1.length : Int))))], [(1, .box [.int .i64 a0, .list (.ints a1)])]⟩) rfl trivial rfl ?_
    rcases bif_some h with ⟨hd1, h⟩ | ⟨hd1, h⟩
    · obtain ⟨hg2, h⟩ := grd_some h
      obtain ⟨v2, hk3, h⟩ := bind_some h
      refine Tri.run 2 [.g true, .r ⟨[], .bool v2, []⟩] [.keep [1, 3, 17] [1]] (K' := [.code [(1, 0), (1, 0), (0, 0), (1, 0), (0, 0)] 1, .blk 1, .code [(1, 0), (1, 0), (0, 0)] 2]) (σ' := ⟨[(1, .ptr 1 0), (3, .int .i64 v1), (17, .bool (!v2))], [(1, .box [.int .i64 a0, .list (.ints a1)])]⟩) rfl ⟨(w_spec_l1In (a1.getD v1.toNat 0) (-500 : Int) (500 : Int) v2 hk3), hg2, hd1, trivial⟩ rfl ?_
      rcases bif_some h with ⟨hd4, h⟩ | ⟨hd4, h⟩
      · refine Tri.run 2 [.g true] [.keep [2] []] (K' := [.code [(1, 0), (1, 0), (0, 0), (1, 0), (0, 0), (1, 0)] 1, .blk 1, .code [(1, 0), (1, 0), (0, 0)] 2]) (σ' := ⟨[(2, .bool false)], []⟩) rfl ⟨hd4, trivial⟩ rfl ?_
        have h := Option.some.inj h
        subst h
        exact Tri.ret rfl ⟨nofun, rfl, rfl, rfl⟩
      · refine Tri.run 2 [.g false] [.keep [1, 3] [1]] (K' := []) (σ' := ⟨[(1, .ptr 1 0), (3, .int .i64 (IntKind.i64.wrap (v1 + (1 : Int))))], [(1, .box [.int .i64 a0, .list (.ints a1)])]⟩) rfl ⟨hd4, trivial⟩ rfl ?_
        have h := Option.some.inj h
        subst h
        exact Tri.nil ⟨rfl, rfl⟩
    · refine Tri.run 1 [.g false] [.keep [1] [1]] (K' := [.code [(1, 0), (1, 0), (0, 0), (0, 0), (1, 1)] 0, .code [(1, 0), (1, 0), (0, 0)] 1]) (σ' := ⟨[(1, .ptr 1 0)], [(1, .box [.int .i64 a0, .list (.ints a1)])]⟩) rfl ⟨hd1, trivial⟩ rfl ?_
      have h := Option.some.inj h
      subst h
      exact Tri.out 0 rfl ⟨nofun, rfl, rfl⟩
  · intro e σ' hne hq
    rcases x1 with _ | r
    · obtain ⟨rfl, rfl⟩ := hq
      refine TriX.exit (K' := [.code [] 2]) rfl ?_
      obtain ⟨v3, hk6, h⟩ := bind_some h
      rcases bif_some h with ⟨hd7, h⟩ | ⟨hd7, h⟩
      · obtain ⟨v4, hk8, h⟩ := bind_some h
        rcases bif_some h with ⟨hd9, h⟩ | ⟨hd9, h⟩
        · obtain ⟨hg10, h⟩ := grd_some h
          refine Tri.run 1 [.r ⟨[], .bool v3, []⟩, .g true, .r ⟨[], .int .i64 v4, []⟩, .g true] [.keep [2] []] (K' := [.code [] 3]) (σ' := ⟨[(2, .bool ((a1.getD ((0 : Int).toNat) 0) == (0 : Int)))], []⟩) rfl ⟨hg10, hd9, (w_spec_CountCoalitions a0 v4 hk8), hd7, (w_spec_l1In a0 (1 : Int) (5 : Int) v3 hk6), trivial⟩ rfl ?_
          have h := Option.some.inj h
          subst h
          exact Tri.ret rfl ⟨.inl rfl, rfl, rfl⟩
        · refine Tri.run 1 [.r ⟨[], .bool v3, []⟩, .g true, .r ⟨[], .int .i64 v4, []⟩, .g false] [.keep [2] []] (K' := [.code [] 3]) (σ' := ⟨[(2, .bool false)], []⟩) rfl ⟨hd9, (w_spec_CountCoalitions a0 v4 hk8), hd7, (w_spec_l1In a0 (1 : Int) (5 : Int) v3 hk6), trivial⟩ rfl ?_
          have h := Option.some.inj h
          subst h
          exact Tri.ret rfl ⟨.inl rfl, rfl, rfl⟩
      · refine Tri.run 1 [.r ⟨[], .bool v3, []⟩, .g false, .g false] [.keep [2] []] (K' := [.code [] 3]) (σ' := ⟨[(2, .bool false)], []⟩) rfl ⟨rfl, hd7, (w_spec_l1In a0 (1 : Int) (5 : Int) v3 hk6), trivial⟩ rfl ?_
        have h := Option.some.inj h
        subst h
        exact Tri.ret rfl ⟨.inl rfl, rfl, rfl⟩
    · obtain ⟨rfl, hq⟩ := hq
      have h := Option.some.inj h
      subst h
      exact TriX.ret ⟨.inl rfl, hq⟩
/-! spec.l2Bit -/
noncomputable def E83_spec_l2Bit : Env := ⟨Try.prog, tys, (Try.f83.body).getD .skip, 5, tysOk, mixedOk⟩
abbrev q_spec_l2Bit (r : Int) (σ' : ASt) : Prop := resAV E83_spec_l2Bit.T σ' Try.f83.results.toList = some (.int .i64 r) ∧ keepO σ'.ob (namesO []) = []
noncomputable def m_spec_l2Bit (a0 : Int) : Option Int :=
(m_spec_CountCoalitions a0).bind fun v1 =>
some v1
theorem w_spec_l2Bit (a0 : Int) (r : Int) (h : m_spec_l2Bit a0 = some r) : AM.Spec Try.prog 83 [.int .i64 a0] [] (.int .i64 r) [] := by
  refine spec_of (E := E83_spec_l2Bit) Try.func83 rfl rfl rfl rfl ?_
  refine Tri.run 1 [] [.keep [0] []] (K' := [.code [(1, 0)] 0, .code [] 2]) (σ' := ⟨[(0, .int .i64 a0)], []⟩) rfl trivial rfl ?_
  obtain ⟨v1, hk1, h⟩ := bind_some h
  refine Tri.run 1 [.r ⟨[], .int .i64 v1, []⟩] [.keep [2] []] (K' := [.code [] 2]) (σ' := ⟨[(2, .int .i64 v1)], []⟩) rfl ⟨(w_spec_CountCoalitions a0 v1 hk1), trivial⟩ rfl ?_
  have h := Option.some.inj h
  subst h
  exact Tri.ret rfl ⟨.inl rfl, rfl, rfl⟩
/-! spec.HasPlayer -/
noncomputable def E89_spec_HasPlayer : Env := ⟨Try.prog, tys, (Try.f89.body).getD .skip, 19, tysOk, mixedOk⟩
abbrev q_spec_HasPlayer (r : Bool) (σ' : ASt) : Prop := resAV E89_spec_HasPlayer.T σ' Try.f89.results.toList = some (.bool r) ∧ keepO σ'.ob (namesO []) = []
noncomputable def m_spec_HasPlayer (a0 : Int) (a1 : Int) : Option Bool :=
(m_spec_l1In a1 (0 : Int) (4 : Int)).bind fun v1 =>
bif v1 then
(bif decide (a0 ≥ (0 : Int)) then
((m_spec_l2Bit a1).bind fun v2 =>
grd (v2 ≠ 0) <|
grd ((2 : Int) ≠ 0) <|
some (((IntKind.i64.wrap (a0.tdiv v2)).tmod (2 : Int)) == (1 : Int)))
else
(some false))
else
(some false)
theorem w_spec_HasPlayer (a0 : Int) (a1 : Int) (r : Bool) (h : m_spec_HasPlayer a0 a1 = some r) : AM.Spec Try.prog 89 [.int .i64 a0, .int .i64 a1] [] (.bool r) [] := by
  refine spec_of (E := E89_spec_HasPlayer) Try.func89 rfl rfl rfl rfl ?_
  refine Tri.run 1 [] [.keep [0, 1] []] (K' := [.code [(1, 0)] 0, .code [] 2]) (σ' := ⟨[(0, .int .i64 a0), (1, .int .i64 a1)], []⟩) rfl trivial rfl ?_
  obtain ⟨v1, hk1, h⟩ := bind_some h
  rcases bif_some h with ⟨hd2, h⟩ | ⟨hd2, h⟩
  · rcases bif_some h with ⟨hd3, h⟩ | ⟨hd3, h⟩
    · obtain ⟨v2, hk4, h⟩ := bind_some h
      obtain ⟨hg5, h⟩ := grd_some h
      obtain ⟨hg6, h⟩ := grd_some h
      refine Tri.run 1 [.r ⟨[], .bool v1, []⟩, .g true, .g true, .r ⟨[], .int .i64 v2, []⟩] [.keep [4] []] (K' := [.code [] 2]) (σ' := ⟨[(4, .bool (((IntKind.i64.wrap (a0.tdiv v2)).tmod (2 : Int)) == (1 : Int)))], []⟩) rfl ⟨hg6, hg5, (w_spec_l2Bit a1 v2 hk4), hd3, hd2, (w_spec_l1In a1 (0 : Int) (4 : Int) v1 hk1), trivial⟩ rfl ?_
      have h := Option.some.inj h
      subst h
      exact Tri.ret rfl ⟨.inl rfl, rfl, rfl⟩
    · refine Tri.run 1 [.r ⟨[], .bool v1, []⟩, .g true, .g false] [.keep [4] []] (K' := [.code [] 2]) (σ' := ⟨[(4, .bool false)], []⟩) rfl ⟨hd3, hd2, (w_spec_l1In a1 (0 : Int) (4 : Int) v1 hk1), trivial⟩ rfl ?_
      have h := Option.some.inj h
      subst h
      exact Tri.ret rfl ⟨.inl rfl, rfl, rfl⟩
  · refine Tri.run 1 [.r ⟨[], .bool v1, []⟩, .g false, .g false] [.keep [4] []] (K' := [.code [] 2]) (σ' := ⟨[(4, .bool false)], []⟩) rfl ⟨rfl, hd2, (w_spec_l1In a1 (0 : Int) (4 : Int) v1 hk1), trivial⟩ rfl ?_
    have h := Option.some.inj h
    subst h
    exact Tri.ret rfl ⟨.inl rfl, rfl, rfl⟩
/-! spec.SizeOf -/
noncomputable def E90_spec_SizeOf : Env := ⟨Try.prog, tys, (Try.f90.body).getD .skip, 15, tysOk, mixedOk⟩
abbrev q_spec_SizeOf (r : Int) (σ' : ASt) : Prop := resAV E90_spec_SizeOf.T σ' Try.f90.results.toList = some (.int .i64 r) ∧ keepO σ'.ob (namesO []) = []
noncomputable def l_spec_SizeOf_0 (a0 : Int) : (Int × Int) → Option ((Int × Int) ⊕ Int)
  | (v1, v2) => (
bif decide (v2 < (5 : Int)) then
((m_spec_HasPlayer a0 v2).bind fun v3 =>
bif v3 then
(some (.inl (IntKind.i64.wrap (v1 + (1 : Int)), IntKind.i64.wrap (v2 + (1 : Int)))))
else
(some (.inl (v1, IntKind.i64.wrap (v2 + (1 : Int))))))
else
(some (.inr v1)))
noncomputable def m_spec_SizeOf (a0 : Int) : Option Int :=
(iter (l_spec_SizeOf_0 a0) ((0 : Int), (0 : Int))).bind fun
| v4 => (
some v4)
theorem w_spec_SizeOf (a0 : Int) (r : Int) (h : m_spec_SizeOf a0 = some r) : AM.Spec Try.prog 90 [.int .i64 a0] [] (.int .i64 r) [] := by
  refine spec_of (E := E90_spec_SizeOf) Try.func90 rfl rfl rfl rfl ?_
  refine Tri.run 3 [] [.keep [0, 3, 4] []] (K' := [.code [(2, 0), (1, 0)] 0, .blk 0, .code [] 3]) (σ' := ⟨[(0, .int .i64 a0), (3, .int .i64 (0 : Int)), (4, .int .i64 (0 : Int))], []⟩) rfl trivial rfl ?_
  obtain ⟨v4, hk4, h⟩ := bind_some h
  refine Tri.loop (K1 := [.code [(2, 0), (1, 0), (0, 0)] 0]) (K2 := [.blk 0, .code [] 3]) (fun (v1, v2) => ⟨[(0, .int .i64 a0), (3, .int .i64 v1), (4, .int .i64 v2)], []⟩) (fun x e σ' => match x with | v4 => e = .exit 0 ∧ σ' = ⟨[(3, .int .i64 v4)], []⟩) hk4 rfl rfl ?_ ?_
  · intro s x hs
    clear h
    have h := hs
    clear hs
    obtain ⟨v1, v2⟩ := s
    refine Tri.run 1 [] [.keep [0, 3, 4, 6] []] (K' := [.code [(2, 0), (1, 0), (0, 0), (0, 0)] 1, .code [(2, 0), (1, 0), (0, 0)] 1]) (σ' := ⟨[(0, .int .i64 a0), (3, .int .i64 v1), (4, .int .i64 v2), (6, .bool (decide (v2 < (5 : Int))))], []⟩) rfl trivial rfl ?_
    rcases bif_some h with ⟨hd1, h⟩ | ⟨hd1, h⟩
    · obtain ⟨v3, hk2, h⟩ := bind_some h
      refine Tri.run 2 [.g true, .r ⟨[], .bool v3, []⟩] [.keep [0, 3, 4, 11] []] (K' := [.code [(2, 0), (1, 0), (0, 0), (1, 0), (0, 0)] 1, .blk 1, .code [(2, 0), (1, 0), (0, 0)] 2]) (σ' := ⟨[(0, .int .i64 a0), (3, .int .i64 v1), (4, .int .i64 v2), (11, .bool v3)], []⟩) rfl ⟨(w_spec_HasPlayer a0 v2 v3 hk2), hd1, trivial⟩ rfl ?_
      rcases bif_some h with ⟨hd3, h⟩ | ⟨hd3, h⟩
      · refine Tri.run 3 [.g true] [.keep [0, 3, 4] []] (K' := []) (σ' := ⟨[(0, .int .i64 a0), (3, .int .i64 (IntKind.i64.wrap (v1 + (1 : Int)))), (4, .int .i64 (IntKind.i64.wrap (v2 + (1 : Int))))], []⟩) rfl ⟨hd3, trivial⟩ rfl ?_
        have h := Option.some.inj h
        subst h
        exact Tri.nil ⟨rfl, rfl⟩
      · refine Tri.run 2 [.g false] [.keep [0, 3, 4] []] (K' := []) (σ' := ⟨[(0, .int .i64 a0), (3, .int .i64 v1), (4, .int .i64 (IntKind.i64.wrap (v2 + (1 : Int))))], []⟩) rfl ⟨hd3, trivial⟩ rfl ?_
        have h := Option.some.inj h
        subst h
        exact Tri.nil ⟨rfl, rfl⟩
    · refine Tri.run 1 [.g false] [.keep [3] []] (K' := [.code [(2, 0), (1, 0), (0, 0), (0, 0), (1, 1)] 0, .code [(2, 0), (1, 0), (0, 0)] 1]) (σ' := ⟨[(3, .int .i64 v1)], []⟩) rfl ⟨hd1, trivial⟩ rfl ?_
      have h := Option.some.inj h
      subst h
      exact Tri.out 0 rfl ⟨nofun, rfl, rfl⟩
  · intro e σ' hne hq
    obtain ⟨rfl, rfl⟩ := hq
    refine TriX.exit (K' := [.code [] 3]) rfl ?_
    refine Tri.run 1 [] [.keep [2] []] (K' := [.code [] 4]) (σ' := ⟨[(2, .int .i64 v4)], []⟩) rfl trivial rfl ?_
    have h := Option.some.inj h
    subst h
    exact Tri.ret rfl ⟨.inl rfl, rfl, rfl⟩
/-! spec.l14Factorial -/
noncomputable def E91_spec_l14Factorial : Env := ⟨Try.prog, tys, (Try.f91.body).getD .skip, 14, tysOk, mixedOk⟩
abbrev q_spec_l14Factorial (r : Int) (σ' : ASt) : Prop := resAV E91_spec_l14Factorial.T σ' Try.f91.results.toList = some (.int .i64 r) ∧ keepO σ'.ob (namesO []) = []
noncomputable def l_spec_l14Factorial_0 (a0 : Int) : (Int × Int) → Option ((Int × Int) ⊕ Int)
  | (v1, v2) => (
bif decide (v2 ≤ a0) then
(some (.inl (IntKind.i64.wrap (v1 * v2), IntKind.i64.wrap (v2 + (1 : Int)))))
else
(some (.inr v1)))
noncomputable def m_spec_l14Factorial (a0 : Int) : Option Int :=
(iter (l_spec_l14Factorial_0 a0) ((1 : Int), (2 : Int))).bind fun
| v3 => (
some v3)
theorem w_spec_l14Factorial (a0 : Int) (r : Int) (h : m_spec_l14Factorial a0 = some r) : AM.Spec Try.prog 91 [.int .i64 a0] [] (.int .i64 r) [] := by
  refine spec_of (E := E91_spec_l14Factorial) Try.func91 rfl rfl rfl rfl ?_
  refine Tri.run 3 [] [.keep [0, 3, 4] []] (K' := [.code [(2, 0), (1, 0)] 0, .blk 0, .code [] 3]) (σ' := ⟨[(0, .int .i64 a0), (3, .int .i64 (1 : Int)), (4, .int .i64 (2 : Int))], []⟩) rfl trivial rfl ?_
  obtain ⟨v3, hk2, h⟩ := bind_some h
  refine Tri.loop (K1 := [.code [(2, 0), (1, 0), (0, 0)] 0]) (K2 := [.blk 0, .code [] 3]) (fun (v1, v2) => ⟨[(0, .int .i64 a0), (3, .int .i64 v1), (4, .int .i64 v2)], []⟩) (fun x e σ' => match x with | v3 => e = .exit 0 ∧ σ' = ⟨[(3, .int .i64 v3)], []⟩) hk2 rfl rfl ?_ ?_
  · intro s x hs
    clear h
    have h := hs
    clear hs
    obtain ⟨v1, v2⟩ := s
    refine Tri.run 1 [] [.keep [0, 3, 4, 7] []] (K' := [.code [(2, 0), (1, 0), (0, 0), (0, 0)] 1, .code [(2, 0), (1, 0), (0, 0)] 1]) (σ' := ⟨[(0, .int .i64 a0), (3, .int .i64 v1), (4, .int .i64 v2), (7, .bool (decide (v2 ≤ a0)))], []⟩) rfl trivial rfl ?_
    rcases bif_some h with ⟨hd1, h⟩ | ⟨hd1, h⟩
    · refine Tri.run 3 [.g true] [.keep [0, 3, 4] []] (K' := []) (σ' := ⟨[(0, .int .i64 a0), (3, .int .i64 (IntKind.i64.wrap (v1 * v2))), (4, .int .i64 (IntKind.i64.wrap (v2 + (1 : Int))))], []⟩) rfl ⟨hd1, trivial⟩ rfl ?_
      have h := Option.some.inj h
      subst h
      exact Tri.nil ⟨rfl, rfl⟩
    · refine Tri.run 1 [.g false] [.keep [3] []] (K' := [.code [(2, 0), (1, 0), (0, 0), (0, 0), (1, 1)] 0, .code [(2, 0), (1, 0), (0, 0)] 1]) (σ' := ⟨[(3, .int .i64 v1)], []⟩) rfl ⟨hd1, trivial⟩ rfl ?_
      have h := Option.some.inj h
      subst h
      exact Tri.out 0 rfl ⟨nofun, rfl, rfl⟩
  · intro e σ' hne hq
    obtain ⟨rfl, rfl⟩ := hq
    refine TriX.exit (K' := [.code [] 3]) rfl ?_
    refine Tri.run 1 [] [.keep [2] []] (K' := [.code [] 4]) (σ' := ⟨[(2, .int .i64 v3)], []⟩) rfl trivial rfl ?_
    have h := Option.some.inj h
    subst h
    exact Tri.ret rfl ⟨.inl rfl, rfl, rfl⟩
/-! spec.l3Gcd -/
noncomputable def E140_spec_l3Gcd : Env := ⟨Try.prog, tys, (Try.f140.body).getD .skip, 22, tysOk, mixedOk⟩
abbrev q_spec_l3Gcd (r : Int) (σ' : ASt) : Prop := resAV E140_spec_l3Gcd.T σ' Try.f140.results.toList = some (.int .i64 r) ∧ keepO σ'.ob (namesO []) = []
noncomputable def l_spec_l3Gcd_0 : (Int × Int) → Option ((Int × Int) ⊕ Int)
  | (v1, v2) => (
bif decide (v2 > (0 : Int)) then
(grd (v2 ≠ 0) <|
some (.inl (v2, v1.tmod v2)))
else
(some (.inr v1)))
noncomputable def l_spec_l3Gcd_1 : (Int × Int) → Option ((Int × Int) ⊕ Int)
  | (v4, v5) => (
bif decide (v5 > (0 : Int)) then
(grd (v5 ≠ 0) <|
some (.inl (v5, v4.tmod v5)))
else
(some (.inr v4)))
noncomputable def l_spec_l3Gcd_2 : (Int × Int) → Option ((Int × Int) ⊕ Int)
  | (v7, v8) => (
bif decide (v8 > (0 : Int)) then
(grd (v8 ≠ 0) <|
some (.inl (v8, v7.tmod v8)))
else
(some (.inr v7)))
noncomputable def l_spec_l3Gcd_3 : (Int × Int) → Option ((Int × Int) ⊕ Int)
  | (v10, v11) => (
bif decide (v11 > (0 : Int)) then
(grd (v11 ≠ 0) <|
some (.inl (v11, v10.tmod v11)))
else
(some (.inr v10)))
noncomputable def m_spec_l3Gcd (a0 : Int) (a1 : Int) : Option Int :=
bif decide (a0 < (0 : Int)) then
(bif decide (a1 < (0 : Int)) then
((iter (l_spec_l3Gcd_0) (IntKind.i64.wrap (0 - a0), IntKind.i64.wrap (0 - a1))).bind fun
| v3 => (
some v3))
else
((iter (l_spec_l3Gcd_1) (IntKind.i64.wrap (0 - a0), a1)).bind fun
| v6 => (
some v6)))
else
(bif decide (a1 < (0 : Int)) then
((iter (l_spec_l3Gcd_2) (a0, IntKind.i64.wrap (0 - a1))).bind fun
| v9 => (
some v9))
else
((iter (l_spec_l3Gcd_3) (a0, a1)).bind fun
| v12 => (
some v12)))
theorem w_spec_l3Gcd (a0 : Int) (a1 : Int) (r : Int) (h : m_spec_l3Gcd a0 a1 = some r) : AM.Spec Try.prog 140 [.int .i64 a0, .int .i64 a1] [] (.int .i64 r) [] := by
  refine spec_of (E := E140_spec_l3Gcd) Try.func140 rfl rfl rfl rfl ?_
  refine Tri.run 2 [] [.keep [0, 1, 7] []] (K' := [.code [(1, 0)] 1, .code [] 2]) (σ' := ⟨[(0, .int .i64 a0), (1, .int .i64 a1), (7, .bool (decide (a0 < (0 : Int))))], []⟩) rfl trivial rfl ?_
  rcases bif_some h with ⟨hd1, h⟩ | ⟨hd1, h⟩
  · refine Tri.run 3 [.g true] [.keep [0, 1, 11] []] (K' := [.code [(2, 0)] 1, .code [] 3]) (σ' := ⟨[(0, .int .i64 (IntKind.i64.wrap (0 - a0))), (1, .int .i64 a1), (11, .bool (decide (a1 < (0 : Int))))], []⟩) rfl ⟨hd1, trivial⟩ rfl ?_
    rcases bif_some h with ⟨hd2, h⟩ | ⟨hd2, h⟩
    · refine Tri.run 2 [.g true] [.keep [0, 1] []] (K' := [.code [(3, 0), (0, 0)] 0, .blk 0, .code [] 4]) (σ' := ⟨[(0, .int .i64 (IntKind.i64.wrap (0 - a0))), (1, .int .i64 (IntKind.i64.wrap (0 - a1)))], []⟩) rfl ⟨hd2, trivial⟩ rfl ?_
      obtain ⟨v3, hk5, h⟩ := bind_some h
      refine Tri.loop (K1 := [.code [(3, 0), (0, 0), (0, 0)] 0]) (K2 := [.blk 0, .code [] 4]) (fun (v1, v2) => ⟨[(0, .int .i64 v1), (1, .int .i64 v2)], []⟩) (fun x e σ' => match x with | v3 => e = .exit 0 ∧ σ' = ⟨[(0, .int .i64 v3)], []⟩) hk5 rfl rfl ?_ ?_
      · intro s x hs
        clear h
        have h := hs
        clear hs
        obtain ⟨v1, v2⟩ := s
        refine Tri.run 1 [] [.keep [0, 1, 15] []] (K' := [.code [(3, 0), (0, 0), (0, 0), (0, 0)] 1, .code [(3, 0), (0, 0), (0, 0)] 1]) (σ' := ⟨[(0, .int .i64 v1), (1, .int .i64 v2), (15, .bool (decide (v2 > (0 : Int))))], []⟩) rfl trivial rfl ?_
        rcases bif_some h with ⟨hd3, h⟩ | ⟨hd3, h⟩
        · obtain ⟨hg4, h⟩ := grd_some h
          refine Tri.run 3 [.g true] [.keep [0, 5] []] (K' := [.code [(3, 0), (0, 0), (0, 0), (1, 0)] 2, .blk 1]) (σ' := ⟨[(0, .int .i64 v2), (5, .int .i64 (v1.tmod v2))], []⟩) rfl ⟨hg4, hd3, trivial⟩ rfl ?_
          refine Tri.run 1 [] [.keep [0, 1] []] (K' := []) (σ' := ⟨[(0, .int .i64 v2), (1, .int .i64 (v1.tmod v2))], []⟩) rfl trivial rfl ?_
          have h := Option.some.inj h
          subst h
          exact Tri.nil ⟨rfl, rfl⟩
        · refine Tri.run 1 [.g false] [.keep [0] []] (K' := [.code [(3, 0), (0, 0), (0, 0), (0, 0), (1, 1)] 0, .code [(3, 0), (0, 0), (0, 0)] 1]) (σ' := ⟨[(0, .int .i64 v1)], []⟩) rfl ⟨hd3, trivial⟩ rfl ?_
          have h := Option.some.inj h
          subst h
          exact Tri.out 0 rfl ⟨nofun, rfl, rfl⟩
      · intro e σ' hne hq
        obtain ⟨rfl, rfl⟩ := hq
        refine TriX.exit (K' := [.code [] 4]) rfl ?_
        refine Tri.run 1 [] [.keep [4] []] (K' := [.code [] 5]) (σ' := ⟨[(4, .int .i64 v3)], []⟩) rfl trivial rfl ?_
        have h := Option.some.inj h
        subst h
        exact Tri.ret rfl ⟨.inl rfl, rfl, rfl⟩
    · refine Tri.run 1 [.g false] [.keep [0, 1] []] (K' := [.code [(3, 0), (0, 0)] 0, .blk 0, .code [] 4]) (σ' := ⟨[(0, .int .i64 (IntKind.i64.wrap (0 - a0))), (1, .int .i64 a1)], []⟩) rfl ⟨hd2, trivial⟩ rfl ?_
      obtain ⟨v6, hk8, h⟩ := bind_some h
      refine Tri.loop (K1 := [.code [(3, 0), (0, 0), (0, 0)] 0]) (K2 := [.blk 0, .code [] 4]) (fun (v4, v5) => ⟨[(0, .int .i64 v4), (1, .int .i64 v5)], []⟩) (fun x e σ' => match x with | v6 => e = .exit 0 ∧ σ' = ⟨[(0, .int .i64 v6)], []⟩) hk8 rfl rfl ?_ ?_
      · intro s x hs
        clear h
        have h := hs
        clear hs
        obtain ⟨v4, v5⟩ := s
        refine Tri.run 1 [] [.keep [0, 1, 15] []] (K' := [.code [(3, 0), (0, 0), (0, 0), (0, 0)] 1, .code [(3, 0), (0, 0), (0, 0)] 1]) (σ' := ⟨[(0, .int .i64 v4), (1, .int .i64 v5), (15, .bool (decide (v5 > (0 : Int))))], []⟩) rfl trivial rfl ?_
        rcases bif_some h with ⟨hd6, h⟩ | ⟨hd6, h⟩
        · obtain ⟨hg7, h⟩ := grd_some h
          refine Tri.run 3 [.g true] [.keep [0, 5] []] (K' := [.code [(3, 0), (0, 0), (0, 0), (1, 0)] 2, .blk 1]) (σ' := ⟨[(0, .int .i64 v5), (5, .int .i64 (v4.tmod v5))], []⟩) rfl ⟨hg7, hd6, trivial⟩ rfl ?_
          refine Tri.run 1 [] [.keep [0, 1] []] (K' := []) (σ' := ⟨[(0, .int .i64 v5), (1, .int .i64 (v4.tmod v5))], []⟩) rfl trivial rfl ?_
          have h := Option.some.inj h
          subst h
          exact Tri.nil ⟨rfl, rfl⟩
        · refine Tri.run 1 [.g false] [.keep [0] []] (K' := [.code [(3, 0), (0, 0), (0, 0), (0, 0), (1, 1)] 0, .code [(3, 0), (0, 0), (0, 0)] 1]) (σ' := ⟨[(0, .int .i64 v4)], []⟩) rfl ⟨hd6, trivial⟩ rfl ?_
          have h := Option.some.inj h
          subst h
          exact Tri.out 0 rfl ⟨nofun, rfl, rfl⟩
      · intro e σ' hne hq
        obtain ⟨rfl, rfl⟩ := hq
        refine TriX.exit (K' := [.code [] 4]) rfl ?_
        refine Tri.run 1 [] [.keep [4] []] (K' := [.code [] 5]) (σ' := ⟨[(4, .int .i64 v6)], []⟩) rfl trivial rfl ?_
        have h := Option.some.inj h
        subst h
        exact Tri.ret rfl ⟨.inl rfl, rfl, rfl⟩
  · refine Tri.run 2 [.g false] [.keep [0, 1, 11] []] (K' := [.code [(2, 0)] 1, .code [] 3]) (σ' := ⟨[(0, .int .i64 a0), (1, .int .i64 a1), (11, .bool (decide (a1 < (0 : Int))))], []⟩) rfl ⟨hd1, trivial⟩ rfl ?_
    rcases bif_some h with ⟨hd9, h⟩ | ⟨hd9, h⟩
    · refine Tri.run 2 [.g true] [.keep [0, 1] []] (K' := [.code [(3, 0), (0, 0)] 0, .blk 0, .code [] 4]) (σ' := ⟨[(0, .int .i64 a0), (1, .int .i64 (IntKind.i64.wrap (0 - a1)))], []⟩) rfl ⟨hd9, trivial⟩ rfl ?_
      obtain ⟨v9, hk12, h⟩ := bind_some h
      refine Tri.loop (K1 := [.code [(3, 0), (0, 0), (0, 0)] 0]) (K2 := [.blk 0, .code [] 4]) (fun (v7, v8) => ⟨[(0, .int .i64 v7), (1, .int .i64 v8)], []⟩) (fun x e σ' => match x with | v9 => e = .exit 0 ∧ σ' = ⟨[(0, .int .i64 v9)], []⟩) hk12 rfl rfl ?_ ?_
      · intro s x hs
        clear h
        have h := hs
        clear hs
        obtain ⟨v7, v8⟩ := s
        refine Tri.run 1 [] [.keep [0, 1, 15] []] (K' := [.code [(3, 0), (0, 0), (0, 0), (0, 0)] 1, .code [(3, 0), (0, 0), (0, 0)] 1]) (σ' := ⟨[(0, .int .i64 v7), (1, .int .i64 v8), (15, .bool (decide (v8 > (0 : Int))))], []⟩) rfl trivial rfl ?_
        rcases bif_some h with ⟨hd10, h⟩ | ⟨hd10, h⟩
        · obtain ⟨hg11, h⟩ := grd_some h
          refine Tri.run 3 [.g true] [.keep [0, 5] []] (K' := [.code [(3, 0), (0, 0), (0, 0), (1, 0)] 2, .blk 1]) (σ' := ⟨[(0, .int .i64 v8), (5, .int .i64 (v7.tmod v8))], []⟩) rfl ⟨hg11, hd10, trivial⟩ rfl ?_
          refine Tri.run 1 [] [.keep [0, 1] []] (K' := []) (σ' := ⟨[(0, .int .i64 v8), (1, .int .i64 (v7.tmod v8))], []⟩) rfl trivial rfl ?_
          have h := Option.some.inj h
          subst h
          exact Tri.nil ⟨rfl, rfl⟩
        · refine Tri.run 1 [.g false] [.keep [0] []] (K' := [.code [(3, 0), (0, 0), (0, 0), (0, 0), (1, 1)] 0, .code [(3, 0), (0, 0), (0, 0)] 1]) (σ' := ⟨[(0, .int .i64 v7)], []⟩) rfl ⟨hd10, trivial⟩ rfl ?_
          have h := Option.some.inj h
          subst h
          exact Tri.out 0 rfl ⟨nofun, rfl, rfl⟩
      · intro e σ' hne hq
        obtain ⟨rfl, rfl⟩ := hq
        refine TriX.exit (K' := [.code [] 4]) rfl ?_
        refine Tri.run 1 [] [.keep [4] []] (K' := [.code [] 5]) (σ' := ⟨[(4, .int .i64 v9)], []⟩) rfl trivial rfl ?_
        have h := Option.some.inj h
        subst h
        exact Tri.ret rfl ⟨.inl rfl, rfl, rfl⟩
    · refine Tri.run 1 [.g false] [.keep [0, 1] []] (K' := [.code [(3, 0), (0, 0)] 0, .blk 0, .code [] 4]) (σ' := ⟨[(0, .int .i64 a0), (1, .int .i64 a1)], []⟩) rfl ⟨hd9, trivial⟩ rfl ?_
      obtain ⟨v12, hk15, h⟩ := bind_some h
      refine Tri.loop (K1 := [.code [(3, 0), (0, 0), (0, 0)] 0]) (K2 := [.blk 0, .code [] 4]) (fun (v10, v11) => ⟨[(0, .int .i64 v10), (1, .int .i64 v11)], []⟩) (fun x e σ' => match x with | v12 => e = .exit 0 ∧ σ' = ⟨[(0, .int .i64 v12)], []⟩) hk15 rfl rfl ?_ ?_
      · intro s x hs
        clear h
        have h := hs
        clear hs
        obtain ⟨v10, v11⟩ := s
        refine Tri.run 1 [] [.keep [0, 1, 15] []] (K' := [.code [(3, 0), (0, 0), (0, 0), (0, 0)] 1, .code [(3, 0), (0, 0), (0, 0)] 1]) (σ' := ⟨[(0, .int .i64 v10), (1, .int .i64 v11), (15, .bool (decide (v11 > (0 : Int))))], []⟩) rfl trivial rfl ?_
        rcases bif_some h with ⟨hd13, h⟩ | ⟨hd13, h⟩
        · obtain ⟨hg14, h⟩ := grd_some h
          refine Tri.run 3 [.g true] [.keep [0, 5] []] (K' := [.code [(3, 0), (0, 0), (0, 0), (1, 0)] 2, .blk 1]) (σ' := ⟨[(0, .int .i64 v11), (5, .int .i64 (v10.tmod v11))], []⟩) rfl ⟨hg14, hd13, trivial⟩ rfl ?_
          refine Tri.run 1 [] [.keep [0, 1] []] (K' := []) (σ' := ⟨[(0, .int .i64 v11), (1, .int .i64 (v10.tmod v11))], []⟩) rfl trivial rfl ?_
          have h := Option.some.inj h
          subst h
          exact Tri.nil ⟨rfl, rfl⟩
        · refine Tri.run 1 [.g false] [.keep [0] []] (K' := [.code [(3, 0), (0, 0), (0, 0), (0, 0), (1, 1)] 0, .code [(3, 0), (0, 0), (0, 0)] 1]) (σ' := ⟨[(0, .int .i64 v10)], []⟩) rfl ⟨hd13, trivial⟩ rfl ?_
          have h := Option.some.inj h
          subst h
          exact Tri.out 0 rfl ⟨nofun, rfl, rfl⟩
      · intro e σ' hne hq
        obtain ⟨rfl, rfl⟩ := hq
        refine TriX.exit (K' := [.code [] 4]) rfl ?_
        refine Tri.run 1 [] [.keep [4] []] (K' := [.code [] 5]) (σ' := ⟨[(4, .int .i64 v12)], []⟩) rfl trivial rfl ?_
        have h := Option.some.inj h
        subst h
        exact Tri.ret rfl ⟨.inl rfl, rfl, rfl⟩
/-! spec.IsValidRat -/
noncomputable def E132_spec_IsValidRat : Env := ⟨Try.prog, tys, (Try.f132.body).getD .skip, 19, tysOk, mixedOk⟩
abbrev q_spec_IsValidRat (r : Bool) (σ' : ASt) : Prop := resAV E132_spec_IsValidRat.T σ' Try.f132.results.toList = some (.bool r) ∧ keepO σ'.ob (namesO []) = []
noncomputable def m_spec_IsValidRat (a0 : Int) (a1 : Int) : Option Bool :=
(m_spec_l1In a1 (1 : Int) (1000000000 : Int)).bind fun v1 =>
bif v1 then
((m_spec_l1In a0 (-1000000000 : Int) (1000000000 : Int)).bind fun v2 =>
bif v2 then
((m_spec_l3Gcd a0 a1).bind fun v3 =>
some (v3 == (1 : Int)))
else
(some false))
else
(some false)
theorem w_spec_IsValidRat (a0 : Int) (a1 : Int) (r : Bool) (h : m_spec_IsValidRat a0 a1 = some r) : AM.Spec Try.prog 132 [.agg [.int .i64 a0, .int .i64 a1]] [] (.bool r) [] := by
  refine spec_of (E := E132_spec_IsValidRat) Try.func132 rfl rfl rfl rfl ?_
  refine Tri.run 1 [] [.keep [1] [1]] (K' := [.code [(1, 0)] 0, .code [] 2]) (σ' := ⟨[(1, .ptr 1 0)], [(1, .box [.int .i64 a0, .int .i64 a1])]⟩) rfl trivial rfl ?_
  obtain ⟨v1, hk1, h⟩ := bind_some h
  rcases bif_some h with ⟨hd2, h⟩ | ⟨hd2, h⟩
  · obtain ⟨v2, hk3, h⟩ := bind_some h
    rcases bif_some h with ⟨hd4, h⟩ | ⟨hd4, h⟩
    · obtain ⟨v3, hk5, h⟩ := bind_some h
      refine Tri.run 1 [.r ⟨[], .bool v1, []⟩, .g true, .r ⟨[], .bool v2, []⟩, .g true, .r ⟨[], .int .i64 v3, []⟩] [.keep [2] []] (K' := [.code [] 2]) (σ' := ⟨[(2, .bool (v3 == (1 : Int)))], []⟩) rfl ⟨(w_spec_l3Gcd a0 a1 v3 hk5), hd4, (w_spec_l1In a0 (-1000000000 : Int) (1000000000 : Int) v2 hk3), hd2, (w_spec_l1In a1 (1 : Int) (1000000000 : Int) v1 hk1), trivial⟩ rfl ?_
      have h := Option.some.inj h
      subst h
      exact Tri.ret rfl ⟨.inl rfl, rfl, rfl⟩
    · refine Tri.run 1 [.r ⟨[], .bool v1, []⟩, .g true, .r ⟨[], .bool v2, []⟩, .g false] [.keep [2] []] (K' := [.code [] 2]) (σ' := ⟨[(2, .bool false)], []⟩) rfl ⟨hd4, (w_spec_l1In a0 (-1000000000 : Int) (1000000000 : Int) v2 hk3), hd2, (w_spec_l1In a1 (1 : Int) (1000000000 : Int) v1 hk1), trivial⟩ rfl ?_
      have h := Option.some.inj h
      subst h
      exact Tri.ret rfl ⟨.inl rfl, rfl, rfl⟩
  · refine Tri.run 1 [.r ⟨[], .bool v1, []⟩, .g false, .g false] [.keep [2] []] (K' := [.code [] 2]) (σ' := ⟨[(2, .bool false)], []⟩) rfl ⟨rfl, hd2, (w_spec_l1In a1 (1 : Int) (1000000000 : Int) v1 hk1), trivial⟩ rfl ?_
    have h := Option.some.inj h
    subst h
    exact Tri.ret rfl ⟨.inl rfl, rfl, rfl⟩
/-! spec.RatOf -/
noncomputable def E92_spec_RatOf : Env := ⟨Try.prog, tys, (Try.f92.body).getD .skip, 42, tysOk, mixedOk⟩
abbrev q_spec_RatOf (r : Int × Int × Bool) (σ' : ASt) : Prop := resAV E92_spec_RatOf.T σ' Try.f92.results.toList = some (.tuple [.agg [.int .i64 r.1, .int .i64 r.2.1], .bool r.2.2]) ∧ keepO σ'.ob (namesO []) = []
noncomputable def m_spec_RatOf (a0 : Int) (a1 : Int) : Option (Int × Int × Bool) :=
bif a1 == (0 : Int) then
(some (0, 0, false))
else
((m_spec_l1In a0 (-1000000000000000000 : Int) (1000000000000000000 : Int)).bind fun v1 =>
bif !v1 then
(some (0, 0, false))
else
((m_spec_l1In a1 (-1000000000000000000 : Int) (1000000000000000000 : Int)).bind fun v2 =>
bif !v2 then
(some (0, 0, false))
else
(bif decide (a1 < (0 : Int)) then
((m_spec_l3Gcd (IntKind.i64.wrap (0 - a0)) (IntKind.i64.wrap (0 - a1))).bind fun v3 =>
grd (v3 ≠ 0) <|
grd (v3 ≠ 0) <|
(m_spec_IsValidRat (IntKind.i64.wrap ((IntKind.i64.wrap (0 - a0)).tdiv v3)) (IntKind.i64.wrap ((IntKind.i64.wrap (0 - a1)).tdiv v3))).bind fun v4 =>
bif !v4 then
(some (0, 0, false))
else
(some (IntKind.i64.wrap ((IntKind.i64.wrap (0 - a0)).tdiv v3), IntKind.i64.wrap ((IntKind.i64.wrap (0 - a1)).tdiv v3), true)))
else
((m_spec_l3Gcd a0 a1).bind fun v5 =>
grd (v5 ≠ 0) <|
grd (v5 ≠ 0) <|
(m_spec_IsValidRat (IntKind.i64.wrap (a0.tdiv v5)) (IntKind.i64.wrap (a1.tdiv v5))).bind fun v6 =>
bif !v6 then
(some (0, 0, false))
else
(some (IntKind.i64.wrap (a0.tdiv v5), IntKind.i64.wrap (a1.tdiv v5), true))))))
theorem w_spec_RatOf (a0 : Int) (a1 : Int) (r : Int × Int × Bool) (h : m_spec_RatOf a0 a1 = some r) : AM.Spec Try.prog 92 [.int .i64 a0, .int .i64 a1] [] (.tuple [.agg [.int .i64 r.1, .int .i64 r.2.1], .bool r.2.2]) [] := by
  refine spec_of (E := E92_spec_RatOf) Try.func92 rfl rfl rfl rfl ?_
  refine Tri.run 1 [] [.keep [0, 1, 4] [4]] (K' := [.code [(1, 0), (0, 0)] 0, .code [(1, 0)] 1, .code [] 2]) (σ' := ⟨[(0, .int .i64 a0), (1, .int .i64 a1), (4, .ptr 4 0)], [(4, .box [.int .i64 0, .int .i64 0])]⟩) rfl trivial rfl ?_
  rcases bif_some h with ⟨hd1, h⟩ | ⟨hd1, h⟩
  · refine Tri.run 1 [.g true, .g true] [.keep [0, 1, 4, 19] [4]] (K' := [.code [(1, 0)] 1, .code [] 2]) (σ' := ⟨[(0, .int .i64 a0), (1, .int .i64 a1), (4, .ptr 4 0), (19, .bool true)], [(4, .box [.int .i64 0, .int .i64 0])]⟩) rfl ⟨rfl, hd1, trivial⟩ rfl ?_
    refine Tri.run 2 [.g true] [.keep [4, 5] [4]] (K' := [.code [(1, 0), (1, 0)] 1, .code [] 2]) (σ' := ⟨[(4, .ptr 4 0), (5, .bool false)], [(4, .box [.int .i64 0, .int .i64 0])]⟩) rfl ⟨rfl, trivial⟩ rfl ?_
    have h := Option.some.inj h
    subst h
    exact Tri.ret rfl ⟨.inl rfl, rfl, rfl⟩
  · obtain ⟨v1, hk2, h⟩ := bind_some h
    rcases bif_some h with ⟨hd3, h⟩ | ⟨hd3, h⟩
    · refine Tri.run 1 [.g false, .r ⟨[], .bool v1, []⟩, .g true] [.keep [0, 1, 4, 19] [4]] (K' := [.code [(1, 0)] 1, .code [] 2]) (σ' := ⟨[(0, .int .i64 a0), (1, .int .i64 a1), (4, .ptr 4 0), (19, .bool true)], [(4, .box [.int .i64 0, .int .i64 0])]⟩) rfl ⟨hd3, (w_spec_l1In a0 (-1000000000000000000 : Int) (1000000000000000000 : Int) v1 hk2), hd1, trivial⟩ rfl ?_
      refine Tri.run 2 [.g true] [.keep [4, 5] [4]] (K' := [.code [(1, 0), (1, 0)] 1, .code [] 2]) (σ' := ⟨[(4, .ptr 4 0), (5, .bool false)], [(4, .box [.int .i64 0, .int .i64 0])]⟩) rfl ⟨rfl, trivial⟩ rfl ?_
      have h := Option.some.inj h
      subst h
      exact Tri.ret rfl ⟨.inl rfl, rfl, rfl⟩
    · obtain ⟨v2, hk4, h⟩ := bind_some h
      refine Tri.run 1 [.g false, .r ⟨[], .bool v1, []⟩, .g false, .r ⟨[], .bool v2, []⟩] [.keep [0, 1, 4, 19] [4]] (K' := [.code [(1, 0)] 1, .code [] 2]) (σ' := ⟨[(0, .int .i64 a0), (1, .int .i64 a1), (4, .ptr 4 0), (19, .bool (!v2))], [(4, .box [.int .i64 0, .int .i64 0])]⟩) rfl ⟨(w_spec_l1In a1 (-1000000000000000000 : Int) (1000000000000000000 : Int) v2 hk4), hd3, (w_spec_l1In a0 (-1000000000000000000 : Int) (1000000000000000000 : Int) v1 hk2), hd1, trivial⟩ rfl ?_
      rcases bif_some h with ⟨hd5, h⟩ | ⟨hd5, h⟩
      · refine Tri.run 2 [.g true] [.keep [4, 5] [4]] (K' := [.code [(1, 0), (1, 0)] 1, .code [] 2]) (σ' := ⟨[(4, .ptr 4 0), (5, .bool false)], [(4, .box [.int .i64 0, .int .i64 0])]⟩) rfl ⟨hd5, trivial⟩ rfl ?_
        have h := Option.some.inj h
        subst h
        exact Tri.ret rfl ⟨.inl rfl, rfl, rfl⟩
      · refine Tri.run 2 [.g false] [.keep [0, 1, 4, 22] [4]] (K' := [.code [(2, 0)] 1, .code [] 3]) (σ' := ⟨[(0, .int .i64 a0), (1, .int .i64 a1), (4, .ptr 4 0), (22, .bool (decide (a1 < (0 : Int))))], [(4, .box [.int .i64 0, .int .i64 0])]⟩) rfl ⟨hd5, trivial⟩ rfl ?_
        rcases bif_some h with ⟨hd6, h⟩ | ⟨hd6, h⟩
        · refine Tri.run 3 [.g true] [.keep [0, 1, 4] [4]] (K' := [.code [(3, 0)] 0, .code [] 4]) (σ' := ⟨[(0, .int .i64 (IntKind.i64.wrap (0 - a0))), (1, .int .i64 (IntKind.i64.wrap (0 - a1))), (4, .ptr 4 0)], [(4, .box [.int .i64 0, .int .i64 0])]⟩) rfl ⟨hd6, trivial⟩ rfl ?_
          obtain ⟨v3, hk7, h⟩ := bind_some h
          obtain ⟨hg8, h⟩ := grd_some h
          obtain ⟨hg9, h⟩ := grd_some h
          refine Tri.run 2 [.r ⟨[], .int .i64 v3, []⟩] [.keep [4, 7] [4, 7]] (K' := [.code [(5, 0), (0, 0)] 0, .code [(5, 0)] 1, .code [] 6]) (σ' := ⟨[(4, .ptr 4 0), (7, .ptr 7 0)], [(4, .box [.int .i64 0, .int .i64 0]), (7, .box [.int .i64 (IntKind.i64.wrap ((IntKind.i64.wrap (0 - a0)).tdiv v3)), .int .i64 (IntKind.i64.wrap ((IntKind.i64.wrap (0 - a1)).tdiv v3))])]⟩) rfl ⟨hg9, hg8, (w_spec_l3Gcd (IntKind.i64.wrap (0 - a0)) (IntKind.i64.wrap (0 - a1)) v3 hk7), trivial⟩ rfl ?_
          obtain ⟨v4, hk10, h⟩ := bind_some h
          refine Tri.run 1 [.r ⟨[], .bool v4, []⟩] [.keep [4, 7, 39] [4, 7]] (K' := [.code [(5, 0)] 1, .code [] 6]) (σ' := ⟨[(4, .ptr 4 0), (7, .ptr 7 0), (39, .bool (!v4))], [(4, .box [.int .i64 0, .int .i64 0]), (7, .box [.int .i64 (IntKind.i64.wrap ((IntKind.i64.wrap (0 - a0)).tdiv v3)), .int .i64 (IntKind.i64.wrap ((IntKind.i64.wrap (0 - a1)).tdiv v3))])]⟩) rfl ⟨(w_spec_IsValidRat (IntKind.i64.wrap ((IntKind.i64.wrap (0 - a0)).tdiv v3)) (IntKind.i64.wrap ((IntKind.i64.wrap (0 - a1)).tdiv v3)) v4 hk10), trivial⟩ rfl ?_
          rcases bif_some h with ⟨hd11, h⟩ | ⟨hd11, h⟩
          · refine Tri.run 2 [.g true] [.keep [4, 5] [4]] (K' := [.code [(5, 0), (1, 0)] 1, .code [] 6]) (σ' := ⟨[(4, .ptr 4 0), (5, .bool false)], [(4, .box [.int .i64 0, .int .i64 0])]⟩) rfl ⟨hd11, trivial⟩ rfl ?_
            have h := Option.some.inj h
            subst h
            exact Tri.ret rfl ⟨.inl rfl, rfl, rfl⟩
          · refine Tri.run 2 [.g false] [.keep [4, 5] [4]] (K' := [.code [] 7]) (σ' := ⟨[(4, .ptr 4 0), (5, .bool true)], [(4, .box [.int .i64 (IntKind.i64.wrap ((IntKind.i64.wrap (0 - a0)).tdiv v3)), .int .i64 (IntKind.i64.wrap ((IntKind.i64.wrap (0 - a1)).tdiv v3))])]⟩) rfl ⟨hd11, trivial⟩ rfl ?_
            have h := Option.some.inj h
            subst h
            exact Tri.ret rfl ⟨.inl rfl, rfl, rfl⟩
        · obtain ⟨v5, hk12, h⟩ := bind_some h
          obtain ⟨hg13, h⟩ := grd_some h
          obtain ⟨hg14, h⟩ := grd_some h
          refine Tri.run 3 [.g false, .r ⟨[], .int .i64 v5, []⟩] [.keep [4, 7] [4, 7]] (K' := [.code [(5, 0), (0, 0)] 0, .code [(5, 0)] 1, .code [] 6]) (σ' := ⟨[(4, .ptr 4 0), (7, .ptr 7 0)], [(4, .box [.int .i64 0, .int .i64 0]), (7, .box [.int .i64 (IntKind.i64.wrap (a0.tdiv v5)), .int .i64 (IntKind.i64.wrap (a1.tdiv v5))])]⟩) rfl ⟨hg14, hg13, (w_spec_l3Gcd a0 a1 v5 hk12), hd6, trivial⟩ rfl ?_
          obtain ⟨v6, hk15, h⟩ := bind_some h
          refine Tri.run 1 [.r ⟨[], .bool v6, []⟩] [.keep [4, 7, 39] [4, 7]] (K' := [.code [(5, 0)] 1, .code [] 6]) (σ' := ⟨[(4, .ptr 4 0), (7, .ptr 7 0), (39, .bool (!v6))], [(4, .box [.int .i64 0, .int .i64 0]), (7, .box [.int .i64 (IntKind.i64.wrap (a0.tdiv v5)), .int .i64 (IntKind.i64.wrap (a1.tdiv v5))])]⟩) rfl ⟨(w_spec_IsValidRat (IntKind.i64.wrap (a0.tdiv v5)) (IntKind.i64.wrap (a1.tdiv v5)) v6 hk15), trivial⟩ rfl ?_
          rcases bif_some h with ⟨hd16, h⟩ | ⟨hd16, h⟩
          · refine Tri.run 2 [.g true] [.keep [4, 5] [4]] (K' := [.code [(5, 0), (1, 0)] 1, .code [] 6]) (σ' := ⟨[(4, .ptr 4 0), (5, .bool false)], [(4, .box [.int .i64 0, .int .i64 0])]⟩) rfl ⟨hd16, trivial⟩ rfl ?_
            have h := Option.some.inj h
            subst h
            exact Tri.ret rfl ⟨.inl rfl, rfl, rfl⟩
          · refine Tri.run 2 [.g false] [.keep [4, 5] [4]] (K' := [.code [] 7]) (σ' := ⟨[(4, .ptr 4 0), (5, .bool true)], [(4, .box [.int .i64 (IntKind.i64.wrap (a0.tdiv v5)), .int .i64 (IntKind.i64.wrap (a1.tdiv v5))])]⟩) rfl ⟨hd16, trivial⟩ rfl ?_
            have h := Option.some.inj h
            subst h
            exact Tri.ret rfl ⟨.inl rfl, rfl, rfl⟩
/-! spec.ShapleyValue -/
noncomputable def E31_spec_ShapleyValue : Env := ⟨Try.prog, tys, (Try.f31.body).getD .skip, 73, tysOk, mixedOk⟩
abbrev q_spec_ShapleyValue (r : Bool × (List Q)) (σ' : ASt) : Prop := resAV E31_spec_ShapleyValue.T σ' Try.f31.results.toList = some (.tuple [.sl 1000 0, .bool r.1]) ∧ keepO σ'.ob (namesO [(1000, .arr 29 0 0 (.rats r.2))]) = [(1000, .arr 29 0 0 (.rats r.2))]
noncomputable def l_spec_ShapleyValue_1 (a0 : Int) (a1 : List Int) (v2 : Int) : (Int × Int) → Option ((Int × Int) ⊕ Int)
  | (v4, v5) => (
bif decide (v5 < (a1.length : Int)) then
((m_spec_HasPlayer v5 v2).bind fun v6 =>
bif v6 then
(some (.inl (v4, IntKind.i64.wrap (v5 + (1 : Int)))))
else
((m_spec_SizeOf v5).bind fun v7 =>
(m_spec_l14Factorial v7).bind fun v8 =>
(m_spec_l14Factorial (IntKind.i64.wrap ((IntKind.i64.wrap (a0 - v7)) - (1 : Int)))).bind fun v9 =>
(m_spec_l2Bit v2).bind fun v10 =>
grd ((0 : Int) ≤ IntKind.i64.wrap (v5 + v10) ∧ IntKind.i64.wrap (v5 + v10) < (a1.length : Int)) <|
grd ((0 : Int) ≤ v5 ∧ v5 < (a1.length : Int)) <|
some (.inl (IntKind.i64.wrap (v4 + (IntKind.i64.wrap ((IntKind.i64.wrap (v8 * v9)) * (IntKind.i64.wrap ((a1.getD ((IntKind.i64.wrap (v5 + v10)).toNat) 0) - (a1.getD v5.toNat 0)))))), IntKind.i64.wrap (v5 + (1 : Int))))))
else
(some (.inr v4)))
noncomputable def l_spec_ShapleyValue_0 (a0 : Int) (a1 : List Int) : (Int × (List Q)) → Option ((Int × (List Q)) ⊕ ((List Q)))
  | (v2, v3) => (
bif decide (v2 < a0) then
((iter (l_spec_ShapleyValue_1 a0 a1 v2) ((0 : Int), (0 : Int))).bind fun
| v11 => (
(m_spec_l14Factorial a0).bind fun v12 =>
(m_spec_RatOf v11 v12).bind fun (v13, v14, _) =>
grd (v3.length + ([⟨v13, v14⟩] : List Q).length ≤ room) <|
some (.inl (IntKind.i64.wrap (v2 + (1 : Int)), v3 ++ [⟨v13, v14⟩]))))
else
(some (.inr v3)))
noncomputable def m_spec_ShapleyValue (a0 : Int) (a1 : List Int) : Option (Bool × (List Q)) :=
(m_spec_IsValidGame a0 a1).bind fun v1 =>
bif !v1 then
(some (false, []))
else
((iter (l_spec_ShapleyValue_0 a0 a1) ((0 : Int), [])).bind fun
| v16 => (
some (true, v16)))
theorem w_spec_ShapleyValue (a0 : Int) (a1 : List Int) (r : Bool × (List Q)) (h : m_spec_ShapleyValue a0 a1 = some r) : AM.Spec Try.prog 31 [.agg [.int .i64 a0, .list (.ints a1)]] [] (.tuple [.sl 1000 0, .bool r.1]) [(1000, .arr 29 0 0 (.rats r.2))] := by
  refine spec_of (E := E31_spec_ShapleyValue) Try.func31 rfl rfl rfl rfl ?_
  refine Tri.run 2 [] [.keep [1, 4] [1, 12]] (K' := [.code [(2, 0), (0, 0)] 0, .code [(2, 0)] 1, .code [] 3]) (σ' := ⟨[(1, .ptr 1 0), (4, .sl 12 0)], [(1, .box [.int .i64 a0, .list (.ints a1)]), (12, .arr 29 0 0 (.rats []))]⟩) rfl trivial rfl ?_
  obtain ⟨v1, hk1, h⟩ := bind_some h
  refine Tri.run 1 [.r ⟨[], .bool v1, []⟩] [.keep [1, 4, 15] [1, 12]] (K' := [.code [(2, 0)] 1, .code [] 3]) (σ' := ⟨[(1, .ptr 1 0), (4, .sl 12 0), (15, .bool (!v1))], [(1, .box [.int .i64 a0, .list (.ints a1)]), (12, .arr 29 0 0 (.rats []))]⟩) rfl ⟨(w_spec_IsValidGame a0 a1 v1 hk1), trivial⟩ rfl ?_
  rcases bif_some h with ⟨hd2, h⟩ | ⟨hd2, h⟩
  · refine Tri.run 2 [.g true] [.swap 12 1000, .keep [2, 3] [1000]] (K' := [.code [(2, 0), (1, 0)] 1, .code [] 3]) (σ' := ⟨[(2, .sl 1000 0), (3, .bool false)], [(1000, .arr 29 0 0 (.rats []))]⟩) rfl ⟨hd2, trivial⟩ rfl ?_
    have h := Option.some.inj h
    subst h
    exact Tri.ret rfl ⟨.inl rfl, rfl, rfl⟩
  · refine Tri.run 3 [.g false] [.keep [1, 4, 5, 6] [1, 12]] (K' := [.code [(4, 0), (1, 0)] 0, .blk 0, .code [] 5]) (σ' := ⟨[(1, .ptr 1 0), (4, .sl 12 0), (5, .int .i64 a0), (6, .int .i64 (0 : Int))], [(1, .box [.int .i64 a0, .list (.ints a1)]), (12, .arr 29 0 0 (.rats []))]⟩) rfl ⟨hd2, trivial⟩ rfl ?_
    obtain ⟨v16, hk17, h⟩ := bind_some h
    refine Tri.loop (K1 := [.code [(4, 0), (1, 0), (0, 0)] 0]) (K2 := [.blk 0, .code [] 5]) (fun (v2, v3) => ⟨[(1, .ptr 1 0), (4, .sl 12 0), (5, .int .i64 a0), (6, .int .i64 v2)], [(1, .box [.int .i64 a0, .list (.ints a1)]), (12, .arr 29 0 0 (.rats v3))]⟩) (fun x e σ' => match x with | v16 => e = .exit 0 ∧ σ' = ⟨[(4, .sl 12 0)], [(12, .arr 29 0 0 (.rats v16))]⟩) hk17 rfl rfl ?_ ?_
    · intro s x hs
      clear h
      have h := hs
      clear hs
      obtain ⟨v2, v3⟩ := s
      refine Tri.run 1 [] [.keep [1, 4, 5, 6, 21] [1, 12]] (K' := [.code [(4, 0), (1, 0), (0, 0), (0, 0)] 1, .code [(4, 0), (1, 0), (0, 0)] 1]) (σ' := ⟨[(1, .ptr 1 0), (4, .sl 12 0), (5, .int .i64 a0), (6, .int .i64 v2), (21, .bool (decide (v2 < a0)))], [(1, .box [.int .i64 a0, .list (.ints a1)]), (12, .arr 29 0 0 (.rats v3))]⟩) rfl trivial rfl ?_
      rcases bif_some h with ⟨hd3, h⟩ | ⟨hd3, h⟩
      · refine Tri.run 3 [.g true] [.keep [1, 4, 5, 6, 7, 8] [1, 12]] (K' := [.code [(4, 0), (1, 0), (0, 0), (1, 0), (0, 0), (1, 0), (1, 0)] 0, .blk 2, .code [(4, 0), (1, 0), (0, 0), (1, 0), (0, 0)] 2, .blk 1, .code [(4, 0), (1, 0), (0, 0)] 2]) (σ' := ⟨[(1, .ptr 1 0), (4, .sl 12 0), (5, .int .i64 a0), (6, .int .i64 v2), (7, .int .i64 (0 : Int)), (8, .int .i64 (0 : Int))], [(1, .box [.int .i64 a0, .list (.ints a1)]), (12, .arr 29 0 0 (.rats v3))]⟩) rfl ⟨hd3, trivial⟩ rfl ?_
        obtain ⟨v11, hk13, h⟩ := bind_some h
        refine Tri.loop (K1 := [.code [(4, 0), (1, 0), (0, 0), (1, 0), (0, 0), (1, 0), (1, 0), (0, 0)] 0]) (K2 := [.blk 2, .code [(4, 0), (1, 0), (0, 0), (1, 0), (0, 0)] 2, .blk 1, .code [(4, 0), (1, 0), (0, 0)] 2]) (fun (v4, v5) => ⟨[(1, .ptr 1 0), (4, .sl 12 0), (5, .int .i64 a0), (6, .int .i64 v2), (7, .int .i64 v4), (8, .int .i64 v5)], [(1, .box [.int .i64 a0, .list (.ints a1)]), (12, .arr 29 0 0 (.rats v3))]⟩) (fun x e σ' => match x with | v11 => e = .exit 2 ∧ σ' = ⟨[(1, .ptr 1 0), (4, .sl 12 0), (5, .int .i64 a0), (6, .int .i64 v2), (7, .int .i64 v11)], [(1, .box [.int .i64 a0, .list (.ints a1)]), (12, .arr 29 0 0 (.rats v3))]⟩) hk13 rfl rfl ?_ ?_
        · intro s x hs
          clear h
          have h := hs
          clear hs
          obtain ⟨v4, v5⟩ := s
          refine Tri.run 1 [] [.keep [1, 4, 5, 6, 7, 8, 28] [1, 12]] (K' := [.code [(4, 0), (1, 0), (0, 0), (1, 0), (0, 0), (1, 0), (1, 0), (0, 0), (0, 0)] 1, .code [(4, 0), (1, 0), (0, 0), (1, 0), (0, 0), (1, 0), (1, 0), (0, 0)] 1]) (σ' := ⟨[(1, .ptr 1 0), (4, .sl 12 0), (5, .int .i64 a0), (6, .int .i64 v2), (7, .int .i64 v4), (8, .int .i64 v5), (28, .bool (decide (v5 < (a1.length : Int))))], [(1, .box [.int .i64 a0, .list (.ints a1)]), (12, .arr 29 0 0 (.rats v3))]⟩) rfl trivial rfl ?_
          rcases bif_some h with ⟨hd4, h⟩ | ⟨hd4, h⟩
          · obtain ⟨v6, hk5, h⟩ := bind_some h
            refine Tri.run 2 [.g true, .r ⟨[], .bool v6, []⟩] [.keep [1, 4, 5, 6, 7, 8, 33] [1, 12]] (K' := [.code [(4, 0), (1, 0), (0, 0), (1, 0), (0, 0), (1, 0), (1, 0), (0, 0), (1, 0), (0, 0), (0, 0)] 1, .code [(4, 0), (1, 0), (0, 0), (1, 0), (0, 0), (1, 0), (1, 0), (0, 0), (1, 0), (0, 0)] 1, .blk 3, .code [(4, 0), (1, 0), (0, 0), (1, 0), (0, 0), (1, 0), (1, 0), (0, 0)] 2]) (σ' := ⟨[(1, .ptr 1 0), (4, .sl 12 0), (5, .int .i64 a0), (6, .int .i64 v2), (7, .int .i64 v4), (8, .int .i64 v5), (33, .bool v6)], [(1, .box [.int .i64 a0, .list (.ints a1)]), (12, .arr 29 0 0 (.rats v3))]⟩) rfl ⟨(w_spec_HasPlayer v5 v2 v6 hk5), hd4, trivial⟩ rfl ?_
            rcases bif_some h with ⟨hd6, h⟩ | ⟨hd6, h⟩
            · refine Tri.run 2 [.g true] [.keep [1, 4, 5, 6, 7, 8] [1, 12]] (K' := []) (σ' := ⟨[(1, .ptr 1 0), (4, .sl 12 0), (5, .int .i64 a0), (6, .int .i64 v2), (7, .int .i64 v4), (8, .int .i64 (IntKind.i64.wrap (v5 + (1 : Int))))], [(1, .box [.int .i64 a0, .list (.ints a1)]), (12, .arr 29 0 0 (.rats v3))]⟩) rfl ⟨hd6, trivial⟩ rfl ?_
              have h := Option.some.inj h
              subst h
              exact Tri.nil ⟨rfl, rfl⟩
            · obtain ⟨v7, hk7, h⟩ := bind_some h
              refine Tri.run 2 [.g false, .r ⟨[], .int .i64 v7, []⟩] [.keep [1, 4, 5, 6, 7, 8, 9] [1, 12]] (K' := [.code [(4, 0), (1, 0), (0, 0), (1, 0), (0, 0), (1, 0), (1, 0), (0, 0), (1, 0), (0, 0)] 2, .blk 3, .code [(4, 0), (1, 0), (0, 0), (1, 0), (0, 0), (1, 0), (1, 0), (0, 0)] 2]) (σ' := ⟨[(1, .ptr 1 0), (4, .sl 12 0), (5, .int .i64 a0), (6, .int .i64 v2), (7, .int .i64 v4), (8, .int .i64 v5), (9, .int .i64 v7)], [(1, .box [.int .i64 a0, .list (.ints a1)]), (12, .arr 29 0 0 (.rats v3))]⟩) rfl ⟨(w_spec_SizeOf v5 v7 hk7), hd6, trivial⟩ rfl ?_
              obtain ⟨v8, hk8, h⟩ := bind_some h
              obtain ⟨v9, hk9, h⟩ := bind_some h
              obtain ⟨v10, hk10, h⟩ := bind_some h
              obtain ⟨hg11, h⟩ := grd_some h
              obtain ⟨hg12, h⟩ := grd_some h
              refine Tri.run 2 [.r ⟨[], .int .i64 v8, []⟩, .r ⟨[], .int .i64 v9, []⟩, .r ⟨[], .int .i64 v10, []⟩] [.keep [1, 4, 5, 6, 7, 8] [1, 12]] (K' := []) (σ' := ⟨[(1, .ptr 1 0), (4, .sl 12 0), (5, .int .i64 a0), (6, .int .i64 v2), (7, .int .i64 (IntKind.i64.wrap (v4 + (IntKind.i64.wrap ((IntKind.i64.wrap (v8 * v9)) * (IntKind.i64.wrap ((a1.getD ((IntKind.i64.wrap (v5 + v10)).toNat) 0) - (a1.getD v5.toNat 0)))))))), (8, .int .i64 (IntKind.i64.wrap (v5 + (1 : Int))))], [(1, .box [.int .i64 a0, .list (.ints a1)]), (12, .arr 29 0 0 (.rats v3))]⟩) rfl ⟨hg12, hg11, (w_spec_l2Bit v2 v10 hk10), (w_spec_l14Factorial (IntKind.i64.wrap ((IntKind.i64.wrap (a0 - v7)) - (1 : Int))) v9 hk9), (w_spec_l14Factorial v7 v8 hk8), trivial⟩ rfl ?_
              have h := Option.some.inj h
              subst h
              exact Tri.nil ⟨rfl, rfl⟩
          · refine Tri.run 1 [.g false] [.keep [1, 4, 5, 6, 7] [1, 12]] (K' := [.code [(4, 0), (1, 0), (0, 0), (1, 0), (0, 0), (1, 0), (1, 0), (0, 0), (0, 0), (1, 1)] 0, .code [(4, 0), (1, 0), (0, 0), (1, 0), (0, 0), (1, 0), (1, 0), (0, 0)] 1]) (σ' := ⟨[(1, .ptr 1 0), (4, .sl 12 0), (5, .int .i64 a0), (6, .int .i64 v2), (7, .int .i64 v4)], [(1, .box [.int .i64 a0, .list (.ints a1)]), (12, .arr 29 0 0 (.rats v3))]⟩) rfl ⟨hd4, trivial⟩ rfl ?_
            have h := Option.some.inj h
            subst h
            exact Tri.out 2 rfl ⟨nofun, rfl, rfl⟩
        · intro e σ' hne hq
          obtain ⟨rfl, rfl⟩ := hq
          refine TriX.exit (K' := [.code [(4, 0), (1, 0), (0, 0), (1, 0), (0, 0)] 2, .blk 1, .code [(4, 0), (1, 0), (0, 0)] 2]) rfl ?_
          obtain ⟨v12, hk14, h⟩ := bind_some h
          obtain ⟨⟨v13, v14, v15⟩, hk15, h⟩ := bind_some h
          obtain ⟨hg16, h⟩ := grd_some h
          refine Tri.run 3 [.r ⟨[], .int .i64 v12, []⟩, .r ⟨[], .tuple [.agg [.int .i64 v13, .int .i64 v14], .bool v15], []⟩] [.rever 12, .keep [1, 4, 5, 6] [1, 12]] (K' := []) (σ' := ⟨[(1, .ptr 1 0), (4, .sl 12 0), (5, .int .i64 a0), (6, .int .i64 (IntKind.i64.wrap (v2 + (1 : Int))))], [(1, .box [.int .i64 a0, .list (.ints a1)]), (12, .arr 29 0 0 (.rats (v3 ++ [⟨v13, v14⟩])))]⟩) rfl ⟨hg16, (w_spec_RatOf v11 v12 (v13, v14, v15) hk15), (w_spec_l14Factorial a0 v12 hk14), trivial⟩ rfl ?_
          have h := Option.some.inj h
          subst h
          exact Tri.nil ⟨rfl, rfl⟩
      · refine Tri.run 1 [.g false] [.keep [4] [12]] (K' := [.code [(4, 0), (1, 0), (0, 0), (0, 0), (1, 1)] 0, .code [(4, 0), (1, 0), (0, 0)] 1]) (σ' := ⟨[(4, .sl 12 0)], [(12, .arr 29 0 0 (.rats v3))]⟩) rfl ⟨hd3, trivial⟩ rfl ?_
        have h := Option.some.inj h
        subst h
        exact Tri.out 0 rfl ⟨nofun, rfl, rfl⟩
    · intro e σ' hne hq
      obtain ⟨rfl, rfl⟩ := hq
      refine TriX.exit (K' := [.code [] 5]) rfl ?_
      refine Tri.run 1 [] [.swap 12 1000, .keep [2, 3] [1000]] (K' := [.code [] 6]) (σ' := ⟨[(2, .sl 1000 0), (3, .bool true)], [(1000, .arr 29 0 0 (.rats v16))]⟩) rfl trivial rfl ?_
      have h := Option.some.inj h
      subst h
      exact Tri.ret rfl ⟨.inl rfl, rfl, rfl⟩
/-! impl.within -/
noncomputable def E73_impl_within : Env := ⟨Try.prog, tys, (Try.f73.body).getD .skip, 15, tysOk, mixedOk⟩
abbrev q_impl_within (r : Bool) (σ' : ASt) : Prop := resAV E73_impl_within.T σ' Try.f73.results.toList = some (.bool r) ∧ keepO σ'.ob (namesO []) = []
noncomputable def m_impl_within (a0 : Int) (a1 : Int) (a2 : Int) : Option Bool :=
bif decide (a0 ≥ a1) then
(some (decide (a0 ≤ a2)))
else
(some false)
theorem w_impl_within (a0 : Int) (a1 : Int) (a2 : Int) (r : Bool) (h : m_impl_within a0 a1 a2 = some r) : AM.Spec Try.prog 73 [.int .i64 a0, .int .i64 a1, .int .i64 a2] [] (.bool r) [] := by
  refine spec_of (E := E73_impl_within) Try.func73 rfl rfl rfl rfl ?_
  refine Tri.run 1 [] [.keep [0, 1, 2] []] (K' := [.code [(1, 0)] 0, .code [] 2]) (σ' := ⟨[(0, .int .i64 a0), (1, .int .i64 a1), (2, .int .i64 a2)], []⟩) rfl trivial rfl ?_
  rcases bif_some h with ⟨hd1, h⟩ | ⟨hd1, h⟩
  · refine Tri.run 1 [.g true] [.keep [6] []] (K' := [.code [] 2]) (σ' := ⟨[(6, .bool (decide (a0 ≤ a2)))], []⟩) rfl ⟨hd1, trivial⟩ rfl ?_
    have h := Option.some.inj h
    subst h
    exact Tri.ret rfl ⟨.inl rfl, rfl, rfl⟩
  · refine Tri.run 1 [.g false] [.keep [6] []] (K' := [.code [] 2]) (σ' := ⟨[(6, .bool false)], []⟩) rfl ⟨hd1, trivial⟩ rfl ?_
    have h := Option.some.inj h
    subst h
    exact Tri.ret rfl ⟨.inl rfl, rfl, rfl⟩
/-! impl.IsValidGame$1 -/
noncomputable def E134_impl_IsValidGame_1 : Env := ⟨Try.prog, tys, (Try.f134.body).getD .skip, 6, tysOk, mixedOk⟩
abbrev q_impl_IsValidGame_1 (r : Bool) (σ' : ASt) : Prop := resAV E134_impl_IsValidGame_1.T σ' Try.f134.results.toList = some (.bool r) ∧ keepO σ'.ob (namesO []) = []
noncomputable def m_impl_IsValidGame_1 (a0 : Int) : Option Bool :=
(m_impl_within a0 (-500 : Int) (500 : Int)).bind fun v1 =>
some (!v1)
theorem w_impl_IsValidGame_1 (a0 : Int) (r : Bool) (h : m_impl_IsValidGame_1 a0 = some r) : AM.Spec Try.prog 134 [.int .i64 a0] [] (.bool r) [] := by
  refine spec_of (E := E134_impl_IsValidGame_1) Try.func134 rfl rfl rfl rfl ?_
  refine Tri.run 1 [] [.keep [0] []] (K' := [.code [(1, 0)] 0, .code [] 2]) (σ' := ⟨[(0, .int .i64 a0)], []⟩) rfl trivial rfl ?_
  obtain ⟨v1, hk1, h⟩ := bind_some h
  refine Tri.run 1 [.r ⟨[], .bool v1, []⟩] [.keep [2] []] (K' := [.code [] 2]) (σ' := ⟨[(2, .bool (!v1))], []⟩) rfl ⟨(w_impl_within a0 (-500 : Int) (500 : Int) v1 hk1), trivial⟩ rfl ?_
  have h := Option.some.inj h
  subst h
  exact Tri.ret rfl ⟨.inl rfl, rfl, rfl⟩
/-! slices.IndexFunc(()int,int) -/
noncomputable def E159_slices_IndexFunc_int_int : Env := ⟨Try.prog, tys, (Try.f159.body).getD .skip, 19, tysOk, mixedOk⟩
abbrev q_slices_IndexFunc_int_int_impl_IsValidGame_1 (r : Int) (σ' : ASt) : Prop := resAV E159_slices_IndexFunc_int_int.T σ' Try.f159.results.toList = some (.int .i64 r) ∧ keepO σ'.ob (namesO []) = []
noncomputable def l_slices_IndexFunc_int_int_impl_IsValidGame_1_0 (a0 : List Int) (v1 : Int) : Option (Int ⊕ (Unit ⊕ Int)) :=
bif decide (v1 < (a0.length : Int)) then
(grd ((0 : Int) ≤ v1 ∧ v1 < (a0.length : Int)) <|
(m_impl_IsValidGame_1 (a0.getD v1.toNat 0)).bind fun v2 =>
bif v2 then
(some (.inr (.inr v1)))
else
(some (.inl (IntKind.i64.wrap (v1 + (1 : Int))))))
else
(some (.inr (.inl ())))
noncomputable def m_slices_IndexFunc_int_int_impl_IsValidGame_1 (a0 : List Int) : Option Int :=
(iter (l_slices_IndexFunc_int_int_impl_IsValidGame_1_0 a0) (0 : Int)).bind fun
| (.inl _) => (
some (-1 : Int))
| (.inr r) => some r
theorem w_slices_IndexFunc_int_int_impl_IsValidGame_1 (a0 : List Int) (r : Int) (h : m_slices_IndexFunc_int_int_impl_IsValidGame_1 a0 = some r) : AM.Spec Try.prog 159 [.list (.ints a0), .func 134 [] []] [] (.int .i64 r) [] := by
  refine spec_of (E := E159_slices_IndexFunc_int_int) Try.func159 rfl rfl rfl rfl ?_
  refine Tri.run 2 [] [.keep [0, 1, 7, 8] []] (K' := [.code [(1, 0), (1, 0)] 0, .blk 0, .code [] 2]) (σ' := ⟨[(0, .list (.ints a0)), (1, .func 134 [] []), (7, .int .i64 (a0.length : Int)), (8, .int .i64 (0 : Int))], []⟩) rfl trivial rfl ?_
  obtain ⟨x1, hk5, h⟩ := bind_some h
  refine Tri.loop (K1 := [.code [(1, 0), (1, 0), (0, 0)] 0]) (K2 := [.blk 0, .code [] 2]) (fun v1 => ⟨[(0, .list (.ints a0)), (1, .func 134 [] []), (7, .int .i64 (a0.length : Int)), (8, .int .i64 v1)], []⟩) (fun x e σ' => match x with | (.inl _) => e = .exit 0 ∧ σ' = ⟨[], []⟩ | (.inr r) => e = .ret ∧ q_slices_IndexFunc_int_int_impl_IsValidGame_1 r σ') hk5 rfl rfl ?_ ?_
  · intro v1 x hs
    clear h
    have h := hs
    clear hs
    refine Tri.run 1 [] [.keep [0, 1, 7, 8, 9] []] (K' := [.code [(1, 0), (1, 0), (0, 0), (1, 0)] 0, .code [(1, 0), (1, 0), (0, 0)] 2]) (σ' := ⟨[(0, .list (.ints a0)), (1, .func 134 [] []), (7, .int .i64 (a0.length : Int)), (8, .int .i64 v1), (9, .bool (decide (v1 < (a0.length : Int))))], []⟩) rfl trivial rfl ?_
    rcases bif_some h with ⟨hd1, h⟩ | ⟨hd1, h⟩
    · refine Tri.run 2 [.g true] [.keep [0, 1, 5, 7, 8] []] (K' := [.code [(1, 0), (1, 0), (0, 0), (2, 0), (0, 0), (1, 0)] 0, .code [(1, 0), (1, 0), (0, 0), (2, 0), (0, 0)] 2, .blk 1, .code [(1, 0), (1, 0), (0, 0)] 3]) (σ' := ⟨[(0, .list (.ints a0)), (1, .func 134 [] []), (5, .int .i64 v1), (7, .int .i64 (a0.length : Int)), (8, .int .i64 v1)], []⟩) rfl ⟨hd1, trivial⟩ rfl ?_
      obtain ⟨hg2, h⟩ := grd_some h
      obtain ⟨v2, hk3, h⟩ := bind_some h
      refine Tri.run 1 [.r ⟨[], .bool v2, []⟩] [.keep [0, 1, 5, 7, 8, 16] []] (K' := [.code [(1, 0), (1, 0), (0, 0), (2, 0), (0, 0)] 2, .blk 1, .code [(1, 0), (1, 0), (0, 0)] 3]) (σ' := ⟨[(0, .list (.ints a0)), (1, .func 134 [] []), (5, .int .i64 v1), (7, .int .i64 (a0.length : Int)), (8, .int .i64 v1), (16, .bool v2)], []⟩) rfl ⟨(w_impl_IsValidGame_1 (a0.getD v1.toNat 0) v2 hk3), hg2, trivial⟩ rfl ?_
      rcases bif_some h with ⟨hd4, h⟩ | ⟨hd4, h⟩
      · refine Tri.run 2 [.g true] [.keep [4] []] (K' := [.code [(1, 0), (1, 0), (0, 0), (2, 0), (0, 0), (2, 0)] 1, .blk 1, .code [(1, 0), (1, 0), (0, 0)] 3]) (σ' := ⟨[(4, .int .i64 v1)], []⟩) rfl ⟨hd4, trivial⟩ rfl ?_
        have h := Option.some.inj h
        subst h
        exact Tri.ret rfl ⟨nofun, rfl, rfl, rfl⟩
      · refine Tri.run 2 [.g false] [.keep [0, 1, 7, 8] []] (K' := []) (σ' := ⟨[(0, .list (.ints a0)), (1, .func 134 [] []), (7, .int .i64 (a0.length : Int)), (8, .int .i64 (IntKind.i64.wrap (v1 + (1 : Int))))], []⟩) rfl ⟨hd4, trivial⟩ rfl ?_
        have h := Option.some.inj h
        subst h
        exact Tri.nil ⟨rfl, rfl⟩
    · refine Tri.run 1 [.g false] [.keep [] []] (K' := [.code [(1, 0), (1, 0), (0, 0), (1, 0), (0, 1)] 0, .code [(1, 0), (1, 0), (0, 0)] 2]) (σ' := ⟨[], []⟩) rfl ⟨hd1, trivial⟩ rfl ?_
      have h := Option.some.inj h
      subst h
      exact Tri.out 0 rfl ⟨nofun, rfl, rfl⟩
  · intro e σ' hne hq
    rcases x1 with _ | r
    · obtain ⟨rfl, rfl⟩ := hq
      refine TriX.exit (K' := [.code [] 2]) rfl ?_
      refine Tri.run 1 [] [.keep [4] []] (K' := [.code [] 3]) (σ' := ⟨[(4, .int .i64 (-1 : Int))], []⟩) rfl trivial rfl ?_
      have h := Option.some.inj h
      subst h
      exact Tri.ret rfl ⟨.inl rfl, rfl, rfl⟩
    · obtain ⟨rfl, hq⟩ := hq
      have h := Option.some.inj h
      subst h
      exact TriX.ret ⟨.inl rfl, hq⟩
/-! slices.ContainsFunc(()int,int) -/
noncomputable def E133_slices_ContainsFunc_int_int : Env := ⟨Try.prog, tys, (Try.f133.body).getD .skip, 9, tysOk, mixedOk⟩
abbrev q_slices_ContainsFunc_int_int_impl_IsValidGame_1 (r : Bool) (σ' : ASt) : Prop := resAV E133_slices_ContainsFunc_int_int.T σ' Try.f133.results.toList = some (.bool r) ∧ keepO σ'.ob (namesO []) = []
noncomputable def m_slices_ContainsFunc_int_int_impl_IsValidGame_1 (a0 : List Int) : Option Bool :=
(m_slices_IndexFunc_int_int_impl_IsValidGame_1 a0).bind fun v1 =>
some (decide (v1 ≥ (0 : Int)))
theorem w_slices_ContainsFunc_int_int_impl_IsValidGame_1 (a0 : List Int) (r : Bool) (h : m_slices_ContainsFunc_int_int_impl_IsValidGame_1 a0 = some r) : AM.Spec Try.prog 133 [.list (.ints a0), .func 134 [] []] [] (.bool r) [] := by
  refine spec_of (E := E133_slices_ContainsFunc_int_int) Try.func133 rfl rfl rfl rfl ?_
  refine Tri.run 1 [] [.keep [0, 1] []] (K' := [.code [(1, 0)] 0, .code [] 2]) (σ' := ⟨[(0, .list (.ints a0)), (1, .func 134 [] [])], []⟩) rfl trivial rfl ?_
  obtain ⟨v1, hk1, h⟩ := bind_some h
  refine Tri.run 1 [.r ⟨[], .int .i64 v1, []⟩] [.keep [4] []] (K' := [.code [] 2]) (σ' := ⟨[(4, .bool (decide (v1 ≥ (0 : Int))))], []⟩) rfl ⟨(w_slices_IndexFunc_int_int_impl_IsValidGame_1 a0 v1 hk1), trivial⟩ rfl ?_
  have h := Option.some.inj h
  subst h
  exact Tri.ret rfl ⟨.inl rfl, rfl, rfl⟩
/-! impl.IsValidGame -/
noncomputable def E72_impl_IsValidGame : Env := ⟨Try.prog, tys, (Try.f72.body).getD .skip, 27, tysOk, mixedOk⟩
abbrev q_impl_IsValidGame (r : Bool) (σ' : ASt) : Prop := resAV E72_impl_IsValidGame.T σ' Try.f72.results.toList = some (.bool r) ∧ keepO σ'.ob (namesO []) = []
noncomputable def m_impl_IsValidGame (a0 : Int) (a1 : List Int) : Option Bool :=
(m_impl_within a0 (1 : Int) (5 : Int)).bind fun v1 =>
bif !v1 then
(some false)
else
(grd ((0 : Int) ≤ a0) <|
bif (a1.length : Int) != (IntKind.i64.wrap ((1 : Int) * 2 ^ (min a0.toNat 64))) then
(some false)
else
(grd ((0 : Int) ≤ (0 : Int) ∧ (0 : Int) < (a1.length : Int)) <|
bif (a1.getD ((0 : Int).toNat) 0) != (0 : Int) then
(some false)
else
((m_slices_ContainsFunc_int_int_impl_IsValidGame_1 a1).bind fun v2 =>
some (!v2))))
theorem w_impl_IsValidGame (a0 : Int) (a1 : List Int) (r : Bool) (h : m_impl_IsValidGame a0 a1 = some r) : AM.Spec Try.prog 72 [.agg [.int .i64 a0, .list (.ints a1)]] [] (.bool r) [] := by
  refine spec_of (E := E72_impl_IsValidGame) Try.func72 rfl rfl rfl rfl ?_
  refine Tri.run 1 [] [.keep [1] [1]] (K' := [.code [(1, 0), (0, 0)] 0, .code [(1, 0)] 1, .code [] 2]) (σ' := ⟨[(1, .ptr 1 0)], [(1, .box [.int .i64 a0, .list (.ints a1)])]⟩) rfl trivial rfl ?_
  obtain ⟨v1, hk1, h⟩ := bind_some h
  rcases bif_some h with ⟨hd2, h⟩ | ⟨hd2, h⟩
  · refine Tri.run 1 [.r ⟨[], .bool v1, []⟩, .g true, .g true] [.keep [1, 22] [1]] (K' := [.code [(1, 0)] 1, .code [] 2]) (σ' := ⟨[(1, .ptr 1 0), (22, .bool true)], [(1, .box [.int .i64 a0, .list (.ints a1)])]⟩) rfl ⟨rfl, hd2, (w_impl_within a0 (1 : Int) (5 : Int) v1 hk1), trivial⟩ rfl ?_
    refine Tri.run 2 [.g true] [.keep [2] []] (K' := [.code [(1, 0), (1, 0)] 1, .code [] 2]) (σ' := ⟨[(2, .bool false)], []⟩) rfl ⟨rfl, trivial⟩ rfl ?_
    have h := Option.some.inj h
    subst h
    exact Tri.ret rfl ⟨.inl rfl, rfl, rfl⟩
  · obtain ⟨hg3, h⟩ := grd_some h
    rcases bif_some h with ⟨hd4, h⟩ | ⟨hd4, h⟩
    · refine Tri.run 1 [.r ⟨[], .bool v1, []⟩, .g false, .g true] [.keep [1, 22] [1]] (K' := [.code [(1, 0)] 1, .code [] 2]) (σ' := ⟨[(1, .ptr 1 0), (22, .bool true)], [(1, .box [.int .i64 a0, .list (.ints a1)])]⟩) rfl ⟨hd4, hg3, hd2, (w_impl_within a0 (1 : Int) (5 : Int) v1 hk1), trivial⟩ rfl ?_
      refine Tri.run 2 [.g true] [.keep [2] []] (K' := [.code [(1, 0), (1, 0)] 1, .code [] 2]) (σ' := ⟨[(2, .bool false)], []⟩) rfl ⟨rfl, trivial⟩ rfl ?_
      have h := Option.some.inj h
      subst h
      exact Tri.ret rfl ⟨.inl rfl, rfl, rfl⟩
    · obtain ⟨hg5, h⟩ := grd_some h
      refine Tri.run 1 [.r ⟨[], .bool v1, []⟩, .g false, .g false] [.keep [1, 22] [1]] (K' := [.code [(1, 0)] 1, .code [] 2]) (σ' := ⟨[(1, .ptr 1 0), (22, .bool ((a1.getD ((0 : Int).toNat) 0) != (0 : Int)))], [(1, .box [.int .i64 a0, .list (.ints a1)])]⟩) rfl ⟨hg5, hd4, hg3, hd2, (w_impl_within a0 (1 : Int) (5 : Int) v1 hk1), trivial⟩ rfl ?_
      rcases bif_some h with ⟨hd6, h⟩ | ⟨hd6, h⟩
      · refine Tri.run 2 [.g true] [.keep [2] []] (K' := [.code [(1, 0), (1, 0)] 1, .code [] 2]) (σ' := ⟨[(2, .bool false)], []⟩) rfl ⟨hd6, trivial⟩ rfl ?_
        have h := Option.some.inj h
        subst h
        exact Tri.ret rfl ⟨.inl rfl, rfl, rfl⟩
      · obtain ⟨v2, hk7, h⟩ := bind_some h
        refine Tri.run 2 [.g false, .r ⟨[], .bool v2, []⟩] [.keep [2] []] (K' := [.code [] 3]) (σ' := ⟨[(2, .bool (!v2))], []⟩) rfl ⟨(w_slices_ContainsFunc_int_int_impl_IsValidGame_1 a1 v2 hk7), hd6, trivial⟩ rfl ?_
        have h := Option.some.inj h
        subst h
        exact Tri.ret rfl ⟨.inl rfl, rfl, rfl⟩
/-! impl.factorial -/
noncomputable def E95_impl_factorial : Env := ⟨Try.prog, tys, (Try.f95.body).getD .skip, 14, tysOk, mixedOk⟩
abbrev q_impl_factorial (r : Int) (σ' : ASt) : Prop := resAV E95_impl_factorial.T σ' Try.f95.results.toList = some (.int .i64 r) ∧ keepO σ'.ob (namesO []) = []
noncomputable def l_impl_factorial_0 (a0 : Int) : (Int × Int) → Option ((Int × Int) ⊕ Int)
  | (v1, v2) => (
bif decide (v2 ≤ a0) then
(some (.inl (IntKind.i64.wrap (v1 * v2), IntKind.i64.wrap (v2 + (1 : Int)))))
else
(some (.inr v1)))
noncomputable def m_impl_factorial (a0 : Int) : Option Int :=
(iter (l_impl_factorial_0 a0) ((1 : Int), (2 : Int))).bind fun
| v3 => (
some v3)
theorem w_impl_factorial (a0 : Int) (r : Int) (h : m_impl_factorial a0 = some r) : AM.Spec Try.prog 95 [.int .i64 a0] [] (.int .i64 r) [] := by
  refine spec_of (E := E95_impl_factorial) Try.func95 rfl rfl rfl rfl ?_
  refine Tri.run 3 [] [.keep [0, 3, 4] []] (K' := [.code [(2, 0), (1, 0)] 0, .blk 0, .code [] 3]) (σ' := ⟨[(0, .int .i64 a0), (3, .int .i64 (1 : Int)), (4, .int .i64 (2 : Int))], []⟩) rfl trivial rfl ?_
  obtain ⟨v3, hk2, h⟩ := bind_some h
  refine Tri.loop (K1 := [.code [(2, 0), (1, 0), (0, 0)] 0]) (K2 := [.blk 0, .code [] 3]) (fun (v1, v2) => ⟨[(0, .int .i64 a0), (3, .int .i64 v1), (4, .int .i64 v2)], []⟩) (fun x e σ' => match x with | v3 => e = .exit 0 ∧ σ' = ⟨[(3, .int .i64 v3)], []⟩) hk2 rfl rfl ?_ ?_
  · intro s x hs
    clear h
    have h := hs
    clear hs
    obtain ⟨v1, v2⟩ := s
    refine Tri.run 1 [] [.keep [0, 3, 4, 7] []] (K' := [.code [(2, 0), (1, 0), (0, 0), (0, 0)] 1, .code [(2, 0), (1, 0), (0, 0)] 1]) (σ' := ⟨[(0, .int .i64 a0), (3, .int .i64 v1), (4, .int .i64 v2), (7, .bool (decide (v2 ≤ a0)))], []⟩) rfl trivial rfl ?_
    rcases bif_some h with ⟨hd1, h⟩ | ⟨hd1, h⟩
    · refine Tri.run 3 [.g true] [.keep [0, 3, 4] []] (K' := []) (σ' := ⟨[(0, .int .i64 a0), (3, .int .i64 (IntKind.i64.wrap (v1 * v2))), (4, .int .i64 (IntKind.i64.wrap (v2 + (1 : Int))))], []⟩) rfl ⟨hd1, trivial⟩ rfl ?_
      have h := Option.some.inj h
      subst h
      exact Tri.nil ⟨rfl, rfl⟩
    · refine Tri.run 1 [.g false] [.keep [3] []] (K' := [.code [(2, 0), (1, 0), (0, 0), (0, 0), (1, 1)] 0, .code [(2, 0), (1, 0), (0, 0)] 1]) (σ' := ⟨[(3, .int .i64 v1)], []⟩) rfl ⟨hd1, trivial⟩ rfl ?_
      have h := Option.some.inj h
      subst h
      exact Tri.out 0 rfl ⟨nofun, rfl, rfl⟩
  · intro e σ' hne hq
    obtain ⟨rfl, rfl⟩ := hq
    refine TriX.exit (K' := [.code [] 3]) rfl ?_
    refine Tri.run 1 [] [.keep [2] []] (K' := [.code [] 4]) (σ' := ⟨[(2, .int .i64 v3)], []⟩) rfl trivial rfl ?_
    have h := Option.some.inj h
    subst h
    exact Tri.ret rfl ⟨.inl rfl, rfl, rfl⟩
/-! bits.OnesCount64 -/
noncomputable def E162_bits_OnesCount64 : Env := ⟨Try.prog, tys, (Try.f162.body).getD .skip, 35, tysOk, mixedOk⟩
abbrev q_bits_OnesCount64 (r : Int) (σ' : ASt) : Prop := resAV E162_bits_OnesCount64.T σ' Try.f162.results.toList = some (.int .i64 r) ∧ keepO σ'.ob (namesO []) = []
noncomputable def m_bits_OnesCount64 (a0 : Int) : Option Int :=
grd ((0 : Int) ≤ (1 : Int)) <|
grd ((0 : Int) ≤ (2 : Int)) <|
((some (IntKind.u64.wrap ((bitsOf .and .u64 ((IntKind.u64.wrap ((bitsOf .and .u64 (a0.fdiv (2 ^ (min (1 : Int).toNat 64))) (6148914691236517205 : Int)) + (bitsOf .and .u64 a0 (6148914691236517205 : Int)))).fdiv (2 ^ (min (2 : Int).toNat 64))) (3689348814741910323 : Int)) + (bitsOf .and .u64 (IntKind.u64.wrap ((bitsOf .and .u64 (a0.fdiv (2 ^ (min (1 : Int).toNat 64))) (6148914691236517205 : Int)) + (bitsOf .and .u64 a0 (6148914691236517205 : Int)))) (3689348814741910323 : Int))) : Int)).bind fun v1 =>
grd ((0 : Int) ≤ (4 : Int)) <|
grd ((0 : Int) ≤ (8 : Int)) <|
((some (IntKind.u64.wrap ((bitsOf .and .u64 (IntKind.u64.wrap ((v1.fdiv (2 ^ (min (4 : Int).toNat 64))) + v1)) (1085102592571150095 : Int)) + ((bitsOf .and .u64 (IntKind.u64.wrap ((v1.fdiv (2 ^ (min (4 : Int).toNat 64))) + v1)) (1085102592571150095 : Int)).fdiv (2 ^ (min (8 : Int).toNat 64)))) : Int)).bind fun v2 =>
grd ((0 : Int) ≤ (16 : Int)) <|
grd ((0 : Int) ≤ (32 : Int)) <|
some (bitsOf .and .i64 (IntKind.i64.wrap (IntKind.u64.wrap ((IntKind.u64.wrap (v2 + (v2.fdiv (2 ^ (min (16 : Int).toNat 64))))) + ((IntKind.u64.wrap (v2 + (v2.fdiv (2 ^ (min (16 : Int).toNat 64))))).fdiv (2 ^ (min (32 : Int).toNat 64)))))) (127 : Int))))
theorem w_bits_OnesCount64 (a0 : Int) (r : Int) (h : m_bits_OnesCount64 a0 = some r) : AM.Spec Try.prog 162 [.int .u64 a0] [] (.int .i64 r) [] := by
  refine spec_of (E := E162_bits_OnesCount64) Try.func162 rfl rfl rfl rfl ?_
  obtain ⟨hg1, h⟩ := grd_some h
  obtain ⟨hg2, h⟩ := grd_some h
  refine Tri.run 3 [] [.keep [0] []] (K' := [.code [(3, 0)] 0, .code [] 4]) (σ' := ⟨[(0, .int .u64 (IntKind.u64.wrap ((bitsOf .and .u64 ((IntKind.u64.wrap ((bitsOf .and .u64 (a0.fdiv (2 ^ (min (1 : Int).toNat 64))) (6148914691236517205 : Int)) + (bitsOf .and .u64 a0 (6148914691236517205 : Int)))).fdiv (2 ^ (min (2 : Int).toNat 64))) (3689348814741910323 : Int)) + (bitsOf .and .u64 (IntKind.u64.wrap ((bitsOf .and .u64 (a0.fdiv (2 ^ (min (1 : Int).toNat 64))) (6148914691236517205 : Int)) + (bitsOf .and .u64 a0 (6148914691236517205 : Int)))) (3689348814741910323 : Int)))))], []⟩) rfl ⟨hg2, hg1, trivial⟩ rfl ?_
  obtain ⟨v1, hk3, h⟩ := bind_some h
  have hk3 := Option.some.inj hk3
  rw [hk3]
  obtain ⟨hg4, h⟩ := grd_some h
  obtain ⟨hg5, h⟩ := grd_some h
  refine Tri.run 2 [] [.keep [0] []] (K' := [.code [(5, 0)] 0, .code [] 6]) (σ' := ⟨[(0, .int .u64 (IntKind.u64.wrap ((bitsOf .and .u64 (IntKind.u64.wrap ((v1.fdiv (2 ^ (min (4 : Int).toNat 64))) + v1)) (1085102592571150095 : Int)) + ((bitsOf .and .u64 (IntKind.u64.wrap ((v1.fdiv (2 ^ (min (4 : Int).toNat 64))) + v1)) (1085102592571150095 : Int)).fdiv (2 ^ (min (8 : Int).toNat 64))))))], []⟩) rfl ⟨hg5, hg4, trivial⟩ rfl ?_
  obtain ⟨v2, hk6, h⟩ := bind_some h
  have hk6 := Option.some.inj hk6
  rw [hk6]
  obtain ⟨hg7, h⟩ := grd_some h
  obtain ⟨hg8, h⟩ := grd_some h
  refine Tri.run 3 [] [.keep [2] []] (K' := [.code [] 8]) (σ' := ⟨[(2, .int .i64 (bitsOf .and .i64 (IntKind.i64.wrap (IntKind.u64.wrap ((IntKind.u64.wrap (v2 + (v2.fdiv (2 ^ (min (16 : Int).toNat 64))))) + ((IntKind.u64.wrap (v2 + (v2.fdiv (2 ^ (min (16 : Int).toNat 64))))).fdiv (2 ^ (min (32 : Int).toNat 64)))))) (127 : Int)))], []⟩) rfl ⟨hg8, hg7, trivial⟩ rfl ?_
  have h := Option.some.inj h
  subst h
  exact Tri.ret rfl ⟨.inl rfl, rfl, rfl⟩
/-! bits.OnesCount -/
noncomputable def E141_bits_OnesCount : Env := ⟨Try.prog, tys, (Try.f141.body).getD .skip, 8, tysOk, mixedOk⟩
abbrev q_bits_OnesCount (r : Int) (σ' : ASt) : Prop := resAV E141_bits_OnesCount.T σ' Try.f141.results.toList = some (.int .i64 r) ∧ keepO σ'.ob (namesO []) = []
noncomputable def m_bits_OnesCount (a0 : Int) : Option Int :=
(m_bits_OnesCount64 a0).bind fun v1 =>
some v1
theorem w_bits_OnesCount (a0 : Int) (r : Int) (h : m_bits_OnesCount a0 = some r) : AM.Spec Try.prog 141 [.int .u64 a0] [] (.int .i64 r) [] := by
  refine spec_of (E := E141_bits_OnesCount) Try.func141 rfl rfl rfl rfl ?_
  refine Tri.run 1 [] [.keep [0] []] (K' := [.code [(1, 0)] 0, .code [] 2]) (σ' := ⟨[(0, .int .u64 a0)], []⟩) rfl trivial rfl ?_
  obtain ⟨v1, hk1, h⟩ := bind_some h
  refine Tri.run 2 [.g false, .r ⟨[], .int .i64 v1, []⟩] [.keep [2] []] (K' := [.code [] 3]) (σ' := ⟨[(2, .int .i64 v1)], []⟩) rfl ⟨(w_bits_OnesCount64 a0 v1 hk1), rfl, trivial⟩ rfl ?_
  have h := Option.some.inj h
  subst h
  exact Tri.ret rfl ⟨.inl rfl, rfl, rfl⟩
/-! impl.ShapleyValue$1 -/
noncomputable def E94_impl_ShapleyValue_1 : Env := ⟨Try.prog, tys, (Try.f94.body).getD .skip, 12, tysOk, mixedOk⟩
abbrev q_impl_ShapleyValue_1 (r : Int) (σ' : ASt) : Prop := resAV E94_impl_ShapleyValue_1.T σ' Try.f94.results.toList = some (.int .i64 r) ∧ keepO σ'.ob (namesO []) = []
noncomputable def m_impl_ShapleyValue_1 (a0 : Int) (a1 : Int) : Option Int :=
(m_impl_factorial a0).bind fun v1 =>
(m_impl_factorial (IntKind.i64.wrap ((IntKind.i64.wrap (a1 - (1 : Int))) - a0))).bind fun v2 =>
some (IntKind.i64.wrap (v1 * v2))
theorem w_impl_ShapleyValue_1 (a0 : Int) (a1 : Int) (r : Int) (h : m_impl_ShapleyValue_1 a0 a1 = some r) : AM.Spec Try.prog 94 [.int .i64 a0, .pbox [.int .i64 a1] 0] [] (.int .i64 r) [] := by
  refine spec_of (E := E94_impl_ShapleyValue_1) Try.func94 rfl rfl rfl rfl ?_
  refine Tri.run 1 [] [.keep [0, 1] []] (K' := [.code [(1, 0)] 0, .code [] 2]) (σ' := ⟨[(0, .int .i64 a0), (1, .pbox [.int .i64 a1] 0)], []⟩) rfl trivial rfl ?_
  obtain ⟨v1, hk1, h⟩ := bind_some h
  obtain ⟨v2, hk2, h⟩ := bind_some h
  refine Tri.run 1 [.r ⟨[], .int .i64 v1, []⟩, .r ⟨[], .int .i64 v2, []⟩] [.keep [3] []] (K' := [.code [] 2]) (σ' := ⟨[(3, .int .i64 (IntKind.i64.wrap (v1 * v2)))], []⟩) rfl ⟨(w_impl_factorial (IntKind.i64.wrap ((IntKind.i64.wrap (a1 - (1 : Int))) - a0)) v2 hk2), (w_impl_factorial a0 v1 hk1), trivial⟩ rfl ?_
  have h := Option.some.inj h
  subst h
  exact Tri.ret rfl ⟨.inl rfl, rfl, rfl⟩
/-! impl.common -/
noncomputable def E160_impl_common : Env := ⟨Try.prog, tys, (Try.f160.body).getD .skip, 15, tysOk, mixedOk⟩
abbrev q_impl_common (r : Int) (σ' : ASt) : Prop := resAV E160_impl_common.T σ' Try.f160.results.toList = some (.int .i64 r) ∧ keepO σ'.ob (namesO []) = []
noncomputable def l_impl_common_0 : (Int × Int) → Option ((Int × Int) ⊕ Int)
  | (v1, v2) => (
bif v2 != (0 : Int) then
(grd (v2 ≠ 0) <|
some (.inl (v2, v1.tmod v2)))
else
(some (.inr v1)))
noncomputable def m_impl_common (a0 : Int) (a1 : Int) : Option Int :=
(iter (l_impl_common_0) (a0, a1)).bind fun
| v3 => (
some (if IntKind.i64.wrap (0 - v3) > v3 then IntKind.i64.wrap (0 - v3) else v3))
theorem w_impl_common (a0 : Int) (a1 : Int) (r : Int) (h : m_impl_common a0 a1 = some r) : AM.Spec Try.prog 160 [.int .i64 a0, .int .i64 a1] [] (.int .i64 r) [] := by
  refine spec_of (E := E160_impl_common) Try.func160 rfl rfl rfl rfl ?_
  refine Tri.run 1 [] [.keep [0, 1] []] (K' := [.code [(1, 0), (0, 0)] 0, .blk 0, .code [] 2]) (σ' := ⟨[(0, .int .i64 a0), (1, .int .i64 a1)], []⟩) rfl trivial rfl ?_
  obtain ⟨v3, hk3, h⟩ := bind_some h
  refine Tri.loop (K1 := [.code [(1, 0), (0, 0), (0, 0)] 0]) (K2 := [.blk 0, .code [] 2]) (fun (v1, v2) => ⟨[(0, .int .i64 v1), (1, .int .i64 v2)], []⟩) (fun x e σ' => match x with | v3 => e = .exit 0 ∧ σ' = ⟨[(0, .int .i64 v3)], []⟩) hk3 rfl rfl ?_ ?_
  · intro s x hs
    clear h
    have h := hs
    clear hs
    obtain ⟨v1, v2⟩ := s
    refine Tri.run 1 [] [.keep [0, 1, 6] []] (K' := [.code [(1, 0), (0, 0), (0, 0), (0, 0)] 1, .code [(1, 0), (0, 0), (0, 0)] 1]) (σ' := ⟨[(0, .int .i64 v1), (1, .int .i64 v2), (6, .bool (v2 != (0 : Int)))], []⟩) rfl trivial rfl ?_
    rcases bif_some h with ⟨hd1, h⟩ | ⟨hd1, h⟩
    · obtain ⟨hg2, h⟩ := grd_some h
      refine Tri.run 2 [.g true] [.keep [0, 1] []] (K' := []) (σ' := ⟨[(0, .int .i64 v2), (1, .int .i64 (v1.tmod v2))], []⟩) rfl ⟨hg2, hd1, trivial⟩ rfl ?_
      have h := Option.some.inj h
      subst h
      exact Tri.nil ⟨rfl, rfl⟩
    · refine Tri.run 1 [.g false] [.keep [0] []] (K' := [.code [(1, 0), (0, 0), (0, 0), (0, 0), (1, 1)] 0, .code [(1, 0), (0, 0), (0, 0)] 1]) (σ' := ⟨[(0, .int .i64 v1)], []⟩) rfl ⟨hd1, trivial⟩ rfl ?_
      have h := Option.some.inj h
      subst h
      exact Tri.out 0 rfl ⟨nofun, rfl, rfl⟩
  · intro e σ' hne hq
    obtain ⟨rfl, rfl⟩ := hq
    refine TriX.exit (K' := [.code [] 2]) rfl ?_
    refine Tri.run 1 [] [.keep [4] []] (K' := [.code [] 3]) (σ' := ⟨[(4, .int .i64 (if IntKind.i64.wrap (0 - v3) > v3 then IntKind.i64.wrap (0 - v3) else v3))], []⟩) rfl trivial rfl ?_
    have h := Option.some.inj h
    subst h
    exact Tri.ret rfl ⟨.inl rfl, rfl, rfl⟩
/-! impl.IsValidRat -/
noncomputable def E135_impl_IsValidRat : Env := ⟨Try.prog, tys, (Try.f135.body).getD .skip, 19, tysOk, mixedOk⟩
abbrev q_impl_IsValidRat (r : Bool) (σ' : ASt) : Prop := resAV E135_impl_IsValidRat.T σ' Try.f135.results.toList = some (.bool r) ∧ keepO σ'.ob (namesO []) = []
noncomputable def m_impl_IsValidRat (a0 : Int) (a1 : Int) : Option Bool :=
(m_impl_within a1 (1 : Int) (1000000000 : Int)).bind fun v1 =>
bif v1 then
((m_impl_within a0 (-1000000000 : Int) (1000000000 : Int)).bind fun v2 =>
bif v2 then
((m_impl_common a0 a1).bind fun v3 =>
some (v3 == (1 : Int)))
else
(some false))
else
(some false)
theorem w_impl_IsValidRat (a0 : Int) (a1 : Int) (r : Bool) (h : m_impl_IsValidRat a0 a1 = some r) : AM.Spec Try.prog 135 [.agg [.int .i64 a0, .int .i64 a1]] [] (.bool r) [] := by
  refine spec_of (E := E135_impl_IsValidRat) Try.func135 rfl rfl rfl rfl ?_
  refine Tri.run 1 [] [.keep [1] [1]] (K' := [.code [(1, 0)] 0, .code [] 2]) (σ' := ⟨[(1, .ptr 1 0)], [(1, .box [.int .i64 a0, .int .i64 a1])]⟩) rfl trivial rfl ?_
  obtain ⟨v1, hk1, h⟩ := bind_some h
  rcases bif_some h with ⟨hd2, h⟩ | ⟨hd2, h⟩
  · obtain ⟨v2, hk3, h⟩ := bind_some h
    rcases bif_some h with ⟨hd4, h⟩ | ⟨hd4, h⟩
    · obtain ⟨v3, hk5, h⟩ := bind_some h
      refine Tri.run 1 [.r ⟨[], .bool v1, []⟩, .g true, .r ⟨[], .bool v2, []⟩, .g true, .r ⟨[], .int .i64 v3, []⟩] [.keep [2] []] (K' := [.code [] 2]) (σ' := ⟨[(2, .bool (v3 == (1 : Int)))], []⟩) rfl ⟨(w_impl_common a0 a1 v3 hk5), hd4, (w_impl_within a0 (-1000000000 : Int) (1000000000 : Int) v2 hk3), hd2, (w_impl_within a1 (1 : Int) (1000000000 : Int) v1 hk1), trivial⟩ rfl ?_
      have h := Option.some.inj h
      subst h
      exact Tri.ret rfl ⟨.inl rfl, rfl, rfl⟩
    · refine Tri.run 1 [.r ⟨[], .bool v1, []⟩, .g true, .r ⟨[], .bool v2, []⟩, .g false] [.keep [2] []] (K' := [.code [] 2]) (σ' := ⟨[(2, .bool false)], []⟩) rfl ⟨hd4, (w_impl_within a0 (-1000000000 : Int) (1000000000 : Int) v2 hk3), hd2, (w_impl_within a1 (1 : Int) (1000000000 : Int) v1 hk1), trivial⟩ rfl ?_
      have h := Option.some.inj h
      subst h
      exact Tri.ret rfl ⟨.inl rfl, rfl, rfl⟩
  · refine Tri.run 1 [.r ⟨[], .bool v1, []⟩, .g false, .g false] [.keep [2] []] (K' := [.code [] 2]) (σ' := ⟨[(2, .bool false)], []⟩) rfl ⟨rfl, hd2, (w_impl_within a1 (1 : Int) (1000000000 : Int) v1 hk1), trivial⟩ rfl ?_
    have h := Option.some.inj h
    subst h
    exact Tri.ret rfl ⟨.inl rfl, rfl, rfl⟩
/-! impl.RatOf -/
noncomputable def E136_impl_RatOf : Env := ⟨Try.prog, tys, (Try.f136.body).getD .skip, 40, tysOk, mixedOk⟩
abbrev q_impl_RatOf (r : Int × Int × Bool) (σ' : ASt) : Prop := resAV E136_impl_RatOf.T σ' Try.f136.results.toList = some (.tuple [.agg [.int .i64 r.1, .int .i64 r.2.1], .bool r.2.2]) ∧ keepO σ'.ob (namesO []) = []
noncomputable def m_impl_RatOf (a0 : Int) (a1 : Int) : Option (Int × Int × Bool) :=
bif a1 == (0 : Int) then
(some (0, 0, false))
else
((m_impl_within a0 (-1000000000000000000 : Int) (1000000000000000000 : Int)).bind fun v1 =>
bif !v1 then
(some (0, 0, false))
else
((m_impl_within a1 (-1000000000000000000 : Int) (1000000000000000000 : Int)).bind fun v2 =>
bif !v2 then
(some (0, 0, false))
else
((m_impl_common a0 a1).bind fun v3 =>
bif decide (a1 < (0 : Int)) then
(grd ((IntKind.i64.wrap (0 - v3)) ≠ 0) <|
grd ((IntKind.i64.wrap (0 - v3)) ≠ 0) <|
(m_impl_IsValidRat (IntKind.i64.wrap (a0.tdiv (IntKind.i64.wrap (0 - v3)))) (IntKind.i64.wrap (a1.tdiv (IntKind.i64.wrap (0 - v3))))).bind fun v4 =>
bif !v4 then
(some (0, 0, false))
else
(some (IntKind.i64.wrap (a0.tdiv (IntKind.i64.wrap (0 - v3))), IntKind.i64.wrap (a1.tdiv (IntKind.i64.wrap (0 - v3))), true)))
else
(grd (v3 ≠ 0) <|
grd (v3 ≠ 0) <|
(m_impl_IsValidRat (IntKind.i64.wrap (a0.tdiv v3)) (IntKind.i64.wrap (a1.tdiv v3))).bind fun v5 =>
bif !v5 then
(some (0, 0, false))
else
(some (IntKind.i64.wrap (a0.tdiv v3), IntKind.i64.wrap (a1.tdiv v3), true))))))
theorem w_impl_RatOf (a0 : Int) (a1 : Int) (r : Int × Int × Bool) (h : m_impl_RatOf a0 a1 = some r) : AM.Spec Try.prog 136 [.int .i64 a0, .int .i64 a1] [] (.tuple [.agg [.int .i64 r.1, .int .i64 r.2.1], .bool r.2.2]) [] := by
  refine spec_of (E := E136_impl_RatOf) Try.func136 rfl rfl rfl rfl ?_
  refine Tri.run 1 [] [.keep [0, 1, 4] [4]] (K' := [.code [(1, 0), (0, 0)] 0, .code [(1, 0)] 1, .code [] 2]) (σ' := ⟨[(0, .int .i64 a0), (1, .int .i64 a1), (4, .ptr 4 0)], [(4, .box [.int .i64 0, .int .i64 0])]⟩) rfl trivial rfl ?_
  rcases bif_some h with ⟨hd1, h⟩ | ⟨hd1, h⟩
  · refine Tri.run 1 [.g true, .g true] [.keep [0, 1, 4, 19] [4]] (K' := [.code [(1, 0)] 1, .code [] 2]) (σ' := ⟨[(0, .int .i64 a0), (1, .int .i64 a1), (4, .ptr 4 0), (19, .bool true)], [(4, .box [.int .i64 0, .int .i64 0])]⟩) rfl ⟨rfl, hd1, trivial⟩ rfl ?_
    refine Tri.run 2 [.g true] [.keep [4, 5] [4]] (K' := [.code [(1, 0), (1, 0)] 1, .code [] 2]) (σ' := ⟨[(4, .ptr 4 0), (5, .bool false)], [(4, .box [.int .i64 0, .int .i64 0])]⟩) rfl ⟨rfl, trivial⟩ rfl ?_
    have h := Option.some.inj h
    subst h
    exact Tri.ret rfl ⟨.inl rfl, rfl, rfl⟩
  · obtain ⟨v1, hk2, h⟩ := bind_some h
    rcases bif_some h with ⟨hd3, h⟩ | ⟨hd3, h⟩
    · refine Tri.run 1 [.g false, .r ⟨[], .bool v1, []⟩, .g true] [.keep [0, 1, 4, 19] [4]] (K' := [.code [(1, 0)] 1, .code [] 2]) (σ' := ⟨[(0, .int .i64 a0), (1, .int .i64 a1), (4, .ptr 4 0), (19, .bool true)], [(4, .box [.int .i64 0, .int .i64 0])]⟩) rfl ⟨hd3, (w_impl_within a0 (-1000000000000000000 : Int) (1000000000000000000 : Int) v1 hk2), hd1, trivial⟩ rfl ?_
      refine Tri.run 2 [.g true] [.keep [4, 5] [4]] (K' := [.code [(1, 0), (1, 0)] 1, .code [] 2]) (σ' := ⟨[(4, .ptr 4 0), (5, .bool false)], [(4, .box [.int .i64 0, .int .i64 0])]⟩) rfl ⟨rfl, trivial⟩ rfl ?_
      have h := Option.some.inj h
      subst h
      exact Tri.ret rfl ⟨.inl rfl, rfl, rfl⟩
    · obtain ⟨v2, hk4, h⟩ := bind_some h
      refine Tri.run 1 [.g false, .r ⟨[], .bool v1, []⟩, .g false, .r ⟨[], .bool v2, []⟩] [.keep [0, 1, 4, 19] [4]] (K' := [.code [(1, 0)] 1, .code [] 2]) (σ' := ⟨[(0, .int .i64 a0), (1, .int .i64 a1), (4, .ptr 4 0), (19, .bool (!v2))], [(4, .box [.int .i64 0, .int .i64 0])]⟩) rfl ⟨(w_impl_within a1 (-1000000000000000000 : Int) (1000000000000000000 : Int) v2 hk4), hd3, (w_impl_within a0 (-1000000000000000000 : Int) (1000000000000000000 : Int) v1 hk2), hd1, trivial⟩ rfl ?_
      rcases bif_some h with ⟨hd5, h⟩ | ⟨hd5, h⟩
      · refine Tri.run 2 [.g true] [.keep [4, 5] [4]] (K' := [.code [(1, 0), (1, 0)] 1, .code [] 2]) (σ' := ⟨[(4, .ptr 4 0), (5, .bool false)], [(4, .box [.int .i64 0, .int .i64 0])]⟩) rfl ⟨hd5, trivial⟩ rfl ?_
        have h := Option.some.inj h
        subst h
        exact Tri.ret rfl ⟨.inl rfl, rfl, rfl⟩
      · obtain ⟨v3, hk6, h⟩ := bind_some h
        refine Tri.run 3 [.g false, .r ⟨[], .int .i64 v3, []⟩] [.keep [0, 1, 4, 6, 25] [4]] (K' := [.code [(3, 0)] 1, .code [] 4]) (σ' := ⟨[(0, .int .i64 a0), (1, .int .i64 a1), (4, .ptr 4 0), (6, .int .i64 v3), (25, .bool (decide (a1 < (0 : Int))))], [(4, .box [.int .i64 0, .int .i64 0])]⟩) rfl ⟨(w_impl_common a0 a1 v3 hk6), hd5, trivial⟩ rfl ?_
        rcases bif_some h with ⟨hd7, h⟩ | ⟨hd7, h⟩
        · obtain ⟨hg8, h⟩ := grd_some h
          obtain ⟨hg9, h⟩ := grd_some h
          refine Tri.run 3 [.g true] [.keep [4, 7] [4, 7]] (K' := [.code [(5, 0), (0, 0)] 0, .code [(5, 0)] 1, .code [] 6]) (σ' := ⟨[(4, .ptr 4 0), (7, .ptr 7 0)], [(4, .box [.int .i64 0, .int .i64 0]), (7, .box [.int .i64 (IntKind.i64.wrap (a0.tdiv (IntKind.i64.wrap (0 - v3)))), .int .i64 (IntKind.i64.wrap (a1.tdiv (IntKind.i64.wrap (0 - v3))))])]⟩) rfl ⟨hg9, hg8, hd7, trivial⟩ rfl ?_
          obtain ⟨v4, hk10, h⟩ := bind_some h
          refine Tri.run 1 [.r ⟨[], .bool v4, []⟩] [.keep [4, 7, 37] [4, 7]] (K' := [.code [(5, 0)] 1, .code [] 6]) (σ' := ⟨[(4, .ptr 4 0), (7, .ptr 7 0), (37, .bool (!v4))], [(4, .box [.int .i64 0, .int .i64 0]), (7, .box [.int .i64 (IntKind.i64.wrap (a0.tdiv (IntKind.i64.wrap (0 - v3)))), .int .i64 (IntKind.i64.wrap (a1.tdiv (IntKind.i64.wrap (0 - v3))))])]⟩) rfl ⟨(w_impl_IsValidRat (IntKind.i64.wrap (a0.tdiv (IntKind.i64.wrap (0 - v3)))) (IntKind.i64.wrap (a1.tdiv (IntKind.i64.wrap (0 - v3)))) v4 hk10), trivial⟩ rfl ?_
          rcases bif_some h with ⟨hd11, h⟩ | ⟨hd11, h⟩
          · refine Tri.run 2 [.g true] [.keep [4, 5] [4]] (K' := [.code [(5, 0), (1, 0)] 1, .code [] 6]) (σ' := ⟨[(4, .ptr 4 0), (5, .bool false)], [(4, .box [.int .i64 0, .int .i64 0])]⟩) rfl ⟨hd11, trivial⟩ rfl ?_
            have h := Option.some.inj h
            subst h
            exact Tri.ret rfl ⟨.inl rfl, rfl, rfl⟩
          · refine Tri.run 2 [.g false] [.keep [4, 5] [4]] (K' := [.code [] 7]) (σ' := ⟨[(4, .ptr 4 0), (5, .bool true)], [(4, .box [.int .i64 (IntKind.i64.wrap (a0.tdiv (IntKind.i64.wrap (0 - v3)))), .int .i64 (IntKind.i64.wrap (a1.tdiv (IntKind.i64.wrap (0 - v3))))])]⟩) rfl ⟨hd11, trivial⟩ rfl ?_
            have h := Option.some.inj h
            subst h
            exact Tri.ret rfl ⟨.inl rfl, rfl, rfl⟩
        · obtain ⟨hg12, h⟩ := grd_some h
          obtain ⟨hg13, h⟩ := grd_some h
          refine Tri.run 2 [.g false] [.keep [4, 7] [4, 7]] (K' := [.code [(5, 0), (0, 0)] 0, .code [(5, 0)] 1, .code [] 6]) (σ' := ⟨[(4, .ptr 4 0), (7, .ptr 7 0)], [(4, .box [.int .i64 0, .int .i64 0]), (7, .box [.int .i64 (IntKind.i64.wrap (a0.tdiv v3)), .int .i64 (IntKind.i64.wrap (a1.tdiv v3))])]⟩) rfl ⟨hg13, hg12, hd7, trivial⟩ rfl ?_
          obtain ⟨v5, hk14, h⟩ := bind_some h
          refine Tri.run 1 [.r ⟨[], .bool v5, []⟩] [.keep [4, 7, 37] [4, 7]] (K' := [.code [(5, 0)] 1, .code [] 6]) (σ' := ⟨[(4, .ptr 4 0), (7, .ptr 7 0), (37, .bool (!v5))], [(4, .box [.int .i64 0, .int .i64 0]), (7, .box [.int .i64 (IntKind.i64.wrap (a0.tdiv v3)), .int .i64 (IntKind.i64.wrap (a1.tdiv v3))])]⟩) rfl ⟨(w_impl_IsValidRat (IntKind.i64.wrap (a0.tdiv v3)) (IntKind.i64.wrap (a1.tdiv v3)) v5 hk14), trivial⟩ rfl ?_
          rcases bif_some h with ⟨hd15, h⟩ | ⟨hd15, h⟩
          · refine Tri.run 2 [.g true] [.keep [4, 5] [4]] (K' := [.code [(5, 0), (1, 0)] 1, .code [] 6]) (σ' := ⟨[(4, .ptr 4 0), (5, .bool false)], [(4, .box [.int .i64 0, .int .i64 0])]⟩) rfl ⟨hd15, trivial⟩ rfl ?_
            have h := Option.some.inj h
            subst h
            exact Tri.ret rfl ⟨.inl rfl, rfl, rfl⟩
          · refine Tri.run 2 [.g false] [.keep [4, 5] [4]] (K' := [.code [] 7]) (σ' := ⟨[(4, .ptr 4 0), (5, .bool true)], [(4, .box [.int .i64 (IntKind.i64.wrap (a0.tdiv v3)), .int .i64 (IntKind.i64.wrap (a1.tdiv v3))])]⟩) rfl ⟨hd15, trivial⟩ rfl ?_
            have h := Option.some.inj h
            subst h
            exact Tri.ret rfl ⟨.inl rfl, rfl, rfl⟩
/-! impl.averages -/
noncomputable def E93_impl_averages : Env := ⟨Try.prog, tys, (Try.f93.body).getD .skip, 64, tysOk, mixedOk⟩
abbrev q_impl_averages_impl_ShapleyValue_1 (r : List Q) (σ' : ASt) : Prop := resAV E93_impl_averages.T σ' Try.f93.results.toList = some (.sl 1000 0) ∧ keepO σ'.ob (namesO [(1000, .arr 29 0 0 (.rats r))]) = [(1000, .arr 29 0 0 (.rats r))]
noncomputable def l_impl_averages_impl_ShapleyValue_1_1 (a1 : List Int) (a2 : Int) (v1 : Int) : (Int × Int) → Option ((Int × Int) ⊕ Int)
  | (v3, v4) => (
bif decide (v4 < (a1.length : Int)) then
(grd ((0 : Int) ≤ v4 ∧ v4 < (a1.length : Int)) <|
grd ((0 : Int) ≤ v1) <|
bif (bitsOf .and .i64 (v4.fdiv (2 ^ (min v1.toNat 64))) (1 : Int)) == (0 : Int) then
((m_bits_OnesCount (IntKind.u64.wrap (v4))).bind fun v5 =>
(m_impl_ShapleyValue_1 v5 a2).bind fun v6 =>
grd ((0 : Int) ≤ v1) <|
grd ((0 : Int) ≤ bitsOf .or .i64 v4 (IntKind.i64.wrap ((1 : Int) * 2 ^ (min v1.toNat 64))) ∧ bitsOf .or .i64 v4 (IntKind.i64.wrap ((1 : Int) * 2 ^ (min v1.toNat 64))) < (a1.length : Int)) <|
some (.inl (IntKind.i64.wrap (v3 + (IntKind.i64.wrap (v6 * (IntKind.i64.wrap ((a1.getD ((bitsOf .or .i64 v4 (IntKind.i64.wrap ((1 : Int) * 2 ^ (min v1.toNat 64)))).toNat) 0) - (a1.getD v4.toNat 0)))))), IntKind.i64.wrap (v4 + (1 : Int)))))
else
(some (.inl (v3, IntKind.i64.wrap (v4 + (1 : Int))))))
else
(some (.inr v3)))
noncomputable def l_impl_averages_impl_ShapleyValue_1_0 (a0 : Int) (a1 : List Int) (a2 : Int) (a3 : Int) : (Int × (List Q)) → Option ((Int × (List Q)) ⊕ ((List Q)))
  | (v1, v2) => (
bif decide (v1 < a0) then
((iter (l_impl_averages_impl_ShapleyValue_1_1 a1 a2 v1) ((0 : Int), (0 : Int))).bind fun
| v7 => (
(m_impl_RatOf v7 a3).bind fun (v8, v9, _) =>
grd (v2.length + ([⟨v8, v9⟩] : List Q).length ≤ room) <|
some (.inl (IntKind.i64.wrap (v1 + (1 : Int)), v2 ++ [⟨v8, v9⟩]))))
else
(some (.inr v2)))
noncomputable def m_impl_averages_impl_ShapleyValue_1 (a0 : Int) (a1 : List Int) (a2 : Int) (a3 : Int) : Option (List Q) :=
(iter (l_impl_averages_impl_ShapleyValue_1_0 a0 a1 a2 a3) ((0 : Int), [])).bind fun
| v11 => (
some v11)
theorem w_impl_averages_impl_ShapleyValue_1 (a0 : Int) (a1 : List Int) (a2 : Int) (a3 : Int) (r : List Q) (h : m_impl_averages_impl_ShapleyValue_1 a0 a1 a2 a3 = some r) : AM.Spec Try.prog 93 [.agg [.int .i64 a0, .list (.ints a1)], .func 94 [] [.pbox [.int .i64 a2] 0], .int .i64 a3] [] (.sl 1000 0) [(1000, .arr 29 0 0 (.rats r))] := by
  refine spec_of (E := E93_impl_averages) Try.func93 rfl rfl rfl rfl ?_
  refine Tri.run 3 [] [.keep [1, 2, 3, 7, 16, 17] [3, 14]] (K' := [.code [(2, 0), (1, 0)] 0, .blk 0, .code [] 3]) (σ' := ⟨[(1, .func 94 [] [.pbox [.int .i64 a2] 0]), (2, .int .i64 a3), (3, .ptr 3 0), (7, .sl 14 0), (16, .int .i64 a0), (17, .int .i64 (0 : Int))], [(3, .box [.int .i64 a0, .list (.ints a1)]), (14, .arr 29 0 0 (.rats []))]⟩) rfl trivial rfl ?_
  obtain ⟨v11, hk13, h⟩ := bind_some h
  refine Tri.loop (K1 := [.code [(2, 0), (1, 0), (0, 0)] 0]) (K2 := [.blk 0, .code [] 3]) (fun (v1, v2) => ⟨[(1, .func 94 [] [.pbox [.int .i64 a2] 0]), (2, .int .i64 a3), (3, .ptr 3 0), (7, .sl 14 0), (16, .int .i64 a0), (17, .int .i64 v1)], [(3, .box [.int .i64 a0, .list (.ints a1)]), (14, .arr 29 0 0 (.rats v2))]⟩) (fun x e σ' => match x with | v11 => e = .exit 0 ∧ σ' = ⟨[(7, .sl 14 0)], [(14, .arr 29 0 0 (.rats v11))]⟩) hk13 rfl rfl ?_ ?_
  · intro s x hs
    clear h
    have h := hs
    clear hs
    obtain ⟨v1, v2⟩ := s
    refine Tri.run 1 [] [.keep [1, 2, 3, 7, 16, 17, 18] [3, 14]] (K' := [.code [(2, 0), (1, 0), (0, 0), (1, 0)] 0, .code [(2, 0), (1, 0), (0, 0)] 2]) (σ' := ⟨[(1, .func 94 [] [.pbox [.int .i64 a2] 0]), (2, .int .i64 a3), (3, .ptr 3 0), (7, .sl 14 0), (16, .int .i64 a0), (17, .int .i64 v1), (18, .bool (decide (v1 < a0)))], [(3, .box [.int .i64 a0, .list (.ints a1)]), (14, .arr 29 0 0 (.rats v2))]⟩) rfl trivial rfl ?_
    rcases bif_some h with ⟨hd1, h⟩ | ⟨hd1, h⟩
    · refine Tri.run 3 [.g true] [.keep [1, 2, 3, 7, 8, 9, 16, 17] [3, 14]] (K' := [.code [(2, 0), (1, 0), (0, 0), (2, 0), (0, 0), (2, 0), (0, 0)] 0, .code [(2, 0), (1, 0), (0, 0), (2, 0), (0, 0), (2, 0)] 1, .code [(2, 0), (1, 0), (0, 0), (2, 0), (0, 0)] 3, .blk 1, .code [(2, 0), (1, 0), (0, 0)] 3]) (σ' := ⟨[(1, .func 94 [] [.pbox [.int .i64 a2] 0]), (2, .int .i64 a3), (3, .ptr 3 0), (7, .sl 14 0), (8, .int .i64 v1), (9, .int .i64 (0 : Int)), (16, .int .i64 a0), (17, .int .i64 v1)], [(3, .box [.int .i64 a0, .list (.ints a1)]), (14, .arr 29 0 0 (.rats v2))]⟩) rfl ⟨hd1, trivial⟩ rfl ?_
      refine Tri.run 1 [] [.keep [1, 2, 3, 7, 8, 9, 16, 17, 21, 22, 23] [3, 14]] (K' := [.code [(2, 0), (1, 0), (0, 0), (2, 0), (0, 0), (2, 0), (1, 0)] 0, .blk 2, .code [(2, 0), (1, 0), (0, 0), (2, 0), (0, 0)] 3, .blk 1, .code [(2, 0), (1, 0), (0, 0)] 3]) (σ' := ⟨[(1, .func 94 [] [.pbox [.int .i64 a2] 0]), (2, .int .i64 a3), (3, .ptr 3 0), (7, .sl 14 0), (8, .int .i64 v1), (9, .int .i64 (0 : Int)), (16, .int .i64 a0), (17, .int .i64 v1), (21, .list (.ints a1)), (22, .int .i64 (a1.length : Int)), (23, .int .i64 (0 : Int))], [(3, .box [.int .i64 a0, .list (.ints a1)]), (14, .arr 29 0 0 (.rats v2))]⟩) rfl trivial rfl ?_
      obtain ⟨v7, hk10, h⟩ := bind_some h
      refine Tri.loop (K1 := [.code [(2, 0), (1, 0), (0, 0), (2, 0), (0, 0), (2, 0), (1, 0), (0, 0)] 0]) (K2 := [.blk 2, .code [(2, 0), (1, 0), (0, 0), (2, 0), (0, 0)] 3, .blk 1, .code [(2, 0), (1, 0), (0, 0)] 3]) (fun (v3, v4) => ⟨[(1, .func 94 [] [.pbox [.int .i64 a2] 0]), (2, .int .i64 a3), (3, .ptr 3 0), (7, .sl 14 0), (8, .int .i64 v1), (9, .int .i64 v3), (16, .int .i64 a0), (17, .int .i64 v1), (21, .list (.ints a1)), (22, .int .i64 (a1.length : Int)), (23, .int .i64 v4)], [(3, .box [.int .i64 a0, .list (.ints a1)]), (14, .arr 29 0 0 (.rats v2))]⟩) (fun x e σ' => match x with | v7 => e = .exit 2 ∧ σ' = ⟨[(1, .func 94 [] [.pbox [.int .i64 a2] 0]), (2, .int .i64 a3), (3, .ptr 3 0), (7, .sl 14 0), (9, .int .i64 v7), (16, .int .i64 a0), (17, .int .i64 v1)], [(3, .box [.int .i64 a0, .list (.ints a1)]), (14, .arr 29 0 0 (.rats v2))]⟩) hk10 rfl rfl ?_ ?_
      · intro s x hs
        clear h
        have h := hs
        clear hs
        obtain ⟨v3, v4⟩ := s
        refine Tri.run 1 [] [.keep [1, 2, 3, 7, 8, 9, 16, 17, 21, 22, 23, 24] [3, 14]] (K' := [.code [(2, 0), (1, 0), (0, 0), (2, 0), (0, 0), (2, 0), (1, 0), (0, 0), (1, 0)] 0, .code [(2, 0), (1, 0), (0, 0), (2, 0), (0, 0), (2, 0), (1, 0), (0, 0)] 2]) (σ' := ⟨[(1, .func 94 [] [.pbox [.int .i64 a2] 0]), (2, .int .i64 a3), (3, .ptr 3 0), (7, .sl 14 0), (8, .int .i64 v1), (9, .int .i64 v3), (16, .int .i64 a0), (17, .int .i64 v1), (21, .list (.ints a1)), (22, .int .i64 (a1.length : Int)), (23, .int .i64 v4), (24, .bool (decide (v4 < (a1.length : Int))))], [(3, .box [.int .i64 a0, .list (.ints a1)]), (14, .arr 29 0 0 (.rats v2))]⟩) rfl trivial rfl ?_
        rcases bif_some h with ⟨hd2, h⟩ | ⟨hd2, h⟩
        · obtain ⟨hg3, h⟩ := grd_some h
          obtain ⟨hg4, h⟩ := grd_some h
          refine Tri.run 3 [.g true] [.keep [1, 2, 3, 7, 8, 9, 10, 11, 16, 17, 21, 22, 23, 32] [3, 14]] (K' := [.code [(2, 0), (1, 0), (0, 0), (2, 0), (0, 0), (2, 0), (1, 0), (0, 0), (2, 0), (0, 0)] 2, .blk 3, .code [(2, 0), (1, 0), (0, 0), (2, 0), (0, 0), (2, 0), (1, 0), (0, 0)] 3]) (σ' := ⟨[(1, .func 94 [] [.pbox [.int .i64 a2] 0]), (2, .int .i64 a3), (3, .ptr 3 0), (7, .sl 14 0), (8, .int .i64 v1), (9, .int .i64 v3), (10, .int .i64 v4), (11, .int .i64 (a1.getD v4.toNat 0)), (16, .int .i64 a0), (17, .int .i64 v1), (21, .list (.ints a1)), (22, .int .i64 (a1.length : Int)), (23, .int .i64 v4), (32, .bool ((bitsOf .and .i64 (v4.fdiv (2 ^ (min v1.toNat 64))) (1 : Int)) == (0 : Int)))], [(3, .box [.int .i64 a0, .list (.ints a1)]), (14, .arr 29 0 0 (.rats v2))]⟩) rfl ⟨hg4, hg3, hd2, trivial⟩ rfl ?_
          rcases bif_some h with ⟨hd5, h⟩ | ⟨hd5, h⟩
          · obtain ⟨v5, hk6, h⟩ := bind_some h
            obtain ⟨v6, hk7, h⟩ := bind_some h
            obtain ⟨hg8, h⟩ := grd_some h
            obtain ⟨hg9, h⟩ := grd_some h
            refine Tri.run 3 [.g true, .r ⟨[], .int .i64 v5, []⟩, .r ⟨[], .int .i64 v6, []⟩] [.keep [1, 2, 3, 7, 8, 9, 16, 17, 21, 22, 23] [3, 14]] (K' := []) (σ' := ⟨[(1, .func 94 [] [.pbox [.int .i64 a2] 0]), (2, .int .i64 a3), (3, .ptr 3 0), (7, .sl 14 0), (8, .int .i64 v1), (9, .int .i64 (IntKind.i64.wrap (v3 + (IntKind.i64.wrap (v6 * (IntKind.i64.wrap ((a1.getD ((bitsOf .or .i64 v4 (IntKind.i64.wrap ((1 : Int) * 2 ^ (min v1.toNat 64)))).toNat) 0) - (a1.getD v4.toNat 0)))))))), (16, .int .i64 a0), (17, .int .i64 v1), (21, .list (.ints a1)), (22, .int .i64 (a1.length : Int)), (23, .int .i64 (IntKind.i64.wrap (v4 + (1 : Int))))], [(3, .box [.int .i64 a0, .list (.ints a1)]), (14, .arr 29 0 0 (.rats v2))]⟩) rfl ⟨hg9, hg8, (w_impl_ShapleyValue_1 v5 a2 v6 hk7), (w_bits_OnesCount (IntKind.u64.wrap (v4)) v5 hk6), hd5, trivial⟩ rfl ?_
            have h := Option.some.inj h
            subst h
            exact Tri.nil ⟨rfl, rfl⟩
          · refine Tri.run 2 [.g false] [.keep [1, 2, 3, 7, 8, 9, 16, 17, 21, 22, 23] [3, 14]] (K' := []) (σ' := ⟨[(1, .func 94 [] [.pbox [.int .i64 a2] 0]), (2, .int .i64 a3), (3, .ptr 3 0), (7, .sl 14 0), (8, .int .i64 v1), (9, .int .i64 v3), (16, .int .i64 a0), (17, .int .i64 v1), (21, .list (.ints a1)), (22, .int .i64 (a1.length : Int)), (23, .int .i64 (IntKind.i64.wrap (v4 + (1 : Int))))], [(3, .box [.int .i64 a0, .list (.ints a1)]), (14, .arr 29 0 0 (.rats v2))]⟩) rfl ⟨hd5, trivial⟩ rfl ?_
            have h := Option.some.inj h
            subst h
            exact Tri.nil ⟨rfl, rfl⟩
        · refine Tri.run 1 [.g false] [.keep [1, 2, 3, 7, 9, 16, 17] [3, 14]] (K' := [.code [(2, 0), (1, 0), (0, 0), (2, 0), (0, 0), (2, 0), (1, 0), (0, 0), (1, 0), (0, 1)] 0, .code [(2, 0), (1, 0), (0, 0), (2, 0), (0, 0), (2, 0), (1, 0), (0, 0)] 2]) (σ' := ⟨[(1, .func 94 [] [.pbox [.int .i64 a2] 0]), (2, .int .i64 a3), (3, .ptr 3 0), (7, .sl 14 0), (9, .int .i64 v3), (16, .int .i64 a0), (17, .int .i64 v1)], [(3, .box [.int .i64 a0, .list (.ints a1)]), (14, .arr 29 0 0 (.rats v2))]⟩) rfl ⟨hd2, trivial⟩ rfl ?_
          have h := Option.some.inj h
          subst h
          exact Tri.out 2 rfl ⟨nofun, rfl, rfl⟩
      · intro e σ' hne hq
        obtain ⟨rfl, rfl⟩ := hq
        refine TriX.exit (K' := [.code [(2, 0), (1, 0), (0, 0), (2, 0), (0, 0)] 3, .blk 1, .code [(2, 0), (1, 0), (0, 0)] 3]) rfl ?_
        obtain ⟨⟨v8, v9, v10⟩, hk11, h⟩ := bind_some h
        obtain ⟨hg12, h⟩ := grd_some h
        refine Tri.run 3 [.r ⟨[], .tuple [.agg [.int .i64 v8, .int .i64 v9], .bool v10], []⟩] [.rever 14, .keep [1, 2, 3, 7, 16, 17] [3, 14]] (K' := []) (σ' := ⟨[(1, .func 94 [] [.pbox [.int .i64 a2] 0]), (2, .int .i64 a3), (3, .ptr 3 0), (7, .sl 14 0), (16, .int .i64 a0), (17, .int .i64 (IntKind.i64.wrap (v1 + (1 : Int))))], [(3, .box [.int .i64 a0, .list (.ints a1)]), (14, .arr 29 0 0 (.rats (v2 ++ [⟨v8, v9⟩])))]⟩) rfl ⟨hg12, (w_impl_RatOf v7 a3 (v8, v9, v10) hk11), trivial⟩ rfl ?_
        have h := Option.some.inj h
        subst h
        exact Tri.nil ⟨rfl, rfl⟩
    · refine Tri.run 1 [.g false] [.keep [7] [14]] (K' := [.code [(2, 0), (1, 0), (0, 0), (1, 0), (0, 1)] 0, .code [(2, 0), (1, 0), (0, 0)] 2]) (σ' := ⟨[(7, .sl 14 0)], [(14, .arr 29 0 0 (.rats v2))]⟩) rfl ⟨hd1, trivial⟩ rfl ?_
      have h := Option.some.inj h
      subst h
      exact Tri.out 0 rfl ⟨nofun, rfl, rfl⟩
  · intro e σ' hne hq
    obtain ⟨rfl, rfl⟩ := hq
    refine TriX.exit (K' := [.code [] 3]) rfl ?_
    refine Tri.run 1 [] [.swap 14 1000, .keep [6] [1000]] (K' := [.code [] 4]) (σ' := ⟨[(6, .sl 1000 0)], [(1000, .arr 29 0 0 (.rats v11))]⟩) rfl trivial rfl ?_
    have h := Option.some.inj h
    subst h
    exact Tri.ret rfl ⟨.inl rfl, rfl, rfl⟩
/-! impl.ShapleyValue -/
noncomputable def E32_impl_ShapleyValue : Env := ⟨Try.prog, tys, (Try.f32.body).getD .skip, 15, tysOk, mixedOk⟩
abbrev q_impl_ShapleyValue (r : Bool × (List Q)) (σ' : ASt) : Prop := resAV E32_impl_ShapleyValue.T σ' Try.f32.results.toList = some (.tuple [.sl 1000 0, .bool r.1]) ∧ keepO σ'.ob (namesO [(1000, .arr 29 0 0 (.rats r.2))]) = [(1000, .arr 29 0 0 (.rats r.2))]
noncomputable def m_impl_ShapleyValue (a0 : Int) (a1 : List Int) : Option (Bool × (List Q)) :=
(m_impl_IsValidGame a0 a1).bind fun v1 =>
bif !v1 then
(some (false, []))
else
((m_impl_factorial a0).bind fun v2 =>
(m_impl_averages_impl_ShapleyValue_1 a0 a1 a0 v2).bind fun v3 =>
some (true, v3))
theorem w_impl_ShapleyValue (a0 : Int) (a1 : List Int) (r : Bool × (List Q)) (h : m_impl_ShapleyValue a0 a1 = some r) : AM.Spec Try.prog 32 [.agg [.int .i64 a0, .list (.ints a1)]] [] (.tuple [.sl 1000 0, .bool r.1]) [(1000, .arr 29 0 0 (.rats r.2))] := by
  refine spec_of (E := E32_impl_ShapleyValue) Try.func32 rfl rfl rfl rfl ?_
  refine Tri.run 1 [] [.keep [1] [1]] (K' := [.code [(1, 0), (0, 0)] 0, .code [(1, 0)] 1, .code [] 2]) (σ' := ⟨[(1, .ptr 1 0)], [(1, .box [.int .i64 a0, .list (.ints a1)])]⟩) rfl trivial rfl ?_
  obtain ⟨v1, hk1, h⟩ := bind_some h
  refine Tri.run 1 [.r ⟨[], .bool v1, []⟩] [.keep [1, 7] [1]] (K' := [.code [(1, 0)] 1, .code [] 2]) (σ' := ⟨[(1, .ptr 1 0), (7, .bool (!v1))], [(1, .box [.int .i64 a0, .list (.ints a1)])]⟩) rfl ⟨(w_impl_IsValidGame a0 a1 v1 hk1), trivial⟩ rfl ?_
  rcases bif_some h with ⟨hd2, h⟩ | ⟨hd2, h⟩
  · refine Tri.run 2 [.g true] [.own 2 [] 1100 29, .swap 1100 1000, .keep [2, 3] [1000]] (K' := [.code [(1, 0), (1, 0)] 1, .code [] 2]) (σ' := ⟨[(2, .sl 1000 0), (3, .bool false)], [(1000, .arr 29 0 0 (.rats []))]⟩) rfl ⟨hd2, trivial⟩ rfl ?_
    have h := Option.some.inj h
    subst h
    exact Tri.ret rfl ⟨.inl rfl, rfl, rfl⟩
  · refine Tri.run 2 [.g false] [.keep [1, 4] [1, 4]] (K' := [.code [(3, 0)] 0, .code [] 4]) (σ' := ⟨[(1, .ptr 1 0), (4, .ptr 4 0)], [(1, .box [.int .i64 a0, .list (.ints a1)]), (4, .box [.int .i64 a0])]⟩) rfl ⟨hd2, trivial⟩ rfl ?_
    obtain ⟨v2, hk3, h⟩ := bind_some h
    obtain ⟨v3, hk4, h⟩ := bind_some h
    refine Tri.run 1 [.r ⟨[], .int .i64 v2, []⟩, .r ⟨[], .sl 1101 0, [(1101, .arr 29 0 0 (.rats v3))]⟩] [.swap 1101 1000, .keep [2, 3] [1000]] (K' := [.code [] 4]) (σ' := ⟨[(2, .sl 1000 0), (3, .bool true)], [(1000, .arr 29 0 0 (.rats v3))]⟩) rfl ⟨((w_impl_averages_impl_ShapleyValue_1 a0 a1 a0 v2 v3 hk4).swap 1000 1101), (w_impl_factorial a0 v2 hk3), trivial⟩ rfl ?_
    have h := Option.some.inj h
    subst h
    exact Tri.ret rfl ⟨.inl rfl, rfl, rfl⟩
/-! laws.eqRat -/
noncomputable def E21_laws_eqRat : Env := ⟨Try.prog, tys, (Try.f21.body).getD .skip, 15, tysOk, mixedOk⟩
abbrev q_laws_eqRat (r : Bool) (σ' : ASt) : Prop := resAV E21_laws_eqRat.T σ' Try.f21.results.toList = some (.bool r) ∧ keepO σ'.ob (namesO []) = []
noncomputable def m_laws_eqRat (a0 : Int) (a1 : Int) (a2 : Int) (a3 : Int) : Option Bool :=
bif a0 != a2 then
(some false)
else
(bif a1 != a3 then
(some false)
else
(some true))
theorem w_laws_eqRat (a0 : Int) (a1 : Int) (a2 : Int) (a3 : Int) (r : Bool) (h : m_laws_eqRat a0 a1 a2 a3 = some r) : AM.Spec Try.prog 21 [.agg [.int .i64 a0, .int .i64 a1], .agg [.int .i64 a2, .int .i64 a3]] [] (.bool r) [] := by
  refine spec_of (E := E21_laws_eqRat) Try.func21 rfl rfl rfl rfl ?_
  refine Tri.run 2 [] [.keep [2, 3, 9] [2, 3]] (K' := [.code [(1, 0)] 1, .code [] 2]) (σ' := ⟨[(2, .ptr 2 0), (3, .ptr 3 0), (9, .bool (a0 != a2))], [(2, .box [.int .i64 a0, .int .i64 a1]), (3, .box [.int .i64 a2, .int .i64 a3])]⟩) rfl trivial rfl ?_
  rcases bif_some h with ⟨hd1, h⟩ | ⟨hd1, h⟩
  · refine Tri.run 2 [.g true] [.keep [4] []] (K' := [.code [(1, 0), (1, 0)] 1, .code [] 2]) (σ' := ⟨[(4, .bool false)], []⟩) rfl ⟨hd1, trivial⟩ rfl ?_
    have h := Option.some.inj h
    subst h
    exact Tri.ret rfl ⟨.inl rfl, rfl, rfl⟩
  · refine Tri.run 2 [.g false] [.keep [14] []] (K' := [.code [(2, 0)] 1, .code [] 3]) (σ' := ⟨[(14, .bool (a1 != a3))], []⟩) rfl ⟨hd1, trivial⟩ rfl ?_
    rcases bif_some h with ⟨hd2, h⟩ | ⟨hd2, h⟩
    · refine Tri.run 2 [.g true] [.keep [4] []] (K' := [.code [(2, 0), (1, 0)] 1, .code [] 3]) (σ' := ⟨[(4, .bool false)], []⟩) rfl ⟨hd2, trivial⟩ rfl ?_
      have h := Option.some.inj h
      subst h
      exact Tri.ret rfl ⟨.inl rfl, rfl, rfl⟩
    · refine Tri.run 2 [.g false] [.keep [4] []] (K' := [.code [] 4]) (σ' := ⟨[(4, .bool true)], []⟩) rfl ⟨hd2, trivial⟩ rfl ?_
      have h := Option.some.inj h
      subst h
      exact Tri.ret rfl ⟨.inl rfl, rfl, rfl⟩
/-! laws.eqRatS -/
noncomputable def E23_laws_eqRatS : Env := ⟨Try.prog, tys, (Try.f23.body).getD .skip, 27, tysOk, mixedOk⟩
abbrev q_laws_eqRatS (r : Bool) (σ' : ASt) : Prop := resAV E23_laws_eqRatS.T σ' Try.f23.results.toList = some (.bool r) ∧ keepO σ'.ob (namesO []) = []
noncomputable def l_laws_eqRatS_0 (a0 : List Q) (a1 : List Q) (v1 : Int) : Option (Int ⊕ (Unit ⊕ Bool)) :=
bif decide (v1 < (a0.length : Int)) then
(grd ((0 : Int) ≤ v1 ∧ v1 < (a0.length : Int)) <|
grd ((0 : Int) ≤ v1 ∧ v1 < (a1.length : Int)) <|
(m_laws_eqRat ((a0.getD v1.toNat ⟨0, 0⟩).num) ((a0.getD v1.toNat ⟨0, 0⟩).den) ((a1.getD v1.toNat ⟨0, 0⟩).num) ((a1.getD v1.toNat ⟨0, 0⟩).den)).bind fun v2 =>
bif !v2 then
(some (.inr (.inr false)))
else
(some (.inl (IntKind.i64.wrap (v1 + (1 : Int))))))
else
(some (.inr (.inl ())))
noncomputable def m_laws_eqRatS (a0 : List Q) (a1 : List Q) : Option Bool :=
bif (a0.length : Int) != (a1.length : Int) then
(some false)
else
((iter (l_laws_eqRatS_0 a0 a1) (0 : Int)).bind fun
| (.inl _) => (
some true)
| (.inr r) => some r)
theorem w_laws_eqRatS (a0 : List Q) (a1 : List Q) (r : Bool) (h : m_laws_eqRatS a0 a1 = some r) : AM.Spec Try.prog 23 [.list (.rats a0), .list (.rats a1)] [] (.bool r) [] := by
  refine spec_of (E := E23_laws_eqRatS) Try.func23 rfl rfl rfl rfl ?_
  refine Tri.run 2 [] [.keep [0, 1, 10] []] (K' := [.code [(1, 0)] 1, .code [] 2]) (σ' := ⟨[(0, .list (.rats a0)), (1, .list (.rats a1)), (10, .bool ((a0.length : Int) != (a1.length : Int)))], []⟩) rfl trivial rfl ?_
  rcases bif_some h with ⟨hd1, h⟩ | ⟨hd1, h⟩
  · refine Tri.run 2 [.g true] [.keep [4] []] (K' := [.code [(1, 0), (1, 0)] 1, .code [] 2]) (σ' := ⟨[(4, .bool false)], []⟩) rfl ⟨hd1, trivial⟩ rfl ?_
    have h := Option.some.inj h
    subst h
    exact Tri.ret rfl ⟨.inl rfl, rfl, rfl⟩
  · refine Tri.run 2 [.g false] [.keep [0, 1, 5] []] (K' := [.code [(2, 0), (1, 0)] 0, .blk 0, .code [] 3]) (σ' := ⟨[(0, .list (.rats a0)), (1, .list (.rats a1)), (5, .int .i64 (0 : Int))], []⟩) rfl ⟨hd1, trivial⟩ rfl ?_
    obtain ⟨x1, hk7, h⟩ := bind_some h
    refine Tri.loop (K1 := [.code [(2, 0), (1, 0), (0, 0)] 0]) (K2 := [.blk 0, .code [] 3]) (fun v1 => ⟨[(0, .list (.rats a0)), (1, .list (.rats a1)), (5, .int .i64 v1)], []⟩) (fun x e σ' => match x with | (.inl _) => e = .exit 0 ∧ σ' = ⟨[], []⟩ | (.inr r) => e = .ret ∧ q_laws_eqRatS r σ') hk7 rfl rfl ?_ ?_
    · intro v1 x hs
      clear h
      have h := hs
      clear hs
      refine Tri.run 1 [] [.keep [0, 1, 5, 14] []] (K' := [.code [(2, 0), (1, 0), (0, 0), (0, 0)] 1, .code [(2, 0), (1, 0), (0, 0)] 1]) (σ' := ⟨[(0, .list (.rats a0)), (1, .list (.rats a1)), (5, .int .i64 v1), (14, .bool (decide (v1 < (a0.length : Int))))], []⟩) rfl trivial rfl ?_
      rcases bif_some h with ⟨hd2, h⟩ | ⟨hd2, h⟩
      · obtain ⟨hg3, h⟩ := grd_some h
        obtain ⟨hg4, h⟩ := grd_some h
        obtain ⟨v2, hk5, h⟩ := bind_some h
        refine Tri.run 2 [.g true, .r ⟨[], .bool v2, []⟩] [.keep [0, 1, 5, 26] []] (K' := [.code [(2, 0), (1, 0), (0, 0), (1, 0), (0, 0)] 1, .blk 1, .code [(2, 0), (1, 0), (0, 0)] 2]) (σ' := ⟨[(0, .list (.rats a0)), (1, .list (.rats a1)), (5, .int .i64 v1), (26, .bool (!v2))], []⟩) rfl ⟨(w_laws_eqRat ((a0.getD v1.toNat ⟨0, 0⟩).num) ((a0.getD v1.toNat ⟨0, 0⟩).den) ((a1.getD v1.toNat ⟨0, 0⟩).num) ((a1.getD v1.toNat ⟨0, 0⟩).den) v2 hk5), hg4, hg3, hd2, trivial⟩ rfl ?_
        rcases bif_some h with ⟨hd6, h⟩ | ⟨hd6, h⟩
        · refine Tri.run 2 [.g true] [.keep [4] []] (K' := [.code [(2, 0), (1, 0), (0, 0), (1, 0), (0, 0), (1, 0)] 1, .blk 1, .code [(2, 0), (1, 0), (0, 0)] 2]) (σ' := ⟨[(4, .bool false)], []⟩) rfl ⟨hd6, trivial⟩ rfl ?_
          have h := Option.some.inj h
          subst h
          exact Tri.ret rfl ⟨nofun, rfl, rfl, rfl⟩
        · refine Tri.run 2 [.g false] [.keep [0, 1, 5] []] (K' := []) (σ' := ⟨[(0, .list (.rats a0)), (1, .list (.rats a1)), (5, .int .i64 (IntKind.i64.wrap (v1 + (1 : Int))))], []⟩) rfl ⟨hd6, trivial⟩ rfl ?_
          have h := Option.some.inj h
          subst h
          exact Tri.nil ⟨rfl, rfl⟩
      · refine Tri.run 1 [.g false] [.keep [] []] (K' := [.code [(2, 0), (1, 0), (0, 0), (0, 0), (1, 1)] 0, .code [(2, 0), (1, 0), (0, 0)] 1]) (σ' := ⟨[], []⟩) rfl ⟨hd2, trivial⟩ rfl ?_
        have h := Option.some.inj h
        subst h
        exact Tri.out 0 rfl ⟨nofun, rfl, rfl⟩
    · intro e σ' hne hq
      rcases x1 with _ | r
      · obtain ⟨rfl, rfl⟩ := hq
        refine TriX.exit (K' := [.code [] 3]) rfl ?_
        refine Tri.run 1 [] [.keep [4] []] (K' := [.code [] 4]) (σ' := ⟨[(4, .bool true)], []⟩) rfl trivial rfl ?_
        have h := Option.some.inj h
        subst h
        exact Tri.ret rfl ⟨.inl rfl, rfl, rfl⟩
      · obtain ⟨rfl, hq⟩ := hq
        have h := Option.some.inj h
        subst h
        exact TriX.ret ⟨.inl rfl, hq⟩
/-! laws.eqIntS -/
noncomputable def E49_laws_eqIntS : Env := ⟨Try.prog, tys, (Try.f49.body).getD .skip, 26, tysOk, mixedOk⟩
abbrev q_laws_eqIntS (r : Bool) (σ' : ASt) : Prop := resAV E49_laws_eqIntS.T σ' Try.f49.results.toList = some (.bool r) ∧ keepO σ'.ob (namesO []) = []
noncomputable def l_laws_eqIntS_0 (a0 : List Int) (a1 : List Int) (v1 : Int) : Option (Int ⊕ (Unit ⊕ Bool)) :=
bif decide (v1 < (a0.length : Int)) then
(grd ((0 : Int) ≤ v1 ∧ v1 < (a0.length : Int)) <|
grd ((0 : Int) ≤ v1 ∧ v1 < (a1.length : Int)) <|
bif (a0.getD v1.toNat 0) != (a1.getD v1.toNat 0) then
(some (.inr (.inr false)))
else
(some (.inl (IntKind.i64.wrap (v1 + (1 : Int))))))
else
(some (.inr (.inl ())))
noncomputable def m_laws_eqIntS (a0 : List Int) (a1 : List Int) : Option Bool :=
bif (a0.length : Int) != (a1.length : Int) then
(some false)
else
((iter (l_laws_eqIntS_0 a0 a1) (0 : Int)).bind fun
| (.inl _) => (
some true)
| (.inr r) => some r)
theorem w_laws_eqIntS (a0 : List Int) (a1 : List Int) (r : Bool) (h : m_laws_eqIntS a0 a1 = some r) : AM.Spec Try.prog 49 [.list (.ints a0), .list (.ints a1)] [] (.bool r) [] := by
  refine spec_of (E := E49_laws_eqIntS) Try.func49 rfl rfl rfl rfl ?_
  refine Tri.run 2 [] [.keep [0, 1, 10] []] (K' := [.code [(1, 0)] 1, .code [] 2]) (σ' := ⟨[(0, .list (.ints a0)), (1, .list (.ints a1)), (10, .bool ((a0.length : Int) != (a1.length : Int)))], []⟩) rfl trivial rfl ?_
  rcases bif_some h with ⟨hd1, h⟩ | ⟨hd1, h⟩
  · refine Tri.run 2 [.g true] [.keep [4] []] (K' := [.code [(1, 0), (1, 0)] 1, .code [] 2]) (σ' := ⟨[(4, .bool false)], []⟩) rfl ⟨hd1, trivial⟩ rfl ?_
    have h := Option.some.inj h
    subst h
    exact Tri.ret rfl ⟨.inl rfl, rfl, rfl⟩
  · refine Tri.run 2 [.g false] [.keep [0, 1, 5] []] (K' := [.code [(2, 0), (1, 0)] 0, .blk 0, .code [] 3]) (σ' := ⟨[(0, .list (.ints a0)), (1, .list (.ints a1)), (5, .int .i64 (0 : Int))], []⟩) rfl ⟨hd1, trivial⟩ rfl ?_
    obtain ⟨x1, hk6, h⟩ := bind_some h
    refine Tri.loop (K1 := [.code [(2, 0), (1, 0), (0, 0)] 0]) (K2 := [.blk 0, .code [] 3]) (fun v1 => ⟨[(0, .list (.ints a0)), (1, .list (.ints a1)), (5, .int .i64 v1)], []⟩) (fun x e σ' => match x with | (.inl _) => e = .exit 0 ∧ σ' = ⟨[], []⟩ | (.inr r) => e = .ret ∧ q_laws_eqIntS r σ') hk6 rfl rfl ?_ ?_
    · intro v1 x hs
      clear h
      have h := hs
      clear hs
      refine Tri.run 1 [] [.keep [0, 1, 5, 14] []] (K' := [.code [(2, 0), (1, 0), (0, 0), (0, 0)] 1, .code [(2, 0), (1, 0), (0, 0)] 1]) (σ' := ⟨[(0, .list (.ints a0)), (1, .list (.ints a1)), (5, .int .i64 v1), (14, .bool (decide (v1 < (a0.length : Int))))], []⟩) rfl trivial rfl ?_
      rcases bif_some h with ⟨hd2, h⟩ | ⟨hd2, h⟩
      · obtain ⟨hg3, h⟩ := grd_some h
        obtain ⟨hg4, h⟩ := grd_some h
        refine Tri.run 2 [.g true] [.keep [0, 1, 5, 25] []] (K' := [.code [(2, 0), (1, 0), (0, 0), (1, 0), (0, 0)] 1, .blk 1, .code [(2, 0), (1, 0), (0, 0)] 2]) (σ' := ⟨[(0, .list (.ints a0)), (1, .list (.ints a1)), (5, .int .i64 v1), (25, .bool ((a0.getD v1.toNat 0) != (a1.getD v1.toNat 0)))], []⟩) rfl ⟨hg4, hg3, hd2, trivial⟩ rfl ?_
        rcases bif_some h with ⟨hd5, h⟩ | ⟨hd5, h⟩
        · refine Tri.run 2 [.g true] [.keep [4] []] (K' := [.code [(2, 0), (1, 0), (0, 0), (1, 0), (0, 0), (1, 0)] 1, .blk 1, .code [(2, 0), (1, 0), (0, 0)] 2]) (σ' := ⟨[(4, .bool false)], []⟩) rfl ⟨hd5, trivial⟩ rfl ?_
          have h := Option.some.inj h
          subst h
          exact Tri.ret rfl ⟨nofun, rfl, rfl, rfl⟩
        · refine Tri.run 2 [.g false] [.keep [0, 1, 5] []] (K' := []) (σ' := ⟨[(0, .list (.ints a0)), (1, .list (.ints a1)), (5, .int .i64 (IntKind.i64.wrap (v1 + (1 : Int))))], []⟩) rfl ⟨hd5, trivial⟩ rfl ?_
          have h := Option.some.inj h
          subst h
          exact Tri.nil ⟨rfl, rfl⟩
      · refine Tri.run 1 [.g false] [.keep [] []] (K' := [.code [(2, 0), (1, 0), (0, 0), (0, 0), (1, 1)] 0, .code [(2, 0), (1, 0), (0, 0)] 1]) (σ' := ⟨[], []⟩) rfl ⟨hd2, trivial⟩ rfl ?_
        have h := Option.some.inj h
        subst h
        exact Tri.out 0 rfl ⟨nofun, rfl, rfl⟩
    · intro e σ' hne hq
      rcases x1 with _ | r
      · obtain ⟨rfl, rfl⟩ := hq
        refine TriX.exit (K' := [.code [] 3]) rfl ?_
        refine Tri.run 1 [] [.keep [4] []] (K' := [.code [] 4]) (σ' := ⟨[(4, .bool true)], []⟩) rfl trivial rfl ?_
        have h := Option.some.inj h
        subst h
        exact Tri.ret rfl ⟨.inl rfl, rfl, rfl⟩
      · obtain ⟨rfl, hq⟩ := hq
        have h := Option.some.inj h
        subst h
        exact TriX.ret ⟨.inl rfl, hq⟩
/-! laws.eqGame -/
noncomputable def E22_laws_eqGame : Env := ⟨Try.prog, tys, (Try.f22.body).getD .skip, 16, tysOk, mixedOk⟩
abbrev q_laws_eqGame (r : Bool) (σ' : ASt) : Prop := resAV E22_laws_eqGame.T σ' Try.f22.results.toList = some (.bool r) ∧ keepO σ'.ob (namesO []) = []
noncomputable def m_laws_eqGame (a0 : Int) (a1 : List Int) (a2 : Int) (a3 : List Int) : Option Bool :=
bif a0 != a2 then
(some false)
else
((m_laws_eqIntS a1 a3).bind fun v1 =>
bif !v1 then
(some false)
else
(some true))
theorem w_laws_eqGame (a0 : Int) (a1 : List Int) (a2 : Int) (a3 : List Int) (r : Bool) (h : m_laws_eqGame a0 a1 a2 a3 = some r) : AM.Spec Try.prog 22 [.agg [.int .i64 a0, .list (.ints a1)], .agg [.int .i64 a2, .list (.ints a3)]] [] (.bool r) [] := by
  refine spec_of (E := E22_laws_eqGame) Try.func22 rfl rfl rfl rfl ?_
  refine Tri.run 2 [] [.keep [2, 3, 9] [2, 3]] (K' := [.code [(1, 0)] 1, .code [] 2]) (σ' := ⟨[(2, .ptr 2 0), (3, .ptr 3 0), (9, .bool (a0 != a2))], [(2, .box [.int .i64 a0, .list (.ints a1)]), (3, .box [.int .i64 a2, .list (.ints a3)])]⟩) rfl trivial rfl ?_
  rcases bif_some h with ⟨hd1, h⟩ | ⟨hd1, h⟩
  · refine Tri.run 2 [.g true] [.keep [4] []] (K' := [.code [(1, 0), (1, 0)] 1, .code [] 2]) (σ' := ⟨[(4, .bool false)], []⟩) rfl ⟨hd1, trivial⟩ rfl ?_
    have h := Option.some.inj h
    subst h
    exact Tri.ret rfl ⟨.inl rfl, rfl, rfl⟩
  · obtain ⟨v1, hk2, h⟩ := bind_some h
    refine Tri.run 2 [.g false, .r ⟨[], .bool v1, []⟩] [.keep [15] []] (K' := [.code [(2, 0)] 1, .code [] 3]) (σ' := ⟨[(15, .bool (!v1))], []⟩) rfl ⟨(w_laws_eqIntS a1 a3 v1 hk2), hd1, trivial⟩ rfl ?_
    rcases bif_some h with ⟨hd3, h⟩ | ⟨hd3, h⟩
    · refine Tri.run 2 [.g true] [.keep [4] []] (K' := [.code [(2, 0), (1, 0)] 1, .code [] 3]) (σ' := ⟨[(4, .bool false)], []⟩) rfl ⟨hd3, trivial⟩ rfl ?_
      have h := Option.some.inj h
      subst h
      exact Tri.ret rfl ⟨.inl rfl, rfl, rfl⟩
    · refine Tri.run 2 [.g false] [.keep [4] []] (K' := [.code [] 4]) (σ' := ⟨[(4, .bool true)], []⟩) rfl ⟨hd3, trivial⟩ rfl ?_
      have h := Option.some.inj h
      subst h
      exact Tri.ret rfl ⟨.inl rfl, rfl, rfl⟩
/-! laws.markIntS -/
noncomputable def E50_laws_markIntS : Env := ⟨Try.prog, tys, (Try.f50.body).getD .skip, 19, tysOk, mixedOk⟩
abbrev q_laws_markIntS_io1 (r : Int × (List Int)) (σ' : ASt) : Prop := resAV E50_laws_markIntS.T σ' Try.f50.results.toList = some (.int .i64 r.1) ∧ keepO σ'.ob (namesO [(2020, .arr 3 0 0 (.ints r.2))]) = [(2020, .arr 3 0 0 (.ints r.2))]
noncomputable def l_laws_markIntS_io1_0 : (Int × Int × (List Int)) → Option ((Int × Int × (List Int)) ⊕ ((Int × (List Int))))
  | (v1, v2, v3) => (
bif decide (v2 < (v3.length : Int)) then
(grd ((0 : Int) ≤ v2 ∧ v2 < (v3.length : Int)) <|
some (.inl (IntKind.i64.wrap (v1 + (1 : Int)), IntKind.i64.wrap (v2 + (1 : Int)), v3.set v2.toNat v1)))
else
(some (.inr (v1, v3))))
noncomputable def m_laws_markIntS_io1 (a0 : List Int) (a1 : Int) : Option (Int × (List Int)) :=
(iter (l_laws_markIntS_io1_0) (a1, (0 : Int), a0)).bind fun
| (v4, v5) => (
some (v4, v5))
theorem w_laws_markIntS_io1 (a0 : List Int) (a1 : Int) (r : Int × (List Int)) (h : m_laws_markIntS_io1 a0 a1 = some r) : AM.Spec Try.prog 50 [.sl 2020 0, .int .i64 a1] [(2020, .arr 3 0 0 (.ints a0))] (.int .i64 r.1) [(2020, .arr 3 0 0 (.ints r.2))] := by
  refine spec_of (E := E50_laws_markIntS) Try.func50 rfl rfl rfl rfl ?_
  refine Tri.run 2 [] [.keep [0, 1, 5] [2020]] (K' := [.code [(1, 0), (1, 0)] 0, .blk 0, .code [] 2]) (σ' := ⟨[(0, .sl 2020 0), (1, .int .i64 a1), (5, .int .i64 (0 : Int))], [(2020, .arr 3 0 0 (.ints a0))]⟩) rfl trivial rfl ?_
  obtain ⟨x1, hk3, h⟩ := bind_some h
  refine Tri.loop (K1 := [.code [(1, 0), (1, 0), (0, 0)] 0]) (K2 := [.blk 0, .code [] 2]) (fun (v1, v2, v3) => ⟨[(0, .sl 2020 0), (1, .int .i64 v1), (5, .int .i64 v2)], [(2020, .arr 3 0 0 (.ints v3))]⟩) (fun x e σ' => match x with | (v4, v5) => e = .exit 0 ∧ σ' = ⟨[(1, .int .i64 v4)], [(2020, .arr 3 0 0 (.ints v5))]⟩) hk3 rfl rfl ?_ ?_
  · intro s x hs
    clear h
    have h := hs
    clear hs
    obtain ⟨v1, v2, v3⟩ := s
    refine Tri.run 1 [] [.keep [0, 1, 5, 9] [2020]] (K' := [.code [(1, 0), (1, 0), (0, 0), (0, 0)] 1, .code [(1, 0), (1, 0), (0, 0)] 1]) (σ' := ⟨[(0, .sl 2020 0), (1, .int .i64 v1), (5, .int .i64 v2), (9, .bool (decide (v2 < (v3.length : Int))))], [(2020, .arr 3 0 0 (.ints v3))]⟩) rfl trivial rfl ?_
    rcases bif_some h with ⟨hd1, h⟩ | ⟨hd1, h⟩
    · obtain ⟨hg2, h⟩ := grd_some h
      refine Tri.run 3 [.g true] [.keep [0, 1, 5] [2020]] (K' := [.code [(1, 0), (1, 0), (0, 0)] 2]) (σ' := ⟨[(0, .sl 2020 0), (1, .int .i64 (IntKind.i64.wrap (v1 + (1 : Int)))), (5, .int .i64 v2)], [(2020, .arr 3 0 0 (.ints (v3.set v2.toNat v1)))]⟩) rfl ⟨hg2, hd1, trivial⟩ rfl ?_
      refine Tri.run 1 [] [.keep [0, 1, 5] [2020]] (K' := []) (σ' := ⟨[(0, .sl 2020 0), (1, .int .i64 (IntKind.i64.wrap (v1 + (1 : Int)))), (5, .int .i64 (IntKind.i64.wrap (v2 + (1 : Int))))], [(2020, .arr 3 0 0 (.ints (v3.set v2.toNat v1)))]⟩) rfl trivial rfl ?_
      have h := Option.some.inj h
      subst h
      exact Tri.nil ⟨rfl, rfl⟩
    · refine Tri.run 1 [.g false] [.keep [1] [2020]] (K' := [.code [(1, 0), (1, 0), (0, 0), (0, 0), (1, 1)] 0, .code [(1, 0), (1, 0), (0, 0)] 1]) (σ' := ⟨[(1, .int .i64 v1)], [(2020, .arr 3 0 0 (.ints v3))]⟩) rfl ⟨hd1, trivial⟩ rfl ?_
      have h := Option.some.inj h
      subst h
      exact Tri.out 0 rfl ⟨nofun, rfl, rfl⟩
  · intro e σ' hne hq
    obtain ⟨v4, v5⟩ := x1
    obtain ⟨rfl, rfl⟩ := hq
    refine TriX.exit (K' := [.code [] 2]) rfl ?_
    refine Tri.run 1 [] [.keep [4] [2020]] (K' := [.code [] 3]) (σ' := ⟨[(4, .int .i64 v4)], [(2020, .arr 3 0 0 (.ints v5))]⟩) rfl trivial rfl ?_
    have h := Option.some.inj h
    subst h
    exact Tri.ret rfl ⟨.inl rfl, rfl, rfl⟩
/-! laws.markGame -/
noncomputable def E28_laws_markGame : Env := ⟨Try.prog, tys, (Try.f28.body).getD .skip, 10, tysOk, mixedOk⟩
abbrev q_laws_markGame_io1 (r : Int × (List Int)) (σ' : ASt) : Prop := resAV E28_laws_markGame.T σ' Try.f28.results.toList = some (.int .i64 r.1) ∧ keepO σ'.ob (namesO [(2000, .arr 3 0 0 (.ints r.2))]) = [(2000, .arr 3 0 0 (.ints r.2))]
noncomputable def m_laws_markGame_io1 (_a0 : Int) (a1 : List Int) (a2 : Int) : Option (Int × (List Int)) :=
(m_laws_markIntS_io1 a1 a2).bind fun (v1, v2) =>
some (v1, v2)
theorem w_laws_markGame_io1 (a0 : Int) (a1 : List Int) (a2 : Int) (r : Int × (List Int)) (h : m_laws_markGame_io1 a0 a1 a2 = some r) : AM.Spec Try.prog 28 [.agg [.int .i64 a0, .sl 2000 0], .int .i64 a2] [(2000, .arr 3 0 0 (.ints a1))] (.int .i64 r.1) [(2000, .arr 3 0 0 (.ints r.2))] := by
  refine spec_of (E := E28_laws_markGame) Try.func28 rfl rfl rfl rfl ?_
  refine Tri.run 1 [] [.keep [1, 2] [2, 2000]] (K' := [.code [(1, 0)] 0, .code [] 2]) (σ' := ⟨[(1, .int .i64 a2), (2, .ptr 2 0)], [(2, .box [.int .i64 a0, .sl 2000 0]), (2000, .arr 3 0 0 (.ints a1))]⟩) rfl trivial rfl ?_
  obtain ⟨⟨v1, v2⟩, hk1, h⟩ := bind_some h
  refine Tri.run 2 [.r ⟨[2000], .int .i64 v1, [(2000, .arr 3 0 0 (.ints v2))]⟩] [.keep [4] [2000]] (K' := [.code [] 3]) (σ' := ⟨[(4, .int .i64 v1)], [(2000, .arr 3 0 0 (.ints v2))]⟩) rfl ⟨((w_laws_markIntS_io1 a1 a2 (v1, v2) hk1).swap 2020 2000), trivial⟩ rfl ?_
  have h := Option.some.inj h
  subst h
  exact Tri.ret rfl ⟨.inl rfl, rfl, rfl⟩
/-! laws.markRatS -/
noncomputable def E29_laws_markRatS : Env := ⟨Try.prog, tys, (Try.f29.body).getD .skip, 27, tysOk, mixedOk⟩
abbrev q_laws_markRatS_io1 (r : Int × (List Q)) (σ' : ASt) : Prop := resAV E29_laws_markRatS.T σ' Try.f29.results.toList = some (.int .i64 r.1) ∧ keepO σ'.ob (namesO [(2040, .arr 29 0 0 (.rats r.2))]) = [(2040, .arr 29 0 0 (.rats r.2))]
noncomputable def l_laws_markRatS_io1_0 : (Int × Int × (List Q)) → Option ((Int × Int × (List Q)) ⊕ ((Int × (List Q))))
  | (v1, v2, v3) => (
bif decide (v2 < (v3.length : Int)) then
(grd ((0 : Int) ≤ v2 ∧ v2 < (v3.length : Int)) <|
grd ((0 : Int) ≤ v2 ∧ v2 < ((v3.set v2.toNat ⟨v1, (v3.getD v2.toNat ⟨0, 0⟩).den⟩).length : Int)) <|
some (.inl (IntKind.i64.wrap ((IntKind.i64.wrap (v1 + (1 : Int))) + (1 : Int)), IntKind.i64.wrap (v2 + (1 : Int)), (v3.set v2.toNat ⟨v1, (v3.getD v2.toNat ⟨0, 0⟩).den⟩).set v2.toNat ⟨((v3.set v2.toNat ⟨v1, (v3.getD v2.toNat ⟨0, 0⟩).den⟩).getD v2.toNat ⟨0, 0⟩).num, IntKind.i64.wrap (v1 + (1 : Int))⟩)))
else
(some (.inr (v1, v3))))
noncomputable def m_laws_markRatS_io1 (a0 : List Q) (a1 : Int) : Option (Int × (List Q)) :=
(iter (l_laws_markRatS_io1_0) (a1, (0 : Int), a0)).bind fun
| (v4, v5) => (
some (v4, v5))
theorem w_laws_markRatS_io1 (a0 : List Q) (a1 : Int) (r : Int × (List Q)) (h : m_laws_markRatS_io1 a0 a1 = some r) : AM.Spec Try.prog 29 [.sl 2040 0, .int .i64 a1] [(2040, .arr 29 0 0 (.rats a0))] (.int .i64 r.1) [(2040, .arr 29 0 0 (.rats r.2))] := by
  refine spec_of (E := E29_laws_markRatS) Try.func29 rfl rfl rfl rfl ?_
  refine Tri.run 2 [] [.keep [0, 1, 5] [2040]] (K' := [.code [(1, 0), (1, 0)] 0, .blk 0, .code [] 2]) (σ' := ⟨[(0, .sl 2040 0), (1, .int .i64 a1), (5, .int .i64 (0 : Int))], [(2040, .arr 29 0 0 (.rats a0))]⟩) rfl trivial rfl ?_
  obtain ⟨x1, hk4, h⟩ := bind_some h
  refine Tri.loop (K1 := [.code [(1, 0), (1, 0), (0, 0)] 0]) (K2 := [.blk 0, .code [] 2]) (fun (v1, v2, v3) => ⟨[(0, .sl 2040 0), (1, .int .i64 v1), (5, .int .i64 v2)], [(2040, .arr 29 0 0 (.rats v3))]⟩) (fun x e σ' => match x with | (v4, v5) => e = .exit 0 ∧ σ' = ⟨[(1, .int .i64 v4)], [(2040, .arr 29 0 0 (.rats v5))]⟩) hk4 rfl rfl ?_ ?_
  · intro s x hs
    clear h
    have h := hs
    clear hs
    obtain ⟨v1, v2, v3⟩ := s
    refine Tri.run 1 [] [.keep [0, 1, 5, 9] [2040]] (K' := [.code [(1, 0), (1, 0), (0, 0), (0, 0)] 1, .code [(1, 0), (1, 0), (0, 0)] 1]) (σ' := ⟨[(0, .sl 2040 0), (1, .int .i64 v1), (5, .int .i64 v2), (9, .bool (decide (v2 < (v3.length : Int))))], [(2040, .arr 29 0 0 (.rats v3))]⟩) rfl trivial rfl ?_
    rcases bif_some h with ⟨hd1, h⟩ | ⟨hd1, h⟩
    · obtain ⟨hg2, h⟩ := grd_some h
      refine Tri.run 3 [.g true] [.keep [0, 1, 5] [2040]] (K' := [.code [(1, 0), (1, 0), (0, 0), (1, 0), (0, 0), (2, 0)] 0, .code [(1, 0), (1, 0), (0, 0), (1, 0), (0, 0)] 3, .blk 1, .code [(1, 0), (1, 0), (0, 0)] 2]) (σ' := ⟨[(0, .sl 2040 0), (1, .int .i64 (IntKind.i64.wrap (v1 + (1 : Int)))), (5, .int .i64 v2)], [(2040, .arr 29 0 0 (.rats (v3.set v2.toNat ⟨v1, (v3.getD v2.toNat ⟨0, 0⟩).den⟩)))]⟩) rfl ⟨hg2, hd1, trivial⟩ rfl ?_
      obtain ⟨hg3, h⟩ := grd_some h
      refine Tri.run 3 [] [.keep [0, 1, 5] [2040]] (K' := []) (σ' := ⟨[(0, .sl 2040 0), (1, .int .i64 (IntKind.i64.wrap ((IntKind.i64.wrap (v1 + (1 : Int))) + (1 : Int)))), (5, .int .i64 (IntKind.i64.wrap (v2 + (1 : Int))))], [(2040, .arr 29 0 0 (.rats ((v3.set v2.toNat ⟨v1, (v3.getD v2.toNat ⟨0, 0⟩).den⟩).set v2.toNat ⟨((v3.set v2.toNat ⟨v1, (v3.getD v2.toNat ⟨0, 0⟩).den⟩).getD v2.toNat ⟨0, 0⟩).num, IntKind.i64.wrap (v1 + (1 : Int))⟩)))]⟩) rfl ⟨hg3, trivial⟩ rfl ?_
      have h := Option.some.inj h
      subst h
      exact Tri.nil ⟨rfl, rfl⟩
    · refine Tri.run 1 [.g false] [.keep [1] [2040]] (K' := [.code [(1, 0), (1, 0), (0, 0), (0, 0), (1, 1)] 0, .code [(1, 0), (1, 0), (0, 0)] 1]) (σ' := ⟨[(1, .int .i64 v1)], [(2040, .arr 29 0 0 (.rats v3))]⟩) rfl ⟨hd1, trivial⟩ rfl ?_
      have h := Option.some.inj h
      subst h
      exact Tri.out 0 rfl ⟨nofun, rfl, rfl⟩
  · intro e σ' hne hq
    obtain ⟨v4, v5⟩ := x1
    obtain ⟨rfl, rfl⟩ := hq
    refine TriX.exit (K' := [.code [] 2]) rfl ?_
    refine Tri.run 1 [] [.keep [4] [2040]] (K' := [.code [] 3]) (σ' := ⟨[(4, .int .i64 v4)], [(2040, .arr 29 0 0 (.rats v5))]⟩) rfl trivial rfl ?_
    have h := Option.some.inj h
    subst h
    exact Tri.ret rfl ⟨.inl rfl, rfl, rfl⟩
/-! laws.heldRatS -/
noncomputable def E30_laws_heldRatS : Env := ⟨Try.prog, tys, (Try.f30.body).getD .skip, 31, tysOk, mixedOk⟩
abbrev q_laws_heldRatS (r : Int) (σ' : ASt) : Prop := resAV E30_laws_heldRatS.T σ' Try.f30.results.toList = some (.int .i64 r) ∧ keepO σ'.ob (namesO []) = []
noncomputable def l_laws_heldRatS_0 (a0 : List Q) : (Int × Int) → Option ((Int × Int) ⊕ (Int ⊕ Int))
  | (v1, v2) => (
bif decide (v2 < (a0.length : Int)) then
(grd ((0 : Int) ≤ v2 ∧ v2 < (a0.length : Int)) <|
bif ((a0.getD v2.toNat ⟨0, 0⟩).num) != v1 then
(some (.inr (.inr (-1 : Int))))
else
(grd ((0 : Int) ≤ v2 ∧ v2 < (a0.length : Int)) <|
bif ((a0.getD v2.toNat ⟨0, 0⟩).den) != (IntKind.i64.wrap (v1 + (1 : Int))) then
(some (.inr (.inr (-1 : Int))))
else
(some (.inl (IntKind.i64.wrap ((IntKind.i64.wrap (v1 + (1 : Int))) + (1 : Int)), IntKind.i64.wrap (v2 + (1 : Int)))))))
else
(some (.inr (.inl v1))))
noncomputable def m_laws_heldRatS (a0 : List Q) (a1 : Int) : Option Int :=
(iter (l_laws_heldRatS_0 a0) (a1, (0 : Int))).bind fun
| (.inl v3) => (
some v3)
| (.inr r) => some r
theorem w_laws_heldRatS (a0 : List Q) (a1 : Int) (r : Int) (h : m_laws_heldRatS a0 a1 = some r) : AM.Spec Try.prog 30 [.list (.rats a0), .int .i64 a1] [] (.int .i64 r) [] := by
  refine spec_of (E := E30_laws_heldRatS) Try.func30 rfl rfl rfl rfl ?_
  refine Tri.run 2 [] [.keep [0, 1, 5] []] (K' := [.code [(1, 0), (1, 0)] 0, .blk 0, .code [] 2]) (σ' := ⟨[(0, .list (.rats a0)), (1, .int .i64 a1), (5, .int .i64 (0 : Int))], []⟩) rfl trivial rfl ?_
  obtain ⟨x1, hk6, h⟩ := bind_some h
  refine Tri.loop (K1 := [.code [(1, 0), (1, 0), (0, 0)] 0]) (K2 := [.blk 0, .code [] 2]) (fun (v1, v2) => ⟨[(0, .list (.rats a0)), (1, .int .i64 v1), (5, .int .i64 v2)], []⟩) (fun x e σ' => match x with | (.inl v3) => e = .exit 0 ∧ σ' = ⟨[(1, .int .i64 v3)], []⟩ | (.inr r) => e = .ret ∧ q_laws_heldRatS r σ') hk6 rfl rfl ?_ ?_
  · intro s x hs
    clear h
    have h := hs
    clear hs
    obtain ⟨v1, v2⟩ := s
    refine Tri.run 1 [] [.keep [0, 1, 5, 9] []] (K' := [.code [(1, 0), (1, 0), (0, 0), (0, 0)] 1, .code [(1, 0), (1, 0), (0, 0)] 1]) (σ' := ⟨[(0, .list (.rats a0)), (1, .int .i64 v1), (5, .int .i64 v2), (9, .bool (decide (v2 < (a0.length : Int))))], []⟩) rfl trivial rfl ?_
    rcases bif_some h with ⟨hd1, h⟩ | ⟨hd1, h⟩
    · obtain ⟨hg2, h⟩ := grd_some h
      refine Tri.run 2 [.g true] [.keep [0, 1, 5, 18] []] (K' := [.code [(1, 0), (1, 0), (0, 0), (1, 0), (0, 0), (0, 0)] 1, .code [(1, 0), (1, 0), (0, 0), (1, 0), (0, 0)] 1, .blk 1, .code [(1, 0), (1, 0), (0, 0)] 2]) (σ' := ⟨[(0, .list (.rats a0)), (1, .int .i64 v1), (5, .int .i64 v2), (18, .bool (((a0.getD v2.toNat ⟨0, 0⟩).num) != v1))], []⟩) rfl ⟨hg2, hd1, trivial⟩ rfl ?_
      rcases bif_some h with ⟨hd3, h⟩ | ⟨hd3, h⟩
      · refine Tri.run 2 [.g true] [.keep [4] []] (K' := [.code [(1, 0), (1, 0), (0, 0), (1, 0), (0, 0), (0, 0), (1, 0)] 1, .code [(1, 0), (1, 0), (0, 0), (1, 0), (0, 0)] 1, .blk 1, .code [(1, 0), (1, 0), (0, 0)] 2]) (σ' := ⟨[(4, .int .i64 (-1 : Int))], []⟩) rfl ⟨hd3, trivial⟩ rfl ?_
        have h := Option.some.inj h
        subst h
        exact Tri.ret rfl ⟨nofun, rfl, rfl, rfl⟩
      · obtain ⟨hg4, h⟩ := grd_some h
        refine Tri.run 3 [.g false] [.keep [0, 1, 5, 27] []] (K' := [.code [(1, 0), (1, 0), (0, 0), (1, 0), (0, 0), (2, 0)] 1, .code [(1, 0), (1, 0), (0, 0), (1, 0), (0, 0)] 3, .blk 1, .code [(1, 0), (1, 0), (0, 0)] 2]) (σ' := ⟨[(0, .list (.rats a0)), (1, .int .i64 (IntKind.i64.wrap (v1 + (1 : Int)))), (5, .int .i64 v2), (27, .bool (((a0.getD v2.toNat ⟨0, 0⟩).den) != (IntKind.i64.wrap (v1 + (1 : Int)))))], []⟩) rfl ⟨hg4, hd3, trivial⟩ rfl ?_
        rcases bif_some h with ⟨hd5, h⟩ | ⟨hd5, h⟩
        · refine Tri.run 2 [.g true] [.keep [4] []] (K' := [.code [(1, 0), (1, 0), (0, 0), (1, 0), (0, 0), (2, 0), (1, 0)] 1, .code [(1, 0), (1, 0), (0, 0), (1, 0), (0, 0)] 3, .blk 1, .code [(1, 0), (1, 0), (0, 0)] 2]) (σ' := ⟨[(4, .int .i64 (-1 : Int))], []⟩) rfl ⟨hd5, trivial⟩ rfl ?_
          have h := Option.some.inj h
          subst h
          exact Tri.ret rfl ⟨nofun, rfl, rfl, rfl⟩
        · refine Tri.run 3 [.g false] [.keep [0, 1, 5] []] (K' := []) (σ' := ⟨[(0, .list (.rats a0)), (1, .int .i64 (IntKind.i64.wrap ((IntKind.i64.wrap (v1 + (1 : Int))) + (1 : Int)))), (5, .int .i64 (IntKind.i64.wrap (v2 + (1 : Int))))], []⟩) rfl ⟨hd5, trivial⟩ rfl ?_
          have h := Option.some.inj h
          subst h
          exact Tri.nil ⟨rfl, rfl⟩
    · refine Tri.run 1 [.g false] [.keep [1] []] (K' := [.code [(1, 0), (1, 0), (0, 0), (0, 0), (1, 1)] 0, .code [(1, 0), (1, 0), (0, 0)] 1]) (σ' := ⟨[(1, .int .i64 v1)], []⟩) rfl ⟨hd1, trivial⟩ rfl ?_
      have h := Option.some.inj h
      subst h
      exact Tri.out 0 rfl ⟨nofun, rfl, rfl⟩
  · intro e σ' hne hq
    rcases x1 with v3 | r
    · obtain ⟨rfl, rfl⟩ := hq
      refine TriX.exit (K' := [.code [] 2]) rfl ?_
      refine Tri.run 1 [] [.keep [4] []] (K' := [.code [] 3]) (σ' := ⟨[(4, .int .i64 v3)], []⟩) rfl trivial rfl ?_
      have h := Option.some.inj h
      subst h
      exact Tri.ret rfl ⟨.inl rfl, rfl, rfl⟩
    · obtain ⟨rfl, hq⟩ := hq
      have h := Option.some.inj h
      subst h
      exact TriX.ret ⟨.inl rfl, hq⟩
/-! laws.FnExactShapleyValue -/
noncomputable def E6_laws_FnExactShapleyValue : Env := ⟨Try.prog, tys, (Try.f6.body).getD .skip, 96, tysOk, mixedOk⟩
abbrev q_laws_FnExactShapleyValue (r : Bool) (σ' : ASt) : Prop := resAV E6_laws_FnExactShapleyValue.T σ' Try.f6.results.toList = some (.bool r) ∧ keepO σ'.ob (namesO []) = []
noncomputable def m_laws_FnExactShapleyValue (a0 : Int) (a1 : List Int) : Option Bool :=
(m_laws_szGame a0 a1 (1048576 : Int)).bind fun v1 =>
bif decide (v1 < (0 : Int)) then
(some true)
else
((m_laws_toGame a0 a1).bind fun (v2, v3) =>
(m_spec_ShapleyValue v2 v3).bind fun (v4, v5) =>
(m_laws_toGame a0 a1).bind fun (v6, v7) =>
(m_impl_ShapleyValue v6 v7).bind fun (v8, v9) =>
(m_laws_eqRatS v9 v5).bind fun v10 =>
bif !v10 then
(some false)
else
(bif v8 != v4 then
(some false)
else
((m_laws_toGame a0 a1).bind fun (v11, v12) =>
(m_laws_eqGame v6 v7 v11 v12).bind fun v13 =>
bif !v13 then
(some false)
else
((m_laws_markGame_io1 v6 v7 (1 : Int)).bind fun (v14, _) =>
bif decide (v14 < (0 : Int)) then
(some false)
else
((m_laws_eqRatS v9 v5).bind fun v16 =>
bif !v16 then
(some false)
else
(bif v8 != v4 then
(some false)
else
((m_laws_markRatS_io1 v9 (1 : Int)).bind fun (v17, v18) =>
(m_laws_heldRatS v18 (1 : Int)).bind fun v19 =>
bif decide (v19 < (0 : Int)) then
(some false)
else
(bif v19 != v17 then
(some false)
else
((m_laws_toGame a0 a1).bind fun (v20, v21) =>
(m_impl_ShapleyValue v20 v21).bind fun (v22, v23) =>
(m_laws_eqRatS v23 v5).bind fun v24 =>
bif !v24 then
(some false)
else
(bif v22 != v4 then
(some false)
else
((m_laws_heldRatS v18 (1 : Int)).bind fun v25 =>
bif decide (v25 < (0 : Int)) then
(some false)
else
(bif v25 != v17 then
(some false)
else
(some true)))))))))))))
theorem w_laws_FnExactShapleyValue (a0 : Int) (a1 : List Int) (r : Bool) (h : m_laws_FnExactShapleyValue a0 a1 = some r) : AM.Spec Try.prog 6 [.agg [.int .i64 a0, .list (.ints a1)]] [] (.bool r) [] := by
  refine spec_of (E := E6_laws_FnExactShapleyValue) Try.func6 rfl rfl rfl rfl ?_
  refine Tri.run 2 [] [.keep [1, 3] [1]] (K' := [.code [(2, 0)] 0, .code [] 3]) (σ' := ⟨[(1, .ptr 1 0), (3, .int .i64 (1048576 : Int))], [(1, .box [.int .i64 a0, .list (.ints a1)])]⟩) rfl trivial rfl ?_
  obtain ⟨v1, hk1, h⟩ := bind_some h
  refine Tri.run 2 [.r ⟨[], .int .i64 v1, []⟩] [.keep [1, 18] [1]] (K' := [.code [(3, 0)] 1, .code [] 4]) (σ' := ⟨[(1, .ptr 1 0), (18, .bool (decide (v1 < (0 : Int))))], [(1, .box [.int .i64 a0, .list (.ints a1)])]⟩) rfl ⟨(w_laws_szGame a0 a1 (1048576 : Int) v1 hk1), trivial⟩ rfl ?_
  rcases bif_some h with ⟨hd2, h⟩ | ⟨hd2, h⟩
  · refine Tri.run 2 [.g true] [.keep [2] []] (K' := [.code [(3, 0), (1, 0)] 1, .code [] 4]) (σ' := ⟨[(2, .bool true)], []⟩) rfl ⟨hd2, trivial⟩ rfl ?_
    have h := Option.some.inj h
    subst h
    exact Tri.ret rfl ⟨.inl rfl, rfl, rfl⟩
  · obtain ⟨⟨v2, v3⟩, hk3, h⟩ := bind_some h
    obtain ⟨⟨v4, v5⟩, hk4, h⟩ := bind_some h
    refine Tri.run 2 [.g false, .r ⟨[], .agg [.int .i64 v2, .sl 1100 0], [(1100, .arr 3 0 0 (.ints v3))]⟩, .r ⟨[], .tuple [.sl 1101 0, .bool v4], [(1101, .arr 29 0 0 (.rats v5))]⟩] [.keep [1, 4, 5] [1, 1101]] (K' := [.code [(5, 0)] 0, .code [] 6]) (σ' := ⟨[(1, .ptr 1 0), (4, .sl 1101 0), (5, .bool v4)], [(1, .box [.int .i64 a0, .list (.ints a1)]), (1101, .arr 29 0 0 (.rats v5))]⟩) rfl ⟨((w_spec_ShapleyValue v2 v3 (v4, v5) hk4).swap 1000 1101), ((w_laws_toGame a0 a1 (v2, v3) hk3).swap 1000 1100), hd2, trivial⟩ rfl ?_
    obtain ⟨⟨v6, v7⟩, hk5, h⟩ := bind_some h
    obtain ⟨⟨v8, v9⟩, hk6, h⟩ := bind_some h
    refine Tri.run 2 [.r ⟨[], .agg [.int .i64 v6, .sl 1102 0], [(1102, .arr 3 0 0 (.ints v7))]⟩, .r ⟨[], .tuple [.sl 1103 0, .bool v8], [(1103, .arr 29 0 0 (.rats v9))]⟩] [.keep [1, 4, 5, 6, 7, 8] [1, 6, 1101, 1102, 1103]] (K' := [.code [(7, 0), (0, 0)] 0, .code [(7, 0)] 1, .code [] 8]) (σ' := ⟨[(1, .ptr 1 0), (4, .sl 1101 0), (5, .bool v4), (6, .ptr 6 0), (7, .sl 1103 0), (8, .bool v8)], [(1, .box [.int .i64 a0, .list (.ints a1)]), (6, .box [.int .i64 v6, .sl 1102 0]), (1101, .arr 29 0 0 (.rats v5)), (1102, .arr 3 0 0 (.ints v7)), (1103, .arr 29 0 0 (.rats v9))]⟩) rfl ⟨((w_impl_ShapleyValue v6 v7 (v8, v9) hk6).swap 1000 1103), ((w_laws_toGame a0 a1 (v6, v7) hk5).swap 1000 1102), trivial⟩ rfl ?_
    obtain ⟨v10, hk7, h⟩ := bind_some h
    rcases bif_some h with ⟨hd8, h⟩ | ⟨hd8, h⟩
    · refine Tri.run 1 [.r ⟨[], .bool v10, []⟩, .g true] [.keep [1, 4, 5, 6, 7, 8, 40] [1, 6, 1101, 1102, 1103]] (K' := [.code [(7, 0)] 1, .code [] 8]) (σ' := ⟨[(1, .ptr 1 0), (4, .sl 1101 0), (5, .bool v4), (6, .ptr 6 0), (7, .sl 1103 0), (8, .bool v8), (40, .bool true)], [(1, .box [.int .i64 a0, .list (.ints a1)]), (6, .box [.int .i64 v6, .sl 1102 0]), (1101, .arr 29 0 0 (.rats v5)), (1102, .arr 3 0 0 (.ints v7)), (1103, .arr 29 0 0 (.rats v9))]⟩) rfl ⟨hd8, (w_laws_eqRatS v9 v5 v10 hk7), trivial⟩ rfl ?_
      refine Tri.run 2 [.g true] [.keep [2] []] (K' := [.code [(7, 0), (1, 0)] 1, .code [] 8]) (σ' := ⟨[(2, .bool false)], []⟩) rfl ⟨rfl, trivial⟩ rfl ?_
      have h := Option.some.inj h
      subst h
      exact Tri.ret rfl ⟨.inl rfl, rfl, rfl⟩
    · refine Tri.run 1 [.r ⟨[], .bool v10, []⟩, .g false] [.keep [1, 4, 5, 6, 7, 8, 40] [1, 6, 1101, 1102, 1103]] (K' := [.code [(7, 0)] 1, .code [] 8]) (σ' := ⟨[(1, .ptr 1 0), (4, .sl 1101 0), (5, .bool v4), (6, .ptr 6 0), (7, .sl 1103 0), (8, .bool v8), (40, .bool (v8 != v4))], [(1, .box [.int .i64 a0, .list (.ints a1)]), (6, .box [.int .i64 v6, .sl 1102 0]), (1101, .arr 29 0 0 (.rats v5)), (1102, .arr 3 0 0 (.ints v7)), (1103, .arr 29 0 0 (.rats v9))]⟩) rfl ⟨hd8, (w_laws_eqRatS v9 v5 v10 hk7), trivial⟩ rfl ?_
      rcases bif_some h with ⟨hd9, h⟩ | ⟨hd9, h⟩
      · refine Tri.run 2 [.g true] [.keep [2] []] (K' := [.code [(7, 0), (1, 0)] 1, .code [] 8]) (σ' := ⟨[(2, .bool false)], []⟩) rfl ⟨hd9, trivial⟩ rfl ?_
        have h := Option.some.inj h
        subst h
        exact Tri.ret rfl ⟨.inl rfl, rfl, rfl⟩
      · obtain ⟨⟨v11, v12⟩, hk10, h⟩ := bind_some h
        obtain ⟨v13, hk11, h⟩ := bind_some h
        refine Tri.run 2 [.g false, .r ⟨[], .agg [.int .i64 v11, .sl 1104 0], [(1104, .arr 3 0 0 (.ints v12))]⟩, .r ⟨[], .bool v13, []⟩] [.keep [1, 4, 5, 6, 7, 8, 45] [1, 6, 1101, 1102, 1103]] (K' := [.code [(8, 0)] 1, .code [] 9]) (σ' := ⟨[(1, .ptr 1 0), (4, .sl 1101 0), (5, .bool v4), (6, .ptr 6 0), (7, .sl 1103 0), (8, .bool v8), (45, .bool (!v13))], [(1, .box [.int .i64 a0, .list (.ints a1)]), (6, .box [.int .i64 v6, .sl 1102 0]), (1101, .arr 29 0 0 (.rats v5)), (1102, .arr 3 0 0 (.ints v7)), (1103, .arr 29 0 0 (.rats v9))]⟩) rfl ⟨(w_laws_eqGame v6 v7 v11 v12 v13 hk11), ((w_laws_toGame a0 a1 (v11, v12) hk10).swap 1000 1104), hd9, trivial⟩ rfl ?_
        rcases bif_some h with ⟨hd12, h⟩ | ⟨hd12, h⟩
        · refine Tri.run 2 [.g true] [.keep [2] []] (K' := [.code [(8, 0), (1, 0)] 1, .code [] 9]) (σ' := ⟨[(2, .bool false)], []⟩) rfl ⟨hd12, trivial⟩ rfl ?_
          have h := Option.some.inj h
          subst h
          exact Tri.ret rfl ⟨.inl rfl, rfl, rfl⟩
        · refine Tri.run 2 [.g false] [.keep [1, 4, 5, 6, 7, 8, 9] [1, 6, 1101, 1102, 1103]] (K' := [.code [(10, 0)] 0, .code [] 11]) (σ' := ⟨[(1, .ptr 1 0), (4, .sl 1101 0), (5, .bool v4), (6, .ptr 6 0), (7, .sl 1103 0), (8, .bool v8), (9, .int .i64 (1 : Int))], [(1, .box [.int .i64 a0, .list (.ints a1)]), (6, .box [.int .i64 v6, .sl 1102 0]), (1101, .arr 29 0 0 (.rats v5)), (1102, .arr 3 0 0 (.ints v7)), (1103, .arr 29 0 0 (.rats v9))]⟩) rfl ⟨hd12, trivial⟩ rfl ?_
          obtain ⟨⟨v14, v15⟩, hk13, h⟩ := bind_some h
          rcases bif_some h with ⟨hd14, h⟩ | ⟨hd14, h⟩
          · refine Tri.run 2 [.r ⟨[1102], .int .i64 v14, [(1102, .arr 3 0 0 (.ints v15))]⟩, .g true, .g true] [.keep [1, 4, 5, 7, 61] [1, 1101, 1103]] (K' := [.code [(11, 0)] 1, .code [] 12]) (σ' := ⟨[(1, .ptr 1 0), (4, .sl 1101 0), (5, .bool v4), (7, .sl 1103 0), (61, .bool true)], [(1, .box [.int .i64 a0, .list (.ints a1)]), (1101, .arr 29 0 0 (.rats v5)), (1103, .arr 29 0 0 (.rats v9))]⟩) rfl ⟨rfl, hd14, ((w_laws_markGame_io1 v6 v7 (1 : Int) (v14, v15) hk13).swap 2000 1102), trivial⟩ rfl ?_
            refine Tri.run 2 [.g true] [.keep [2] []] (K' := [.code [(11, 0), (1, 0)] 1, .code [] 12]) (σ' := ⟨[(2, .bool false)], []⟩) rfl ⟨rfl, trivial⟩ rfl ?_
            have h := Option.some.inj h
            subst h
            exact Tri.ret rfl ⟨.inl rfl, rfl, rfl⟩
          · obtain ⟨v16, hk15, h⟩ := bind_some h
            rcases bif_some h with ⟨hd16, h⟩ | ⟨hd16, h⟩
            · refine Tri.run 2 [.r ⟨[1102], .int .i64 v14, [(1102, .arr 3 0 0 (.ints v15))]⟩, .g false, .r ⟨[], .bool v16, []⟩, .g true] [.keep [1, 4, 5, 7, 61] [1, 1101, 1103]] (K' := [.code [(11, 0)] 1, .code [] 12]) (σ' := ⟨[(1, .ptr 1 0), (4, .sl 1101 0), (5, .bool v4), (7, .sl 1103 0), (61, .bool true)], [(1, .box [.int .i64 a0, .list (.ints a1)]), (1101, .arr 29 0 0 (.rats v5)), (1103, .arr 29 0 0 (.rats v9))]⟩) rfl ⟨hd16, (w_laws_eqRatS v9 v5 v16 hk15), hd14, ((w_laws_markGame_io1 v6 v7 (1 : Int) (v14, v15) hk13).swap 2000 1102), trivial⟩ rfl ?_
              refine Tri.run 2 [.g true] [.keep [2] []] (K' := [.code [(11, 0), (1, 0)] 1, .code [] 12]) (σ' := ⟨[(2, .bool false)], []⟩) rfl ⟨rfl, trivial⟩ rfl ?_
              have h := Option.some.inj h
              subst h
              exact Tri.ret rfl ⟨.inl rfl, rfl, rfl⟩
            · refine Tri.run 2 [.r ⟨[1102], .int .i64 v14, [(1102, .arr 3 0 0 (.ints v15))]⟩, .g false, .r ⟨[], .bool v16, []⟩, .g false] [.keep [1, 4, 5, 7, 61] [1, 1101, 1103]] (K' := [.code [(11, 0)] 1, .code [] 12]) (σ' := ⟨[(1, .ptr 1 0), (4, .sl 1101 0), (5, .bool v4), (7, .sl 1103 0), (61, .bool (v8 != v4))], [(1, .box [.int .i64 a0, .list (.ints a1)]), (1101, .arr 29 0 0 (.rats v5)), (1103, .arr 29 0 0 (.rats v9))]⟩) rfl ⟨hd16, (w_laws_eqRatS v9 v5 v16 hk15), hd14, ((w_laws_markGame_io1 v6 v7 (1 : Int) (v14, v15) hk13).swap 2000 1102), trivial⟩ rfl ?_
              rcases bif_some h with ⟨hd17, h⟩ | ⟨hd17, h⟩
              · refine Tri.run 2 [.g true] [.keep [2] []] (K' := [.code [(11, 0), (1, 0)] 1, .code [] 12]) (σ' := ⟨[(2, .bool false)], []⟩) rfl ⟨hd17, trivial⟩ rfl ?_
                have h := Option.some.inj h
                subst h
                exact Tri.ret rfl ⟨.inl rfl, rfl, rfl⟩
              · refine Tri.run 2 [.g false] [.keep [1, 4, 5, 7, 10] [1, 1101, 1103]] (K' := [.code [(13, 0)] 0, .code [] 14]) (σ' := ⟨[(1, .ptr 1 0), (4, .sl 1101 0), (5, .bool v4), (7, .sl 1103 0), (10, .int .i64 (1 : Int))], [(1, .box [.int .i64 a0, .list (.ints a1)]), (1101, .arr 29 0 0 (.rats v5)), (1103, .arr 29 0 0 (.rats v9))]⟩) rfl ⟨hd17, trivial⟩ rfl ?_
                obtain ⟨⟨v17, v18⟩, hk18, h⟩ := bind_some h
                refine Tri.run 2 [.r ⟨[1103], .int .i64 v17, [(1103, .arr 29 0 0 (.rats v18))]⟩] [.keep [1, 4, 5, 7, 10, 11] [1, 1101, 1103]] (K' := [.code [(15, 0)] 0, .code [] 16]) (σ' := ⟨[(1, .ptr 1 0), (4, .sl 1101 0), (5, .bool v4), (7, .sl 1103 0), (10, .int .i64 v17), (11, .int .i64 (1 : Int))], [(1, .box [.int .i64 a0, .list (.ints a1)]), (1101, .arr 29 0 0 (.rats v5)), (1103, .arr 29 0 0 (.rats v18))]⟩) rfl ⟨((w_laws_markRatS_io1 v9 (1 : Int) (v17, v18) hk18).swap 2040 1103), trivial⟩ rfl ?_
                obtain ⟨v19, hk19, h⟩ := bind_some h
                refine Tri.run 2 [.r ⟨[], .int .i64 v19, []⟩] [.keep [1, 4, 5, 7, 10, 11, 69] [1, 1101, 1103]] (K' := [.code [(16, 0)] 1, .code [] 17]) (σ' := ⟨[(1, .ptr 1 0), (4, .sl 1101 0), (5, .bool v4), (7, .sl 1103 0), (10, .int .i64 v17), (11, .int .i64 v19), (69, .bool (decide (v19 < (0 : Int))))], [(1, .box [.int .i64 a0, .list (.ints a1)]), (1101, .arr 29 0 0 (.rats v5)), (1103, .arr 29 0 0 (.rats v18))]⟩) rfl ⟨(w_laws_heldRatS v18 (1 : Int) v19 hk19), trivial⟩ rfl ?_
                rcases bif_some h with ⟨hd20, h⟩ | ⟨hd20, h⟩
                · refine Tri.run 2 [.g true] [.keep [2] []] (K' := [.code [(16, 0), (1, 0)] 1, .code [] 17]) (σ' := ⟨[(2, .bool false)], []⟩) rfl ⟨hd20, trivial⟩ rfl ?_
                  have h := Option.some.inj h
                  subst h
                  exact Tri.ret rfl ⟨.inl rfl, rfl, rfl⟩
                · refine Tri.run 2 [.g false] [.keep [1, 4, 5, 7, 10, 72] [1, 1101, 1103]] (K' := [.code [(17, 0)] 1, .code [] 18]) (σ' := ⟨[(1, .ptr 1 0), (4, .sl 1101 0), (5, .bool v4), (7, .sl 1103 0), (10, .int .i64 v17), (72, .bool (v19 != v17))], [(1, .box [.int .i64 a0, .list (.ints a1)]), (1101, .arr 29 0 0 (.rats v5)), (1103, .arr 29 0 0 (.rats v18))]⟩) rfl ⟨hd20, trivial⟩ rfl ?_
                  rcases bif_some h with ⟨hd21, h⟩ | ⟨hd21, h⟩
                  · refine Tri.run 2 [.g true] [.keep [2] []] (K' := [.code [(17, 0), (1, 0)] 1, .code [] 18]) (σ' := ⟨[(2, .bool false)], []⟩) rfl ⟨hd21, trivial⟩ rfl ?_
                    have h := Option.some.inj h
                    subst h
                    exact Tri.ret rfl ⟨.inl rfl, rfl, rfl⟩
                  · obtain ⟨⟨v20, v21⟩, hk22, h⟩ := bind_some h
                    obtain ⟨⟨v22, v23⟩, hk23, h⟩ := bind_some h
                    refine Tri.run 2 [.g false, .r ⟨[], .agg [.int .i64 v20, .sl 1105 0], [(1105, .arr 3 0 0 (.ints v21))]⟩, .r ⟨[], .tuple [.sl 1106 0, .bool v22], [(1106, .arr 29 0 0 (.rats v23))]⟩] [.keep [4, 5, 7, 10, 12, 13] [1101, 1103, 1106]] (K' := [.code [(19, 0), (0, 0)] 0, .code [(19, 0)] 1, .code [] 20]) (σ' := ⟨[(4, .sl 1101 0), (5, .bool v4), (7, .sl 1103 0), (10, .int .i64 v17), (12, .sl 1106 0), (13, .bool v22)], [(1101, .arr 29 0 0 (.rats v5)), (1103, .arr 29 0 0 (.rats v18)), (1106, .arr 29 0 0 (.rats v23))]⟩) rfl ⟨((w_impl_ShapleyValue v20 v21 (v22, v23) hk23).swap 1000 1106), ((w_laws_toGame a0 a1 (v20, v21) hk22).swap 1000 1105), hd21, trivial⟩ rfl ?_
                    obtain ⟨v24, hk24, h⟩ := bind_some h
                    rcases bif_some h with ⟨hd25, h⟩ | ⟨hd25, h⟩
                    · refine Tri.run 1 [.r ⟨[], .bool v24, []⟩, .g true] [.keep [7, 10, 87] [1103]] (K' := [.code [(19, 0)] 1, .code [] 20]) (σ' := ⟨[(7, .sl 1103 0), (10, .int .i64 v17), (87, .bool true)], [(1103, .arr 29 0 0 (.rats v18))]⟩) rfl ⟨hd25, (w_laws_eqRatS v23 v5 v24 hk24), trivial⟩ rfl ?_
                      refine Tri.run 2 [.g true] [.keep [2] []] (K' := [.code [(19, 0), (1, 0)] 1, .code [] 20]) (σ' := ⟨[(2, .bool false)], []⟩) rfl ⟨rfl, trivial⟩ rfl ?_
                      have h := Option.some.inj h
                      subst h
                      exact Tri.ret rfl ⟨.inl rfl, rfl, rfl⟩
                    · refine Tri.run 1 [.r ⟨[], .bool v24, []⟩, .g false] [.keep [7, 10, 87] [1103]] (K' := [.code [(19, 0)] 1, .code [] 20]) (σ' := ⟨[(7, .sl 1103 0), (10, .int .i64 v17), (87, .bool (v22 != v4))], [(1103, .arr 29 0 0 (.rats v18))]⟩) rfl ⟨hd25, (w_laws_eqRatS v23 v5 v24 hk24), trivial⟩ rfl ?_
                      rcases bif_some h with ⟨hd26, h⟩ | ⟨hd26, h⟩
                      · refine Tri.run 2 [.g true] [.keep [2] []] (K' := [.code [(19, 0), (1, 0)] 1, .code [] 20]) (σ' := ⟨[(2, .bool false)], []⟩) rfl ⟨hd26, trivial⟩ rfl ?_
                        have h := Option.some.inj h
                        subst h
                        exact Tri.ret rfl ⟨.inl rfl, rfl, rfl⟩
                      · refine Tri.run 2 [.g false] [.keep [7, 10, 11] [1103]] (K' := [.code [(21, 0)] 0, .code [] 22]) (σ' := ⟨[(7, .sl 1103 0), (10, .int .i64 v17), (11, .int .i64 (1 : Int))], [(1103, .arr 29 0 0 (.rats v18))]⟩) rfl ⟨hd26, trivial⟩ rfl ?_
                        obtain ⟨v25, hk27, h⟩ := bind_some h
                        refine Tri.run 2 [.r ⟨[], .int .i64 v25, []⟩] [.keep [10, 11, 92] []] (K' := [.code [(22, 0)] 1, .code [] 23]) (σ' := ⟨[(10, .int .i64 v17), (11, .int .i64 v25), (92, .bool (decide (v25 < (0 : Int))))], []⟩) rfl ⟨(w_laws_heldRatS v18 (1 : Int) v25 hk27), trivial⟩ rfl ?_
                        rcases bif_some h with ⟨hd28, h⟩ | ⟨hd28, h⟩
                        · refine Tri.run 2 [.g true] [.keep [2] []] (K' := [.code [(22, 0), (1, 0)] 1, .code [] 23]) (σ' := ⟨[(2, .bool false)], []⟩) rfl ⟨hd28, trivial⟩ rfl ?_
                          have h := Option.some.inj h
                          subst h
                          exact Tri.ret rfl ⟨.inl rfl, rfl, rfl⟩
                        · refine Tri.run 2 [.g false] [.keep [95] []] (K' := [.code [(23, 0)] 1, .code [] 24]) (σ' := ⟨[(95, .bool (v25 != v17))], []⟩) rfl ⟨hd28, trivial⟩ rfl ?_
                          rcases bif_some h with ⟨hd29, h⟩ | ⟨hd29, h⟩
                          · refine Tri.run 2 [.g true] [.keep [2] []] (K' := [.code [(23, 0), (1, 0)] 1, .code [] 24]) (σ' := ⟨[(2, .bool false)], []⟩) rfl ⟨hd29, trivial⟩ rfl ?_
                            have h := Option.some.inj h
                            subst h
                            exact Tri.ret rfl ⟨.inl rfl, rfl, rfl⟩
                          · refine Tri.run 2 [.g false] [.keep [2] []] (K' := [.code [] 25]) (σ' := ⟨[(2, .bool true)], []⟩) rfl ⟨hd29, trivial⟩ rfl ?_
                            have h := Option.some.inj h
                            subst h
                            exact Tri.ret rfl ⟨.inl rfl, rfl, rfl⟩
end Go.Proofs.Ytoefgmmmcpikfaa
