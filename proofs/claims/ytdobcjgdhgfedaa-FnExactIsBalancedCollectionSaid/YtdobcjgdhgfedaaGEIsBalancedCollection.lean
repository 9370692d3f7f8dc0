/- models and walks -/
import Derived.Test.YtdobcjgdhgfedaaProg
import Derived.Test.YtdobcjgdhgfedaaAmB
namespace Go.Proofs.Ytdobcjgdhgfedaa
open Go.AM
set_option maxRecDepth 100000
set_option maxHeartbeats 4000000
noncomputable def tys : TEnv := [(3, .int .i64),
  (4, .bool),
  (22, .slice 3 (.ints [])),
  (42, .slice 78 (.rats [])),
  (45, .struct [(0, 3), (1, 3)] [.int .i64 0, .int .i64 0] true),
  (48, .slice 45 (.rats [])),
  (55, .slice 22 (.intss [])),
  (78, .struct [(0, 3), (1, 3)] [.int .i64 0, .int .i64 0] true)]
theorem tysOk : TOk Try.prog tys := tok_of (by kernel_rfl)
theorem mixedOk : Try.prog.follows .mixedOrders = true := by kernel_rfl
/-! laws.szRatS -/
noncomputable def E39_laws_szRatS : Env := ⟨Try.prog, tys, (Try.f39.body).getD .skip, 12, tysOk, mixedOk⟩
abbrev q_laws_szRatS (r : Int) (σ' : ASt) : Prop := resAV E39_laws_szRatS.T σ' Try.f39.results.toList = some (.int .i64 r) ∧ keepO σ'.ob (namesO []) = []
noncomputable def m_laws_szRatS (a0 : List Q) (a1 : Int) : Option Int :=
bif decide ((IntKind.i64.wrap (a1 - (a0.length : Int))) < (0 : Int)) then
(some (-1 : Int))
else
(some (IntKind.i64.wrap (a1 - (a0.length : Int))))
theorem w_laws_szRatS (a0 : List Q) (a1 : Int) (r : Int) (h : m_laws_szRatS a0 a1 = some r) : AM.Spec Try.prog 39 [.list (.rats a0), .int .i64 a1] [] (.int .i64 r) [] := by
  refine spec_of (E := E39_laws_szRatS) Try.func39 rfl rfl rfl rfl ?_
  refine Tri.run 3 [] [.keep [1, 10] []] (K' := [.code [(2, 0)] 1, .code [] 3]) (σ' := ⟨[(1, .int .i64 (IntKind.i64.wrap (a1 - (a0.length : Int)))), (10, .bool (decide ((IntKind.i64.wrap (a1 - (a0.length : Int))) < (0 : Int))))], []⟩) rfl trivial rfl ?_
  rcases bif_some h with ⟨hd1, h⟩ | ⟨hd1, h⟩
  · refine Tri.run 2 [.g true] [.keep [4] []] (K' := [.code [(2, 0), (1, 0)] 1, .code [] 3]) (σ' := ⟨[(4, .int .i64 (-1 : Int))], []⟩) rfl ⟨hd1, trivial⟩ rfl ?_
    have h := Option.some.inj h
    subst h
    exact Tri.ret rfl ⟨.inl rfl, rfl, rfl⟩
  · refine Tri.run 2 [.g false] [.keep [4] []] (K' := [.code [] 4]) (σ' := ⟨[(4, .int .i64 (IntKind.i64.wrap (a1 - (a0.length : Int))))], []⟩) rfl ⟨hd1, trivial⟩ rfl ?_
    have h := Option.some.inj h
    subst h
    exact Tri.ret rfl ⟨.inl rfl, rfl, rfl⟩
/-! laws.toRat -/
noncomputable def E80_laws_toRat : Env := ⟨Try.prog, tys, (Try.f80.body).getD .skip, 11, tysOk, mixedOk⟩
abbrev q_laws_toRat (r : Int × Int) (σ' : ASt) : Prop := resAV E80_laws_toRat.T σ' Try.f80.results.toList = some (.agg [.int .i64 r.1, .int .i64 r.2]) ∧ keepO σ'.ob (namesO []) = []
noncomputable def m_laws_toRat (a0 : Int) (a1 : Int) : Option (Int × Int) :=
some (a0, a1)
theorem w_laws_toRat (a0 : Int) (a1 : Int) (r : Int × Int) (h : m_laws_toRat a0 a1 = some r) : AM.Spec Try.prog 80 [.agg [.int .i64 a0, .int .i64 a1]] [] (.agg [.int .i64 r.1, .int .i64 r.2]) [] := by
  refine spec_of (E := E80_laws_toRat) Try.func80 rfl rfl rfl rfl ?_
  refine Tri.run 3 [] [.keep [1, 2, 3] [1, 2, 3]] (K' := [.code [(3, 0)] 0, .code [] 4]) (σ' := ⟨[(1, .ptr 1 0), (2, .ptr 2 0), (3, .ptr 3 0)], [(1, .box [.int .i64 a0, .int .i64 a1]), (2, .box [.int .i64 0, .int .i64 0]), (3, .box [.int .i64 a0, .int .i64 0])]⟩) rfl trivial rfl ?_
  refine Tri.run 2 [] [.keep [2] [2]] (K' := [.code [] 5]) (σ' := ⟨[(2, .ptr 2 0)], [(2, .box [.int .i64 a0, .int .i64 a1])]⟩) rfl trivial rfl ?_
  have h := Option.some.inj h
  subst h
  exact Tri.ret rfl ⟨.inl rfl, rfl, rfl⟩
/-! laws.toRatS -/
noncomputable def E41_laws_toRatS : Env := ⟨Try.prog, tys, (Try.f41.body).getD .skip, 23, tysOk, mixedOk⟩
abbrev q_laws_toRatS (r : List Q) (σ' : ASt) : Prop := resAV E41_laws_toRatS.T σ' Try.f41.results.toList = some (.sl 1000 0) ∧ keepO σ'.ob (namesO [(1000, .arr 45 0 0 (.rats r))]) = [(1000, .arr 45 0 0 (.rats r))]
noncomputable def l_laws_toRatS_0 (a0 : List Q) : (Int × (List Q)) → Option ((Int × (List Q)) ⊕ ((List Q)))
  | (v1, v2) => (
bif decide (v1 < (a0.length : Int)) then
(grd ((0 : Int) ≤ v1 ∧ v1 < (a0.length : Int)) <|
(m_laws_toRat ((a0.getD v1.toNat ⟨0, 0⟩).num) ((a0.getD v1.toNat ⟨0, 0⟩).den)).bind fun (v3, v4) =>
grd ((0 : Int) ≤ v1 ∧ v1 < (v2.length : Int)) <|
some (.inl (IntKind.i64.wrap (v1 + (1 : Int)), v2.set v1.toNat ⟨v3, v4⟩)))
else
(some (.inr v2)))
noncomputable def m_laws_toRatS (a0 : List Q) : Option (List Q) :=
grd ((0 : Int) ≤ (a0.length : Int) ∧ (a0.length : Int) = (a0.length : Int) ∧ (a0.length : Int) ≤ (room : Int)) <|
(iter (l_laws_toRatS_0 a0) ((0 : Int), List.replicate (a0.length : Int).toNat (⟨0, 0⟩ : Q))).bind fun
| v5 => (
some v5)
theorem w_laws_toRatS (a0 : List Q) (r : List Q) (h : m_laws_toRatS a0 = some r) : AM.Spec Try.prog 41 [.list (.rats a0)] [] (.sl 1000 0) [(1000, .arr 45 0 0 (.rats r))] := by
  refine spec_of (E := E41_laws_toRatS) Try.func41 rfl rfl rfl rfl ?_
  obtain ⟨hg1, h⟩ := grd_some h
  refine Tri.run 3 [] [.keep [0, 3, 4] [7]] (K' := [.code [(2, 0), (1, 0)] 0, .blk 0, .code [] 3]) (σ' := ⟨[(0, .list (.rats a0)), (3, .sl 7 0), (4, .int .i64 (0 : Int))], [(7, .arr 45 0 0 (.rats (List.replicate (a0.length : Int).toNat (⟨0, 0⟩ : Q))))]⟩) rfl ⟨hg1, trivial⟩ rfl ?_
  obtain ⟨v5, hk6, h⟩ := bind_some h
  refine Tri.loop (K1 := [.code [(2, 0), (1, 0), (0, 0)] 0]) (K2 := [.blk 0, .code [] 3]) (fun (v1, v2) => ⟨[(0, .list (.rats a0)), (3, .sl 7 0), (4, .int .i64 v1)], [(7, .arr 45 0 0 (.rats v2))]⟩) (fun x e σ' => match x with | v5 => e = .exit 0 ∧ σ' = ⟨[(3, .sl 7 0)], [(7, .arr 45 0 0 (.rats v5))]⟩) hk6 rfl rfl ?_ ?_
  · intro s x hs
    clear h
    have h := hs
    clear hs
    obtain ⟨v1, v2⟩ := s
    refine Tri.run 1 [] [.keep [0, 3, 4, 11] [7]] (K' := [.code [(2, 0), (1, 0), (0, 0), (0, 0)] 1, .code [(2, 0), (1, 0), (0, 0)] 1]) (σ' := ⟨[(0, .list (.rats a0)), (3, .sl 7 0), (4, .int .i64 v1), (11, .bool (decide (v1 < (a0.length : Int))))], [(7, .arr 45 0 0 (.rats v2))]⟩) rfl trivial rfl ?_
    rcases bif_some h with ⟨hd2, h⟩ | ⟨hd2, h⟩
    · obtain ⟨hg3, h⟩ := grd_some h
      obtain ⟨⟨v3, v4⟩, hk4, h⟩ := bind_some h
      obtain ⟨hg5, h⟩ := grd_some h
      refine Tri.run 3 [.g true, .r ⟨[], .agg [.int .i64 v3, .int .i64 v4], []⟩] [.keep [0, 3, 4] [7]] (K' := []) (σ' := ⟨[(0, .list (.rats a0)), (3, .sl 7 0), (4, .int .i64 (IntKind.i64.wrap (v1 + (1 : Int))))], [(7, .arr 45 0 0 (.rats (v2.set v1.toNat ⟨v3, v4⟩)))]⟩) rfl ⟨hg5, (w_laws_toRat ((a0.getD v1.toNat ⟨0, 0⟩).num) ((a0.getD v1.toNat ⟨0, 0⟩).den) (v3, v4) hk4), hg3, hd2, trivial⟩ rfl ?_
      have h := Option.some.inj h
      subst h
      exact Tri.nil ⟨rfl, rfl⟩
    · refine Tri.run 1 [.g false] [.keep [3] [7]] (K' := [.code [(2, 0), (1, 0), (0, 0), (0, 0), (1, 1)] 0, .code [(2, 0), (1, 0), (0, 0)] 1]) (σ' := ⟨[(3, .sl 7 0)], [(7, .arr 45 0 0 (.rats v2))]⟩) rfl ⟨hd2, trivial⟩ rfl ?_
      have h := Option.some.inj h
      subst h
      exact Tri.out 0 rfl ⟨nofun, rfl, rfl⟩
  · intro e σ' hne hq
    obtain ⟨rfl, rfl⟩ := hq
    refine TriX.exit (K' := [.code [] 3]) rfl ?_
    refine Tri.run 1 [] [.swap 7 1000, .keep [2] [1000]] (K' := [.code [] 4]) (σ' := ⟨[(2, .sl 1000 0)], [(1000, .arr 45 0 0 (.rats v5))]⟩) rfl trivial rfl ?_
    have h := Option.some.inj h
    subst h
    exact Tri.ret rfl ⟨.inl rfl, rfl, rfl⟩
/-! spec.l1In -/
noncomputable def E62_spec_l1In : Env := ⟨Try.prog, tys, (Try.f62.body).getD .skip, 15, tysOk, mixedOk⟩
abbrev q_spec_l1In (r : Bool) (σ' : ASt) : Prop := resAV E62_spec_l1In.T σ' Try.f62.results.toList = some (.bool r) ∧ keepO σ'.ob (namesO []) = []
noncomputable def m_spec_l1In (a0 : Int) (a1 : Int) (a2 : Int) : Option Bool :=
bif decide (a0 ≥ a1) then
(some (decide (a0 ≤ a2)))
else
(some false)
theorem w_spec_l1In (a0 : Int) (a1 : Int) (a2 : Int) (r : Bool) (h : m_spec_l1In a0 a1 a2 = some r) : AM.Spec Try.prog 62 [.int .i64 a0, .int .i64 a1, .int .i64 a2] [] (.bool r) [] := by
  refine spec_of (E := E62_spec_l1In) Try.func62 rfl rfl rfl rfl ?_
  refine Tri.run 1 [] [.keep [0, 1, 2] []] (K' := [.code [(1, 0)] 0, .code [] 2]) (σ' := ⟨[(0, .int .i64 a0), (1, .int .i64 a1), (2, .int .i64 a2)], []⟩) rfl trivial rfl ?_
  rcases bif_some h with ⟨hd1, h⟩ | ⟨hd1, h⟩
  · refine Tri.run 1 [.g true] [.keep [6] []] (K' := [.code [] 2]) (σ' := ⟨[(6, .bool (decide (a0 ≤ a2)))], []⟩) rfl ⟨hd1, trivial⟩ rfl ?_
    have h := Option.some.inj h
    subst h
    exact Tri.ret rfl ⟨.inl rfl, rfl, rfl⟩
  · refine Tri.run 1 [.g false] [.keep [6] []] (K' := [.code [] 2]) (σ' := ⟨[(6, .bool false)], []⟩) rfl ⟨hd1, trivial⟩ rfl ?_
    have h := Option.some.inj h
    subst h
    exact Tri.ret rfl ⟨.inl rfl, rfl, rfl⟩
/-! spec.CountCoalitions -/
noncomputable def E63_spec_CountCoalitions : Env := ⟨Try.prog, tys, (Try.f63.body).getD .skip, 16, tysOk, mixedOk⟩
abbrev q_spec_CountCoalitions (r : Int) (σ' : ASt) : Prop := resAV E63_spec_CountCoalitions.T σ' Try.f63.results.toList = some (.int .i64 r) ∧ keepO σ'.ob (namesO []) = []
noncomputable def l_spec_CountCoalitions_0 (a0 : Int) : (Int × Int) → Option ((Int × Int) ⊕ Int)
  | (v2, v3) => (
bif decide (v3 < a0) then
(some (.inl (IntKind.i64.wrap (v2 * (2 : Int)), IntKind.i64.wrap (v3 + (1 : Int)))))
else
(some (.inr v2)))
noncomputable def m_spec_CountCoalitions (a0 : Int) : Option Int :=
(m_spec_l1In a0 (0 : Int) (5 : Int)).bind fun v1 =>
bif !v1 then
(some (0 : Int))
else
((iter (l_spec_CountCoalitions_0 a0) ((1 : Int), (0 : Int))).bind fun
| v4 => (
some v4))
theorem w_spec_CountCoalitions (a0 : Int) (r : Int) (h : m_spec_CountCoalitions a0 = some r) : AM.Spec Try.prog 63 [.int .i64 a0] [] (.int .i64 r) [] := by
  refine spec_of (E := E63_spec_CountCoalitions) Try.func63 rfl rfl rfl rfl ?_
  refine Tri.run 1 [] [.keep [0] []] (K' := [.code [(1, 0), (0, 0)] 0, .code [(1, 0)] 1, .code [] 2]) (σ' := ⟨[(0, .int .i64 a0)], []⟩) rfl trivial rfl ?_
  obtain ⟨v1, hk1, h⟩ := bind_some h
  refine Tri.run 1 [.r ⟨[], .bool v1, []⟩] [.keep [0, 7] []] (K' := [.code [(1, 0)] 1, .code [] 2]) (σ' := ⟨[(0, .int .i64 a0), (7, .bool (!v1))], []⟩) rfl ⟨(w_spec_l1In a0 (0 : Int) (5 : Int) v1 hk1), trivial⟩ rfl ?_
  rcases bif_some h with ⟨hd2, h⟩ | ⟨hd2, h⟩
  · refine Tri.run 2 [.g true] [.keep [2] []] (K' := [.code [(1, 0), (1, 0)] 1, .code [] 2]) (σ' := ⟨[(2, .int .i64 (0 : Int))], []⟩) rfl ⟨hd2, trivial⟩ rfl ?_
    have h := Option.some.inj h
    subst h
    exact Tri.ret rfl ⟨.inl rfl, rfl, rfl⟩
  · refine Tri.run 3 [.g false] [.keep [0, 3, 4] []] (K' := [.code [(3, 0), (1, 0)] 0, .blk 0, .code [] 4]) (σ' := ⟨[(0, .int .i64 a0), (3, .int .i64 (1 : Int)), (4, .int .i64 (0 : Int))], []⟩) rfl ⟨hd2, trivial⟩ rfl ?_
    obtain ⟨v4, hk4, h⟩ := bind_some h
    refine Tri.loop (K1 := [.code [(3, 0), (1, 0), (0, 0)] 0]) (K2 := [.blk 0, .code [] 4]) (fun (v2, v3) => ⟨[(0, .int .i64 a0), (3, .int .i64 v2), (4, .int .i64 v3)], []⟩) (fun x e σ' => match x with | v4 => e = .exit 0 ∧ σ' = ⟨[(3, .int .i64 v4)], []⟩) hk4 rfl rfl ?_ ?_
    · intro s x hs
      clear h
      have h := hs
      clear hs
      obtain ⟨v2, v3⟩ := s
      refine Tri.run 1 [] [.keep [0, 3, 4, 10] []] (K' := [.code [(3, 0), (1, 0), (0, 0), (0, 0)] 1, .code [(3, 0), (1, 0), (0, 0)] 1]) (σ' := ⟨[(0, .int .i64 a0), (3, .int .i64 v2), (4, .int .i64 v3), (10, .bool (decide (v3 < a0)))], []⟩) rfl trivial rfl ?_
      rcases bif_some h with ⟨hd3, h⟩ | ⟨hd3, h⟩
      · refine Tri.run 3 [.g true] [.keep [0, 3, 4] []] (K' := []) (σ' := ⟨[(0, .int .i64 a0), (3, .int .i64 (IntKind.i64.wrap (v2 * (2 : Int)))), (4, .int .i64 (IntKind.i64.wrap (v3 + (1 : Int))))], []⟩) rfl ⟨hd3, trivial⟩ rfl ?_
        have h := Option.some.inj h
        subst h
        exact Tri.nil ⟨rfl, rfl⟩
      · refine Tri.run 1 [.g false] [.keep [3] []] (K' := [.code [(3, 0), (1, 0), (0, 0), (0, 0), (1, 1)] 0, .code [(3, 0), (1, 0), (0, 0)] 1]) (σ' := ⟨[(3, .int .i64 v2)], []⟩) rfl ⟨hd3, trivial⟩ rfl ?_
        have h := Option.some.inj h
        subst h
        exact Tri.out 0 rfl ⟨nofun, rfl, rfl⟩
    · intro e σ' hne hq
      obtain ⟨rfl, rfl⟩ := hq
      refine TriX.exit (K' := [.code [] 4]) rfl ?_
      refine Tri.run 1 [] [.keep [2] []] (K' := [.code [] 5]) (σ' := ⟨[(2, .int .i64 v4)], []⟩) rfl trivial rfl ?_
      have h := Option.some.inj h
      subst h
      exact Tri.ret rfl ⟨.inl rfl, rfl, rfl⟩
/-! spec.l3Gcd -/
noncomputable def E118_spec_l3Gcd : Env := ⟨Try.prog, tys, (Try.f118.body).getD .skip, 22, tysOk, mixedOk⟩
abbrev q_spec_l3Gcd (r : Int) (σ' : ASt) : Prop := resAV E118_spec_l3Gcd.T σ' Try.f118.results.toList = some (.int .i64 r) ∧ keepO σ'.ob (namesO []) = []
noncomputable def l_spec_l3Gcd_0 : (Int × Int) → Option ((Int × Int) ⊕ Int)
  | (v1, v2) => (
bif decide (v2 > (0 : Int)) then
(grd (v2 ≠ 0) <|
some (.inl (v2, v1.tmod v2)))
else
(some (.inr v1)))
noncomputable def l_spec_l3Gcd_1 : (Int × Int) → Option ((Int × Int) ⊕ Int)
  | (v4, v5) => (
bif decide (v5 > (0 : Int)) then
(grd (v5 ≠ 0) <|
some (.inl (v5, v4.tmod v5)))
else
(some (.inr v4)))
noncomputable def l_spec_l3Gcd_2 : (Int × Int) → Option ((Int × Int) ⊕ Int)
  | (v7, v8) => (
bif decide (v8 > (0 : Int)) then
(grd (v8 ≠ 0) <|
some (.inl (v8, v7.tmod v8)))
else
(some (.inr v7)))
noncomputable def l_spec_l3Gcd_3 : (Int × Int) → Option ((Int × Int) ⊕ Int)
  | (v10, v11) => (
bif decide (v11 > (0 : Int)) then
(grd (v11 ≠ 0) <|
some (.inl (v11, v10.tmod v11)))
else
(some (.inr v10)))
noncomputable def m_spec_l3Gcd (a0 : Int) (a1 : Int) : Option Int :=
bif decide (a0 < (0 : Int)) then
(bif decide (a1 < (0 : Int)) then
((iter (l_spec_l3Gcd_0) (IntKind.i64.wrap (0 - a0), IntKind.i64.wrap (0 - a1))).bind fun
| v3 => (
some v3))
else
((iter (l_spec_l3Gcd_1) (IntKind.i64.wrap (0 - a0), a1)).bind fun
| v6 => (
some v6)))
else
(bif decide (a1 < (0 : Int)) then
((iter (l_spec_l3Gcd_2) (a0, IntKind.i64.wrap (0 - a1))).bind fun
| v9 => (
some v9))
else
((iter (l_spec_l3Gcd_3) (a0, a1)).bind fun
| v12 => (
some v12)))
theorem w_spec_l3Gcd (a0 : Int) (a1 : Int) (r : Int) (h : m_spec_l3Gcd a0 a1 = some r) : AM.Spec Try.prog 118 [.int .i64 a0, .int .i64 a1] [] (.int .i64 r) [] := by
  refine spec_of (E := E118_spec_l3Gcd) Try.func118 rfl rfl rfl rfl ?_
  refine Tri.run 2 [] [.keep [0, 1, 7] []] (K' := [.code [(1, 0)] 1, .code [] 2]) (σ' := ⟨[(0, .int .i64 a0), (1, .int .i64 a1), (7, .bool (decide (a0 < (0 : Int))))], []⟩) rfl trivial rfl ?_
  rcases bif_some h with ⟨hd1, h⟩ | ⟨hd1, h⟩
  · refine Tri.run 3 [.g true] [.keep [0, 1, 11] []] (K' := [.code [(2, 0)] 1, .code [] 3]) (σ' := ⟨[(0, .int .i64 (IntKind.i64.wrap (0 - a0))), (1, .int .i64 a1), (11, .bool (decide (a1 < (0 : Int))))], []⟩) rfl ⟨hd1, trivial⟩ rfl ?_
    rcases bif_some h with ⟨hd2, h⟩ | ⟨hd2, h⟩
    · refine Tri.run 2 [.g true] [.keep [0, 1] []] (K' := [.code [(3, 0), (0, 0)] 0, .blk 0, .code [] 4]) (σ' := ⟨[(0, .int .i64 (IntKind.i64.wrap (0 - a0))), (1, .int .i64 (IntKind.i64.wrap (0 - a1)))], []⟩) rfl ⟨hd2, trivial⟩ rfl ?_
      obtain ⟨v3, hk5, h⟩ := bind_some h
      refine Tri.loop (K1 := [.code [(3, 0), (0, 0), (0, 0)] 0]) (K2 := [.blk 0, .code [] 4]) (fun (v1, v2) => ⟨[(0, .int .i64 v1), (1, .int .i64 v2)], []⟩) (fun x e σ' => match x with | v3 => e = .exit 0 ∧ σ' = ⟨[(0, .int .i64 v3)], []⟩) hk5 rfl rfl ?_ ?_
      · intro s x hs
        clear h
        have h := hs
        clear hs
        obtain ⟨v1, v2⟩ := s
        refine Tri.run 1 [] [.keep [0, 1, 15] []] (K' := [.code [(3, 0), (0, 0), (0, 0), (0, 0)] 1, .code [(3, 0), (0, 0), (0, 0)] 1]) (σ' := ⟨[(0, .int .i64 v1), (1, .int .i64 v2), (15, .bool (decide (v2 > (0 : Int))))], []⟩) rfl trivial rfl ?_
        rcases bif_some h with ⟨hd3, h⟩ | ⟨hd3, h⟩
        · obtain ⟨hg4, h⟩ := grd_some h
          refine Tri.run 3 [.g true] [.keep [0, 5] []] (K' := [.code [(3, 0), (0, 0), (0, 0), (1, 0)] 2, .blk 1]) (σ' := ⟨[(0, .int .i64 v2), (5, .int .i64 (v1.tmod v2))], []⟩) rfl ⟨hg4, hd3, trivial⟩ rfl ?_
          refine Tri.run 1 [] [.keep [0, 1] []] (K' := []) (σ' := ⟨[(0, .int .i64 v2), (1, .int .i64 (v1.tmod v2))], []⟩) rfl trivial rfl ?_
          have h := Option.some.inj h
          subst h
          exact Tri.nil ⟨rfl, rfl⟩
        · refine Tri.run 1 [.g false] [.keep [0] []] (K' := [.code [(3, 0), (0, 0), (0, 0), (0, 0), (1, 1)] 0, .code [(3, 0), (0, 0), (0, 0)] 1]) (σ' := ⟨[(0, .int .i64 v1)], []⟩) rfl ⟨hd3, trivial⟩ rfl ?_
          have h := Option.some.inj h
          subst h
          exact Tri.out 0 rfl ⟨nofun, rfl, rfl⟩
      · intro e σ' hne hq
        obtain ⟨rfl, rfl⟩ := hq
        refine TriX.exit (K' := [.code [] 4]) rfl ?_
        refine Tri.run 1 [] [.keep [4] []] (K' := [.code [] 5]) (σ' := ⟨[(4, .int .i64 v3)], []⟩) rfl trivial rfl ?_
        have h := Option.some.inj h
        subst h
        exact Tri.ret rfl ⟨.inl rfl, rfl, rfl⟩
    · refine Tri.run 1 [.g false] [.keep [0, 1] []] (K' := [.code [(3, 0), (0, 0)] 0, .blk 0, .code [] 4]) (σ' := ⟨[(0, .int .i64 (IntKind.i64.wrap (0 - a0))), (1, .int .i64 a1)], []⟩) rfl ⟨hd2, trivial⟩ rfl ?_
      obtain ⟨v6, hk8, h⟩ := bind_some h
      refine Tri.loop (K1 := [.code [(3, 0), (0, 0), (0, 0)] 0]) (K2 := [.blk 0, .code [] 4]) (fun (v4, v5) => ⟨[(0, .int .i64 v4), (1, .int .i64 v5)], []⟩) (fun x e σ' => match x with | v6 => e = .exit 0 ∧ σ' = ⟨[(0, .int .i64 v6)], []⟩) hk8 rfl rfl ?_ ?_
      · intro s x hs
        clear h
        have h := hs
        clear hs
        obtain ⟨v4, v5⟩ := s
        refine Tri.run 1 [] [.keep [0, 1, 15] []] (K' := [.code [(3, 0), (0, 0), (0, 0), (0, 0)] 1, .code [(3, 0), (0, 0), (0, 0)] 1]) (σ' := ⟨[(0, .int .i64 v4), (1, .int .i64 v5), (15, .bool (decide (v5 > (0 : Int))))], []⟩) rfl trivial rfl ?_
        rcases bif_some h with ⟨hd6, h⟩ | ⟨hd6, h⟩
        · obtain ⟨hg7, h⟩ := grd_some h
          refine Tri.run 3 [.g true] [.keep [0, 5] []] (K' := [.code [(3, 0), (0, 0), (0, 0), (1, 0)] 2, .blk 1]) (σ' := ⟨[(0, .int .i64 v5), (5, .int .i64 (v4.tmod v5))], []⟩) rfl ⟨hg7, hd6, trivial⟩ rfl ?_
          refine Tri.run 1 [] [.keep [0, 1] []] (K' := []) (σ' := ⟨[(0, .int .i64 v5), (1, .int .i64 (v4.tmod v5))], []⟩) rfl trivial rfl ?_
          have h := Option.some.inj h
          subst h
          exact Tri.nil ⟨rfl, rfl⟩
        · refine Tri.run 1 [.g false] [.keep [0] []] (K' := [.code [(3, 0), (0, 0), (0, 0), (0, 0), (1, 1)] 0, .code [(3, 0), (0, 0), (0, 0)] 1]) (σ' := ⟨[(0, .int .i64 v4)], []⟩) rfl ⟨hd6, trivial⟩ rfl ?_
          have h := Option.some.inj h
          subst h
          exact Tri.out 0 rfl ⟨nofun, rfl, rfl⟩
      · intro e σ' hne hq
        obtain ⟨rfl, rfl⟩ := hq
        refine TriX.exit (K' := [.code [] 4]) rfl ?_
        refine Tri.run 1 [] [.keep [4] []] (K' := [.code [] 5]) (σ' := ⟨[(4, .int .i64 v6)], []⟩) rfl trivial rfl ?_
        have h := Option.some.inj h
        subst h
        exact Tri.ret rfl ⟨.inl rfl, rfl, rfl⟩
  · refine Tri.run 2 [.g false] [.keep [0, 1, 11] []] (K' := [.code [(2, 0)] 1, .code [] 3]) (σ' := ⟨[(0, .int .i64 a0), (1, .int .i64 a1), (11, .bool (decide (a1 < (0 : Int))))], []⟩) rfl ⟨hd1, trivial⟩ rfl ?_
    rcases bif_some h with ⟨hd9, h⟩ | ⟨hd9, h⟩
    · refine Tri.run 2 [.g true] [.keep [0, 1] []] (K' := [.code [(3, 0), (0, 0)] 0, .blk 0, .code [] 4]) (σ' := ⟨[(0, .int .i64 a0), (1, .int .i64 (IntKind.i64.wrap (0 - a1)))], []⟩) rfl ⟨hd9, trivial⟩ rfl ?_
      obtain ⟨v9, hk12, h⟩ := bind_some h
      refine Tri.loop (K1 := [.code [(3, 0), (0, 0), (0, 0)] 0]) (K2 := [.blk 0, .code [] 4]) (fun (v7, v8) => ⟨[(0, .int .i64 v7), (1, .int .i64 v8)], []⟩) (fun x e σ' => match x with | v9 => e = .exit 0 ∧ σ' = ⟨[(0, .int .i64 v9)], []⟩) hk12 rfl rfl ?_ ?_
      · intro s x hs
        clear h
        have h := hs
        clear hs
        obtain ⟨v7, v8⟩ := s
        refine Tri.run 1 [] [.keep [0, 1, 15] []] (K' := [.code [(3, 0), (0, 0), (0, 0), (0, 0)] 1, .code [(3, 0), (0, 0), (0, 0)] 1]) (σ' := ⟨[(0, .int .i64 v7), (1, .int .i64 v8), (15, .bool (decide (v8 > (0 : Int))))], []⟩) rfl trivial rfl ?_
        rcases bif_some h with ⟨hd10, h⟩ | ⟨hd10, h⟩
        · obtain ⟨hg11, h⟩ := grd_some h
          refine Tri.run 3 [.g true] [.keep [0, 5] []] (K' := [.code [(3, 0), (0, 0), (0, 0), (1, 0)] 2, .blk 1]) (σ' := ⟨[(0, .int .i64 v8), (5, .int .i64 (v7.tmod v8))], []⟩) rfl ⟨hg11, hd10, trivial⟩ rfl ?_
          refine Tri.run 1 [] [.keep [0, 1] []] (K' := []) (σ' := ⟨[(0, .int .i64 v8), (1, .int .i64 (v7.tmod v8))], []⟩) rfl trivial rfl ?_
          have h := Option.some.inj h
          subst h
          exact Tri.nil ⟨rfl, rfl⟩
        · refine Tri.run 1 [.g false] [.keep [0] []] (K' := [.code [(3, 0), (0, 0), (0, 0), (0, 0), (1, 1)] 0, .code [(3, 0), (0, 0), (0, 0)] 1]) (σ' := ⟨[(0, .int .i64 v7)], []⟩) rfl ⟨hd10, trivial⟩ rfl ?_
          have h := Option.some.inj h
          subst h
          exact Tri.out 0 rfl ⟨nofun, rfl, rfl⟩
      · intro e σ' hne hq
        obtain ⟨rfl, rfl⟩ := hq
        refine TriX.exit (K' := [.code [] 4]) rfl ?_
        refine Tri.run 1 [] [.keep [4] []] (K' := [.code [] 5]) (σ' := ⟨[(4, .int .i64 v9)], []⟩) rfl trivial rfl ?_
        have h := Option.some.inj h
        subst h
        exact Tri.ret rfl ⟨.inl rfl, rfl, rfl⟩
    · refine Tri.run 1 [.g false] [.keep [0, 1] []] (K' := [.code [(3, 0), (0, 0)] 0, .blk 0, .code [] 4]) (σ' := ⟨[(0, .int .i64 a0), (1, .int .i64 a1)], []⟩) rfl ⟨hd9, trivial⟩ rfl ?_
      obtain ⟨v12, hk15, h⟩ := bind_some h
      refine Tri.loop (K1 := [.code [(3, 0), (0, 0), (0, 0)] 0]) (K2 := [.blk 0, .code [] 4]) (fun (v10, v11) => ⟨[(0, .int .i64 v10), (1, .int .i64 v11)], []⟩) (fun x e σ' => match x with | v12 => e = .exit 0 ∧ σ' = ⟨[(0, .int .i64 v12)], []⟩) hk15 rfl rfl ?_ ?_
      · intro s x hs
        clear h
        have h := hs
        clear hs
        obtain ⟨v10, v11⟩ := s
        refine Tri.run 1 [] [.keep [0, 1, 15] []] (K' := [.code [(3, 0), (0, 0), (0, 0), (0, 0)] 1, .code [(3, 0), (0, 0), (0, 0)] 1]) (σ' := ⟨[(0, .int .i64 v10), (1, .int .i64 v11), (15, .bool (decide (v11 > (0 : Int))))], []⟩) rfl trivial rfl ?_
        rcases bif_some h with ⟨hd13, h⟩ | ⟨hd13, h⟩
        · obtain ⟨hg14, h⟩ := grd_some h
          refine Tri.run 3 [.g true] [.keep [0, 5] []] (K' := [.code [(3, 0), (0, 0), (0, 0), (1, 0)] 2, .blk 1]) (σ' := ⟨[(0, .int .i64 v11), (5, .int .i64 (v10.tmod v11))], []⟩) rfl ⟨hg14, hd13, trivial⟩ rfl ?_
          refine Tri.run 1 [] [.keep [0, 1] []] (K' := []) (σ' := ⟨[(0, .int .i64 v11), (1, .int .i64 (v10.tmod v11))], []⟩) rfl trivial rfl ?_
          have h := Option.some.inj h
          subst h
          exact Tri.nil ⟨rfl, rfl⟩
        · refine Tri.run 1 [.g false] [.keep [0] []] (K' := [.code [(3, 0), (0, 0), (0, 0), (0, 0), (1, 1)] 0, .code [(3, 0), (0, 0), (0, 0)] 1]) (σ' := ⟨[(0, .int .i64 v10)], []⟩) rfl ⟨hd13, trivial⟩ rfl ?_
          have h := Option.some.inj h
          subst h
          exact Tri.out 0 rfl ⟨nofun, rfl, rfl⟩
      · intro e σ' hne hq
        obtain ⟨rfl, rfl⟩ := hq
        refine TriX.exit (K' := [.code [] 4]) rfl ?_
        refine Tri.run 1 [] [.keep [4] []] (K' := [.code [] 5]) (σ' := ⟨[(4, .int .i64 v12)], []⟩) rfl trivial rfl ?_
        have h := Option.some.inj h
        subst h
        exact Tri.ret rfl ⟨.inl rfl, rfl, rfl⟩
/-! spec.IsValidRat -/
noncomputable def E107_spec_IsValidRat : Env := ⟨Try.prog, tys, (Try.f107.body).getD .skip, 19, tysOk, mixedOk⟩
abbrev q_spec_IsValidRat (r : Bool) (σ' : ASt) : Prop := resAV E107_spec_IsValidRat.T σ' Try.f107.results.toList = some (.bool r) ∧ keepO σ'.ob (namesO []) = []
noncomputable def m_spec_IsValidRat (a0 : Int) (a1 : Int) : Option Bool :=
(m_spec_l1In a1 (1 : Int) (1000000000 : Int)).bind fun v1 =>
bif v1 then
((m_spec_l1In a0 (-1000000000 : Int) (1000000000 : Int)).bind fun v2 =>
bif v2 then
((m_spec_l3Gcd a0 a1).bind fun v3 =>
some (v3 == (1 : Int)))
else
(some false))
else
(some false)
theorem w_spec_IsValidRat (a0 : Int) (a1 : Int) (r : Bool) (h : m_spec_IsValidRat a0 a1 = some r) : AM.Spec Try.prog 107 [.agg [.int .i64 a0, .int .i64 a1]] [] (.bool r) [] := by
  refine spec_of (E := E107_spec_IsValidRat) Try.func107 rfl rfl rfl rfl ?_
  refine Tri.run 1 [] [.keep [1] [1]] (K' := [.code [(1, 0)] 0, .code [] 2]) (σ' := ⟨[(1, .ptr 1 0)], [(1, .box [.int .i64 a0, .int .i64 a1])]⟩) rfl trivial rfl ?_
  obtain ⟨v1, hk1, h⟩ := bind_some h
  rcases bif_some h with ⟨hd2, h⟩ | ⟨hd2, h⟩
  · obtain ⟨v2, hk3, h⟩ := bind_some h
    rcases bif_some h with ⟨hd4, h⟩ | ⟨hd4, h⟩
    · obtain ⟨v3, hk5, h⟩ := bind_some h
      refine Tri.run 1 [.r ⟨[], .bool v1, []⟩, .g true, .r ⟨[], .bool v2, []⟩, .g true, .r ⟨[], .int .i64 v3, []⟩] [.keep [2] []] (K' := [.code [] 2]) (σ' := ⟨[(2, .bool (v3 == (1 : Int)))], []⟩) rfl ⟨(w_spec_l3Gcd a0 a1 v3 hk5), hd4, (w_spec_l1In a0 (-1000000000 : Int) (1000000000 : Int) v2 hk3), hd2, (w_spec_l1In a1 (1 : Int) (1000000000 : Int) v1 hk1), trivial⟩ rfl ?_
      have h := Option.some.inj h
      subst h
      exact Tri.ret rfl ⟨.inl rfl, rfl, rfl⟩
    · refine Tri.run 1 [.r ⟨[], .bool v1, []⟩, .g true, .r ⟨[], .bool v2, []⟩, .g false] [.keep [2] []] (K' := [.code [] 2]) (σ' := ⟨[(2, .bool false)], []⟩) rfl ⟨hd4, (w_spec_l1In a0 (-1000000000 : Int) (1000000000 : Int) v2 hk3), hd2, (w_spec_l1In a1 (1 : Int) (1000000000 : Int) v1 hk1), trivial⟩ rfl ?_
      have h := Option.some.inj h
      subst h
      exact Tri.ret rfl ⟨.inl rfl, rfl, rfl⟩
  · refine Tri.run 1 [.r ⟨[], .bool v1, []⟩, .g false, .g false] [.keep [2] []] (K' := [.code [] 2]) (σ' := ⟨[(2, .bool false)], []⟩) rfl ⟨rfl, hd2, (w_spec_l1In a1 (1 : Int) (1000000000 : Int) v1 hk1), trivial⟩ rfl ?_
    have h := Option.some.inj h
    subst h
    exact Tri.ret rfl ⟨.inl rfl, rfl, rfl⟩
/-! spec.l5NotNegative -/
noncomputable def E96_spec_l5NotNegative : Env := ⟨Try.prog, tys, (Try.f96.body).getD .skip, 24, tysOk, mixedOk⟩
abbrev q_spec_l5NotNegative (r : Bool) (σ' : ASt) : Prop := resAV E96_spec_l5NotNegative.T σ' Try.f96.results.toList = some (.bool r) ∧ keepO σ'.ob (namesO []) = []
noncomputable def l_spec_l5NotNegative_0 (a0 : List Q) (v1 : Int) : Option (Int ⊕ (Unit ⊕ Bool)) :=
bif decide (v1 < (a0.length : Int)) then
(grd ((0 : Int) ≤ v1 ∧ v1 < (a0.length : Int)) <|
(m_spec_IsValidRat ((a0.getD v1.toNat ⟨0, 0⟩).num) ((a0.getD v1.toNat ⟨0, 0⟩).den)).bind fun v2 =>
bif !v2 then
(some (.inr (.inr false)))
else
(grd ((0 : Int) ≤ v1 ∧ v1 < (a0.length : Int)) <|
bif decide (((a0.getD v1.toNat ⟨0, 0⟩).num) < (0 : Int)) then
(some (.inr (.inr false)))
else
(some (.inl (IntKind.i64.wrap (v1 + (1 : Int)))))))
else
(some (.inr (.inl ())))
noncomputable def m_spec_l5NotNegative (a0 : List Q) : Option Bool :=
(iter (l_spec_l5NotNegative_0 a0) (0 : Int)).bind fun
| (.inl _) => (
some true)
| (.inr r) => some r
theorem w_spec_l5NotNegative (a0 : List Q) (r : Bool) (h : m_spec_l5NotNegative a0 = some r) : AM.Spec Try.prog 96 [.list (.rats a0)] [] (.bool r) [] := by
  refine spec_of (E := E96_spec_l5NotNegative) Try.func96 rfl rfl rfl rfl ?_
  refine Tri.run 2 [] [.keep [0, 3] []] (K' := [.code [(1, 0), (1, 0)] 0, .blk 0, .code [] 2]) (σ' := ⟨[(0, .list (.rats a0)), (3, .int .i64 (0 : Int))], []⟩) rfl trivial rfl ?_
  obtain ⟨x1, hk7, h⟩ := bind_some h
  refine Tri.loop (K1 := [.code [(1, 0), (1, 0), (0, 0)] 0]) (K2 := [.blk 0, .code [] 2]) (fun v1 => ⟨[(0, .list (.rats a0)), (3, .int .i64 v1)], []⟩) (fun x e σ' => match x with | (.inl _) => e = .exit 0 ∧ σ' = ⟨[], []⟩ | (.inr r) => e = .ret ∧ q_spec_l5NotNegative r σ') hk7 rfl rfl ?_ ?_
  · intro v1 x hs
    clear h
    have h := hs
    clear hs
    refine Tri.run 1 [] [.keep [0, 3, 7] []] (K' := [.code [(1, 0), (1, 0), (0, 0), (0, 0)] 1, .code [(1, 0), (1, 0), (0, 0)] 1]) (σ' := ⟨[(0, .list (.rats a0)), (3, .int .i64 v1), (7, .bool (decide (v1 < (a0.length : Int))))], []⟩) rfl trivial rfl ?_
    rcases bif_some h with ⟨hd1, h⟩ | ⟨hd1, h⟩
    · obtain ⟨hg2, h⟩ := grd_some h
      obtain ⟨v2, hk3, h⟩ := bind_some h
      rcases bif_some h with ⟨hd4, h⟩ | ⟨hd4, h⟩
      · refine Tri.run 2 [.g true, .r ⟨[], .bool v2, []⟩, .g true] [.keep [0, 3, 23] []] (K' := [.code [(1, 0), (1, 0), (0, 0), (1, 0), (0, 0)] 1, .blk 1, .code [(1, 0), (1, 0), (0, 0)] 2]) (σ' := ⟨[(0, .list (.rats a0)), (3, .int .i64 v1), (23, .bool true)], []⟩) rfl ⟨hd4, (w_spec_IsValidRat ((a0.getD v1.toNat ⟨0, 0⟩).num) ((a0.getD v1.toNat ⟨0, 0⟩).den) v2 hk3), hg2, hd1, trivial⟩ rfl ?_
        refine Tri.run 2 [.g true] [.keep [2] []] (K' := [.code [(1, 0), (1, 0), (0, 0), (1, 0), (0, 0), (1, 0)] 1, .blk 1, .code [(1, 0), (1, 0), (0, 0)] 2]) (σ' := ⟨[(2, .bool false)], []⟩) rfl ⟨rfl, trivial⟩ rfl ?_
        have h := Option.some.inj h
        subst h
        exact Tri.ret rfl ⟨nofun, rfl, rfl, rfl⟩
      · obtain ⟨hg5, h⟩ := grd_some h
        refine Tri.run 2 [.g true, .r ⟨[], .bool v2, []⟩, .g false] [.keep [0, 3, 23] []] (K' := [.code [(1, 0), (1, 0), (0, 0), (1, 0), (0, 0)] 1, .blk 1, .code [(1, 0), (1, 0), (0, 0)] 2]) (σ' := ⟨[(0, .list (.rats a0)), (3, .int .i64 v1), (23, .bool (decide (((a0.getD v1.toNat ⟨0, 0⟩).num) < (0 : Int))))], []⟩) rfl ⟨hg5, hd4, (w_spec_IsValidRat ((a0.getD v1.toNat ⟨0, 0⟩).num) ((a0.getD v1.toNat ⟨0, 0⟩).den) v2 hk3), hg2, hd1, trivial⟩ rfl ?_
        rcases bif_some h with ⟨hd6, h⟩ | ⟨hd6, h⟩
        · refine Tri.run 2 [.g true] [.keep [2] []] (K' := [.code [(1, 0), (1, 0), (0, 0), (1, 0), (0, 0), (1, 0)] 1, .blk 1, .code [(1, 0), (1, 0), (0, 0)] 2]) (σ' := ⟨[(2, .bool false)], []⟩) rfl ⟨hd6, trivial⟩ rfl ?_
          have h := Option.some.inj h
          subst h
          exact Tri.ret rfl ⟨nofun, rfl, rfl, rfl⟩
        · refine Tri.run 2 [.g false] [.keep [0, 3] []] (K' := []) (σ' := ⟨[(0, .list (.rats a0)), (3, .int .i64 (IntKind.i64.wrap (v1 + (1 : Int))))], []⟩) rfl ⟨hd6, trivial⟩ rfl ?_
          have h := Option.some.inj h
          subst h
          exact Tri.nil ⟨rfl, rfl⟩
    · refine Tri.run 1 [.g false] [.keep [] []] (K' := [.code [(1, 0), (1, 0), (0, 0), (0, 0), (1, 1)] 0, .code [(1, 0), (1, 0), (0, 0)] 1]) (σ' := ⟨[], []⟩) rfl ⟨hd1, trivial⟩ rfl ?_
      have h := Option.some.inj h
      subst h
      exact Tri.out 0 rfl ⟨nofun, rfl, rfl⟩
  · intro e σ' hne hq
    rcases x1 with _ | r
    · obtain ⟨rfl, rfl⟩ := hq
      refine TriX.exit (K' := [.code [] 2]) rfl ?_
      refine Tri.run 1 [] [.keep [2] []] (K' := [.code [] 3]) (σ' := ⟨[(2, .bool true)], []⟩) rfl trivial rfl ?_
      have h := Option.some.inj h
      subst h
      exact Tri.ret rfl ⟨.inl rfl, rfl, rfl⟩
    · obtain ⟨rfl, hq⟩ := hq
      have h := Option.some.inj h
      subst h
      exact TriX.ret ⟨.inl rfl, hq⟩
/-! spec.l2Bit -/
noncomputable def E105_spec_l2Bit : Env := ⟨Try.prog, tys, (Try.f105.body).getD .skip, 5, tysOk, mixedOk⟩
abbrev q_spec_l2Bit (r : Int) (σ' : ASt) : Prop := resAV E105_spec_l2Bit.T σ' Try.f105.results.toList = some (.int .i64 r) ∧ keepO σ'.ob (namesO []) = []
noncomputable def m_spec_l2Bit (a0 : Int) : Option Int :=
(m_spec_CountCoalitions a0).bind fun v1 =>
some v1
theorem w_spec_l2Bit (a0 : Int) (r : Int) (h : m_spec_l2Bit a0 = some r) : AM.Spec Try.prog 105 [.int .i64 a0] [] (.int .i64 r) [] := by
  refine spec_of (E := E105_spec_l2Bit) Try.func105 rfl rfl rfl rfl ?_
  refine Tri.run 1 [] [.keep [0] []] (K' := [.code [(1, 0)] 0, .code [] 2]) (σ' := ⟨[(0, .int .i64 a0)], []⟩) rfl trivial rfl ?_
  obtain ⟨v1, hk1, h⟩ := bind_some h
  refine Tri.run 1 [.r ⟨[], .int .i64 v1, []⟩] [.keep [2] []] (K' := [.code [] 2]) (σ' := ⟨[(2, .int .i64 v1)], []⟩) rfl ⟨(w_spec_CountCoalitions a0 v1 hk1), trivial⟩ rfl ?_
  have h := Option.some.inj h
  subst h
  exact Tri.ret rfl ⟨.inl rfl, rfl, rfl⟩
/-! spec.HasPlayer -/
noncomputable def E72_spec_HasPlayer : Env := ⟨Try.prog, tys, (Try.f72.body).getD .skip, 19, tysOk, mixedOk⟩
abbrev q_spec_HasPlayer (r : Bool) (σ' : ASt) : Prop := resAV E72_spec_HasPlayer.T σ' Try.f72.results.toList = some (.bool r) ∧ keepO σ'.ob (namesO []) = []
noncomputable def m_spec_HasPlayer (a0 : Int) (a1 : Int) : Option Bool :=
(m_spec_l1In a1 (0 : Int) (4 : Int)).bind fun v1 =>
bif v1 then
(bif decide (a0 ≥ (0 : Int)) then
((m_spec_l2Bit a1).bind fun v2 =>
grd (v2 ≠ 0) <|
grd ((2 : Int) ≠ 0) <|
some (((IntKind.i64.wrap (a0.tdiv v2)).tmod (2 : Int)) == (1 : Int)))
else
(some false))
else
(some false)
theorem w_spec_HasPlayer (a0 : Int) (a1 : Int) (r : Bool) (h : m_spec_HasPlayer a0 a1 = some r) : AM.Spec Try.prog 72 [.int .i64 a0, .int .i64 a1] [] (.bool r) [] := by
  refine spec_of (E := E72_spec_HasPlayer) Try.func72 rfl rfl rfl rfl ?_
  refine Tri.run 1 [] [.keep [0, 1] []] (K' := [.code [(1, 0)] 0, .code [] 2]) (σ' := ⟨[(0, .int .i64 a0), (1, .int .i64 a1)], []⟩) rfl trivial rfl ?_
  obtain ⟨v1, hk1, h⟩ := bind_some h
  rcases bif_some h with ⟨hd2, h⟩ | ⟨hd2, h⟩
  · rcases bif_some h with ⟨hd3, h⟩ | ⟨hd3, h⟩
    · obtain ⟨v2, hk4, h⟩ := bind_some h
      obtain ⟨hg5, h⟩ := grd_some h
      obtain ⟨hg6, h⟩ := grd_some h
      refine Tri.run 1 [.r ⟨[], .bool v1, []⟩, .g true, .g true, .r ⟨[], .int .i64 v2, []⟩] [.keep [4] []] (K' := [.code [] 2]) (σ' := ⟨[(4, .bool (((IntKind.i64.wrap (a0.tdiv v2)).tmod (2 : Int)) == (1 : Int)))], []⟩) rfl ⟨hg6, hg5, (w_spec_l2Bit a1 v2 hk4), hd3, hd2, (w_spec_l1In a1 (0 : Int) (4 : Int) v1 hk1), trivial⟩ rfl ?_
      have h := Option.some.inj h
      subst h
      exact Tri.ret rfl ⟨.inl rfl, rfl, rfl⟩
    · refine Tri.run 1 [.r ⟨[], .bool v1, []⟩, .g true, .g false] [.keep [4] []] (K' := [.code [] 2]) (σ' := ⟨[(4, .bool false)], []⟩) rfl ⟨hd3, hd2, (w_spec_l1In a1 (0 : Int) (4 : Int) v1 hk1), trivial⟩ rfl ?_
      have h := Option.some.inj h
      subst h
      exact Tri.ret rfl ⟨.inl rfl, rfl, rfl⟩
  · refine Tri.run 1 [.r ⟨[], .bool v1, []⟩, .g false, .g false] [.keep [4] []] (K' := [.code [] 2]) (σ' := ⟨[(4, .bool false)], []⟩) rfl ⟨rfl, hd2, (w_spec_l1In a1 (0 : Int) (4 : Int) v1 hk1), trivial⟩ rfl ?_
    have h := Option.some.inj h
    subst h
    exact Tri.ret rfl ⟨.inl rfl, rfl, rfl⟩
/-! spec.l1Bit -/
noncomputable def E86_spec_l1Bit : Env := ⟨Try.prog, tys, (Try.f86.body).getD .skip, 4, tysOk, mixedOk⟩
abbrev q_spec_l1Bit (r : Int) (σ' : ASt) : Prop := resAV E86_spec_l1Bit.T σ' Try.f86.results.toList = some (.int .i64 r) ∧ keepO σ'.ob (namesO []) = []
noncomputable def m_spec_l1Bit (a0 : Bool) : Option Int :=
bif a0 then
(some (1 : Int))
else
(some (0 : Int))
theorem w_spec_l1Bit (a0 : Bool) (r : Int) (h : m_spec_l1Bit a0 = some r) : AM.Spec Try.prog 86 [.bool a0] [] (.int .i64 r) [] := by
  refine spec_of (E := E86_spec_l1Bit) Try.func86 rfl rfl rfl rfl ?_
  refine Tri.run 2 [] [.keep [3] []] (K' := [.code [(1, 0)] 1, .code [] 2]) (σ' := ⟨[(3, .bool a0)], []⟩) rfl trivial rfl ?_
  rcases bif_some h with ⟨hd1, h⟩ | ⟨hd1, h⟩
  · refine Tri.run 2 [.g true] [.keep [2] []] (K' := [.code [(1, 0), (1, 0)] 1, .code [] 2]) (σ' := ⟨[(2, .int .i64 (1 : Int))], []⟩) rfl ⟨hd1, trivial⟩ rfl ?_
    have h := Option.some.inj h
    subst h
    exact Tri.ret rfl ⟨.inl rfl, rfl, rfl⟩
  · refine Tri.run 2 [.g false] [.keep [2] []] (K' := [.code [] 3]) (σ' := ⟨[(2, .int .i64 (0 : Int))], []⟩) rfl ⟨hd1, trivial⟩ rfl ?_
    have h := Option.some.inj h
    subst h
    exact Tri.ret rfl ⟨.inl rfl, rfl, rfl⟩
/-! spec.l3Int -/
noncomputable def E77_spec_l3Int : Env := ⟨Try.prog, tys, (Try.f77.body).getD .skip, 5, tysOk, mixedOk⟩
abbrev q_spec_l3Int (r : Int × Int) (σ' : ASt) : Prop := resAV E77_spec_l3Int.T σ' Try.f77.results.toList = some (.agg [.int .i64 r.1, .int .i64 r.2]) ∧ keepO σ'.ob (namesO []) = []
noncomputable def m_spec_l3Int (a0 : Int) : Option (Int × Int) :=
some (a0, (1 : Int))
theorem w_spec_l3Int (a0 : Int) (r : Int × Int) (h : m_spec_l3Int a0 = some r) : AM.Spec Try.prog 77 [.int .i64 a0] [] (.agg [.int .i64 r.1, .int .i64 r.2]) [] := by
  refine spec_of (E := E77_spec_l3Int) Try.func77 rfl rfl rfl rfl ?_
  refine Tri.run 2 [] [.keep [2] [2]] (K' := [.code [] 2]) (σ' := ⟨[(2, .ptr 2 0)], [(2, .box [.int .i64 a0, .int .i64 (1 : Int)])]⟩) rfl trivial rfl ?_
  have h := Option.some.inj h
  subst h
  exact Tri.ret rfl ⟨.inl rfl, rfl, rfl⟩
/-! spec.IntsToRats -/
noncomputable def E112_spec_IntsToRats : Env := ⟨Try.prog, tys, (Try.f112.body).getD .skip, 29, tysOk, mixedOk⟩
abbrev q_spec_IntsToRats (r : Bool × (List Q)) (σ' : ASt) : Prop := resAV E112_spec_IntsToRats.T σ' Try.f112.results.toList = some (.tuple [.sl 1000 0, .bool r.1]) ∧ keepO σ'.ob (namesO [(1000, .arr 45 0 0 (.rats r.2))]) = [(1000, .arr 45 0 0 (.rats r.2))]
noncomputable def l_spec_IntsToRats_0 (a0 : List Int) : (Int × (List Q)) → Option ((Int × (List Q)) ⊕ ((List Q) ⊕ ((Bool × (List Q)))))
  | (v1, v2) => (
bif decide (v1 < (a0.length : Int)) then
(grd ((0 : Int) ≤ v1 ∧ v1 < (a0.length : Int)) <|
(m_spec_l1In (a0.getD v1.toNat 0) (-1000000000 : Int) (1000000000 : Int)).bind fun v3 =>
bif !v3 then
(some (.inr (.inr (false, []))))
else
(grd ((0 : Int) ≤ v1 ∧ v1 < (a0.length : Int)) <|
(m_spec_l3Int (a0.getD v1.toNat 0)).bind fun (v4, v5) =>
grd (v2.length + ([⟨v4, v5⟩] : List Q).length ≤ room) <|
some (.inl (IntKind.i64.wrap (v1 + (1 : Int)), v2 ++ [⟨v4, v5⟩]))))
else
(some (.inr (.inl v2))))
noncomputable def m_spec_IntsToRats (a0 : List Int) : Option (Bool × (List Q)) :=
(iter (l_spec_IntsToRats_0 a0) ((0 : Int), [])).bind fun
| (.inl v6) => (
some (true, v6))
| (.inr r) => some r
theorem w_spec_IntsToRats (a0 : List Int) (r : Bool × (List Q)) (h : m_spec_IntsToRats a0 = some r) : AM.Spec Try.prog 112 [.list (.ints a0)] [] (.tuple [.sl 1000 0, .bool r.1]) [(1000, .arr 45 0 0 (.rats r.2))] := by
  refine spec_of (E := E112_spec_IntsToRats) Try.func112 rfl rfl rfl rfl ?_
  refine Tri.run 3 [] [.keep [0, 4, 5] [6]] (K' := [.code [(2, 0), (1, 0)] 0, .blk 0, .code [] 3]) (σ' := ⟨[(0, .list (.ints a0)), (4, .sl 6 0), (5, .int .i64 (0 : Int))], [(6, .arr 45 0 0 (.rats []))]⟩) rfl trivial rfl ?_
  obtain ⟨x1, hk8, h⟩ := bind_some h
  refine Tri.loop (K1 := [.code [(2, 0), (1, 0), (0, 0)] 0]) (K2 := [.blk 0, .code [] 3]) (fun (v1, v2) => ⟨[(0, .list (.ints a0)), (4, .sl 6 0), (5, .int .i64 v1)], [(6, .arr 45 0 0 (.rats v2))]⟩) (fun x e σ' => match x with | (.inl v6) => e = .exit 0 ∧ σ' = ⟨[(4, .sl 6 0)], [(6, .arr 45 0 0 (.rats v6))]⟩ | (.inr r) => e = .ret ∧ q_spec_IntsToRats r σ') hk8 rfl rfl ?_ ?_
  · intro s x hs
    clear h
    have h := hs
    clear hs
    obtain ⟨v1, v2⟩ := s
    refine Tri.run 1 [] [.keep [0, 4, 5, 10] [6]] (K' := [.code [(2, 0), (1, 0), (0, 0), (0, 0)] 1, .code [(2, 0), (1, 0), (0, 0)] 1]) (σ' := ⟨[(0, .list (.ints a0)), (4, .sl 6 0), (5, .int .i64 v1), (10, .bool (decide (v1 < (a0.length : Int))))], [(6, .arr 45 0 0 (.rats v2))]⟩) rfl trivial rfl ?_
    rcases bif_some h with ⟨hd1, h⟩ | ⟨hd1, h⟩
    · obtain ⟨hg2, h⟩ := grd_some h
      obtain ⟨v3, hk3, h⟩ := bind_some h
      refine Tri.run 2 [.g true, .r ⟨[], .bool v3, []⟩] [.keep [0, 4, 5, 18] [6]] (K' := [.code [(2, 0), (1, 0), (0, 0), (1, 0), (0, 0), (0, 0)] 1, .code [(2, 0), (1, 0), (0, 0), (1, 0), (0, 0)] 1, .blk 1, .code [(2, 0), (1, 0), (0, 0)] 2]) (σ' := ⟨[(0, .list (.ints a0)), (4, .sl 6 0), (5, .int .i64 v1), (18, .bool (!v3))], [(6, .arr 45 0 0 (.rats v2))]⟩) rfl ⟨(w_spec_l1In (a0.getD v1.toNat 0) (-1000000000 : Int) (1000000000 : Int) v3 hk3), hg2, hd1, trivial⟩ rfl ?_
      rcases bif_some h with ⟨hd4, h⟩ | ⟨hd4, h⟩
      · refine Tri.run 2 [.g true] [.swap 19 1000, .keep [2, 3] [1000]] (K' := [.code [(2, 0), (1, 0), (0, 0), (1, 0), (0, 0), (0, 0), (1, 0)] 1, .code [(2, 0), (1, 0), (0, 0), (1, 0), (0, 0)] 1, .blk 1, .code [(2, 0), (1, 0), (0, 0)] 2]) (σ' := ⟨[(2, .sl 1000 0), (3, .bool false)], [(1000, .arr 45 0 0 (.rats []))]⟩) rfl ⟨hd4, trivial⟩ rfl ?_
        have h := Option.some.inj h
        subst h
        exact Tri.ret rfl ⟨nofun, rfl, rfl, rfl⟩
      · obtain ⟨hg5, h⟩ := grd_some h
        obtain ⟨⟨v4, v5⟩, hk6, h⟩ := bind_some h
        obtain ⟨hg7, h⟩ := grd_some h
        refine Tri.run 3 [.g false, .r ⟨[], .agg [.int .i64 v4, .int .i64 v5], []⟩] [.rever 6, .keep [0, 4, 5] [6]] (K' := []) (σ' := ⟨[(0, .list (.ints a0)), (4, .sl 6 0), (5, .int .i64 (IntKind.i64.wrap (v1 + (1 : Int))))], [(6, .arr 45 0 0 (.rats (v2 ++ [⟨v4, v5⟩])))]⟩) rfl ⟨hg7, (w_spec_l3Int (a0.getD v1.toNat 0) (v4, v5) hk6), hg5, hd4, trivial⟩ rfl ?_
        have h := Option.some.inj h
        subst h
        exact Tri.nil ⟨rfl, rfl⟩
    · refine Tri.run 1 [.g false] [.keep [4] [6]] (K' := [.code [(2, 0), (1, 0), (0, 0), (0, 0), (1, 1)] 0, .code [(2, 0), (1, 0), (0, 0)] 1]) (σ' := ⟨[(4, .sl 6 0)], [(6, .arr 45 0 0 (.rats v2))]⟩) rfl ⟨hd1, trivial⟩ rfl ?_
      have h := Option.some.inj h
      subst h
      exact Tri.out 0 rfl ⟨nofun, rfl, rfl⟩
  · intro e σ' hne hq
    rcases x1 with v6 | r
    · obtain ⟨rfl, rfl⟩ := hq
      refine TriX.exit (K' := [.code [] 3]) rfl ?_
      refine Tri.run 1 [] [.swap 6 1000, .keep [2, 3] [1000]] (K' := [.code [] 4]) (σ' := ⟨[(2, .sl 1000 0), (3, .bool true)], [(1000, .arr 45 0 0 (.rats v6))]⟩) rfl trivial rfl ?_
      have h := Option.some.inj h
      subst h
      exact Tri.ret rfl ⟨.inl rfl, rfl, rfl⟩
    · obtain ⟨rfl, hq⟩ := hq
      have h := Option.some.inj h
      subst h
      exact TriX.ret ⟨.inl rfl, hq⟩
/-! spec.RatOf -/
noncomputable def E108_spec_RatOf : Env := ⟨Try.prog, tys, (Try.f108.body).getD .skip, 42, tysOk, mixedOk⟩
abbrev q_spec_RatOf (r : Int × Int × Bool) (σ' : ASt) : Prop := resAV E108_spec_RatOf.T σ' Try.f108.results.toList = some (.tuple [.agg [.int .i64 r.1, .int .i64 r.2.1], .bool r.2.2]) ∧ keepO σ'.ob (namesO []) = []
noncomputable def m_spec_RatOf (a0 : Int) (a1 : Int) : Option (Int × Int × Bool) :=
bif a1 == (0 : Int) then
(some (0, 0, false))
else
((m_spec_l1In a0 (-1000000000000000000 : Int) (1000000000000000000 : Int)).bind fun v1 =>
bif !v1 then
(some (0, 0, false))
else
((m_spec_l1In a1 (-1000000000000000000 : Int) (1000000000000000000 : Int)).bind fun v2 =>
bif !v2 then
(some (0, 0, false))
else
(bif decide (a1 < (0 : Int)) then
((m_spec_l3Gcd (IntKind.i64.wrap (0 - a0)) (IntKind.i64.wrap (0 - a1))).bind fun v3 =>
grd (v3 ≠ 0) <|
grd (v3 ≠ 0) <|
(m_spec_IsValidRat (IntKind.i64.wrap ((IntKind.i64.wrap (0 - a0)).tdiv v3)) (IntKind.i64.wrap ((IntKind.i64.wrap (0 - a1)).tdiv v3))).bind fun v4 =>
bif !v4 then
(some (0, 0, false))
else
(some (IntKind.i64.wrap ((IntKind.i64.wrap (0 - a0)).tdiv v3), IntKind.i64.wrap ((IntKind.i64.wrap (0 - a1)).tdiv v3), true)))
else
((m_spec_l3Gcd a0 a1).bind fun v5 =>
grd (v5 ≠ 0) <|
grd (v5 ≠ 0) <|
(m_spec_IsValidRat (IntKind.i64.wrap (a0.tdiv v5)) (IntKind.i64.wrap (a1.tdiv v5))).bind fun v6 =>
bif !v6 then
(some (0, 0, false))
else
(some (IntKind.i64.wrap (a0.tdiv v5), IntKind.i64.wrap (a1.tdiv v5), true))))))
theorem w_spec_RatOf (a0 : Int) (a1 : Int) (r : Int × Int × Bool) (h : m_spec_RatOf a0 a1 = some r) : AM.Spec Try.prog 108 [.int .i64 a0, .int .i64 a1] [] (.tuple [.agg [.int .i64 r.1, .int .i64 r.2.1], .bool r.2.2]) [] := by
  refine spec_of (E := E108_spec_RatOf) Try.func108 rfl rfl rfl rfl ?_
  refine Tri.run 1 [] [.keep [0, 1, 4] [4]] (K' := [.code [(1, 0), (0, 0)] 0, .code [(1, 0)] 1, .code [] 2]) (σ' := ⟨[(0, .int .i64 a0), (1, .int .i64 a1), (4, .ptr 4 0)], [(4, .box [.int .i64 0, .int .i64 0])]⟩) rfl trivial rfl ?_
  rcases bif_some h with ⟨hd1, h⟩ | ⟨hd1, h⟩
  · refine Tri.run 1 [.g true, .g true] [.keep [0, 1, 4, 19] [4]] (K' := [.code [(1, 0)] 1, .code [] 2]) (σ' := ⟨[(0, .int .i64 a0), (1, .int .i64 a1), (4, .ptr 4 0), (19, .bool true)], [(4, .box [.int .i64 0, .int .i64 0])]⟩) rfl ⟨rfl, hd1, trivial⟩ rfl ?_
    refine Tri.run 2 [.g true] [.keep [4, 5] [4]] (K' := [.code [(1, 0), (1, 0)] 1, .code [] 2]) (σ' := ⟨[(4, .ptr 4 0), (5, .bool false)], [(4, .box [.int .i64 0, .int .i64 0])]⟩) rfl ⟨rfl, trivial⟩ rfl ?_
    have h := Option.some.inj h
    subst h
    exact Tri.ret rfl ⟨.inl rfl, rfl, rfl⟩
  · obtain ⟨v1, hk2, h⟩ := bind_some h
    rcases bif_some h with ⟨hd3, h⟩ | ⟨hd3, h⟩
    · refine Tri.run 1 [.g false, .r ⟨[], .bool v1, []⟩, .g true] [.keep [0, 1, 4, 19] [4]] (K' := [.code [(1, 0)] 1, .code [] 2]) (σ' := ⟨[(0, .int .i64 a0), (1, .int .i64 a1), (4, .ptr 4 0), (19, .bool true)], [(4, .box [.int .i64 0, .int .i64 0])]⟩) rfl ⟨hd3, (w_spec_l1In a0 (-1000000000000000000 : Int) (1000000000000000000 : Int) v1 hk2), hd1, trivial⟩ rfl ?_
      refine Tri.run 2 [.g true] [.keep [4, 5] [4]] (K' := [.code [(1, 0), (1, 0)] 1, .code [] 2]) (σ' := ⟨[(4, .ptr 4 0), (5, .bool false)], [(4, .box [.int .i64 0, .int .i64 0])]⟩) rfl ⟨rfl, trivial⟩ rfl ?_
      have h := Option.some.inj h
      subst h
      exact Tri.ret rfl ⟨.inl rfl, rfl, rfl⟩
    · obtain ⟨v2, hk4, h⟩ := bind_some h
      refine Tri.run 1 [.g false, .r ⟨[], .bool v1, []⟩, .g false, .r ⟨[], .bool v2, []⟩] [.keep [0, 1, 4, 19] [4]] (K' := [.code [(1, 0)] 1, .code [] 2]) (σ' := ⟨[(0, .int .i64 a0), (1, .int .i64 a1), (4, .ptr 4 0), (19, .bool (!v2))], [(4, .box [.int .i64 0, .int .i64 0])]⟩) rfl ⟨(w_spec_l1In a1 (-1000000000000000000 : Int) (1000000000000000000 : Int) v2 hk4), hd3, (w_spec_l1In a0 (-1000000000000000000 : Int) (1000000000000000000 : Int) v1 hk2), hd1, trivial⟩ rfl ?_
      rcases bif_some h with ⟨hd5, h⟩ | ⟨hd5, h⟩
      · refine Tri.run 2 [.g true] [.keep [4, 5] [4]] (K' := [.code [(1, 0), (1, 0)] 1, .code [] 2]) (σ' := ⟨[(4, .ptr 4 0), (5, .bool false)], [(4, .box [.int .i64 0, .int .i64 0])]⟩) rfl ⟨hd5, trivial⟩ rfl ?_
        have h := Option.some.inj h
        subst h
        exact Tri.ret rfl ⟨.inl rfl, rfl, rfl⟩
      · refine Tri.run 2 [.g false] [.keep [0, 1, 4, 22] [4]] (K' := [.code [(2, 0)] 1, .code [] 3]) (σ' := ⟨[(0, .int .i64 a0), (1, .int .i64 a1), (4, .ptr 4 0), (22, .bool (decide (a1 < (0 : Int))))], [(4, .box [.int .i64 0, .int .i64 0])]⟩) rfl ⟨hd5, trivial⟩ rfl ?_
        rcases bif_some h with ⟨hd6, h⟩ | ⟨hd6, h⟩
        · refine Tri.run 3 [.g true] [.keep [0, 1, 4] [4]] (K' := [.code [(3, 0)] 0, .code [] 4]) (σ' := ⟨[(0, .int .i64 (IntKind.i64.wrap (0 - a0))), (1, .int .i64 (IntKind.i64.wrap (0 - a1))), (4, .ptr 4 0)], [(4, .box [.int .i64 0, .int .i64 0])]⟩) rfl ⟨hd6, trivial⟩ rfl ?_
          obtain ⟨v3, hk7, h⟩ := bind_some h
          obtain ⟨hg8, h⟩ := grd_some h
          obtain ⟨hg9, h⟩ := grd_some h
          refine Tri.run 2 [.r ⟨[], .int .i64 v3, []⟩] [.keep [4, 7] [4, 7]] (K' := [.code [(5, 0), (0, 0)] 0, .code [(5, 0)] 1, .code [] 6]) (σ' := ⟨[(4, .ptr 4 0), (7, .ptr 7 0)], [(4, .box [.int .i64 0, .int .i64 0]), (7, .box [.int .i64 (IntKind.i64.wrap ((IntKind.i64.wrap (0 - a0)).tdiv v3)), .int .i64 (IntKind.i64.wrap ((IntKind.i64.wrap (0 - a1)).tdiv v3))])]⟩) rfl ⟨hg9, hg8, (w_spec_l3Gcd (IntKind.i64.wrap (0 - a0)) (IntKind.i64.wrap (0 - a1)) v3 hk7), trivial⟩ rfl ?_
          obtain ⟨v4, hk10, h⟩ := bind_some h
          refine Tri.run 1 [.r ⟨[], .bool v4, []⟩] [.keep [4, 7, 39] [4, 7]] (K' := [.code [(5, 0)] 1, .code [] 6]) (σ' := ⟨[(4, .ptr 4 0), (7, .ptr 7 0), (39, .bool (!v4))], [(4, .box [.int .i64 0, .int .i64 0]), (7, .box [.int .i64 (IntKind.i64.wrap ((IntKind.i64.wrap (0 - a0)).tdiv v3)), .int .i64 (IntKind.i64.wrap ((IntKind.i64.wrap (0 - a1)).tdiv v3))])]⟩) rfl ⟨(w_spec_IsValidRat (IntKind.i64.wrap ((IntKind.i64.wrap (0 - a0)).tdiv v3)) (IntKind.i64.wrap ((IntKind.i64.wrap (0 - a1)).tdiv v3)) v4 hk10), trivial⟩ rfl ?_
          rcases bif_some h with ⟨hd11, h⟩ | ⟨hd11, h⟩
          · refine Tri.run 2 [.g true] [.keep [4, 5] [4]] (K' := [.code [(5, 0), (1, 0)] 1, .code [] 6]) (σ' := ⟨[(4, .ptr 4 0), (5, .bool false)], [(4, .box [.int .i64 0, .int .i64 0])]⟩) rfl ⟨hd11, trivial⟩ rfl ?_
            have h := Option.some.inj h
            subst h
            exact Tri.ret rfl ⟨.inl rfl, rfl, rfl⟩
          · refine Tri.run 2 [.g false] [.keep [4, 5] [4]] (K' := [.code [] 7]) (σ' := ⟨[(4, .ptr 4 0), (5, .bool true)], [(4, .box [.int .i64 (IntKind.i64.wrap ((IntKind.i64.wrap (0 - a0)).tdiv v3)), .int .i64 (IntKind.i64.wrap ((IntKind.i64.wrap (0 - a1)).tdiv v3))])]⟩) rfl ⟨hd11, trivial⟩ rfl ?_
            have h := Option.some.inj h
            subst h
            exact Tri.ret rfl ⟨.inl rfl, rfl, rfl⟩
        · obtain ⟨v5, hk12, h⟩ := bind_some h
          obtain ⟨hg13, h⟩ := grd_some h
          obtain ⟨hg14, h⟩ := grd_some h
          refine Tri.run 3 [.g false, .r ⟨[], .int .i64 v5, []⟩] [.keep [4, 7] [4, 7]] (K' := [.code [(5, 0), (0, 0)] 0, .code [(5, 0)] 1, .code [] 6]) (σ' := ⟨[(4, .ptr 4 0), (7, .ptr 7 0)], [(4, .box [.int .i64 0, .int .i64 0]), (7, .box [.int .i64 (IntKind.i64.wrap (a0.tdiv v5)), .int .i64 (IntKind.i64.wrap (a1.tdiv v5))])]⟩) rfl ⟨hg14, hg13, (w_spec_l3Gcd a0 a1 v5 hk12), hd6, trivial⟩ rfl ?_
          obtain ⟨v6, hk15, h⟩ := bind_some h
          refine Tri.run 1 [.r ⟨[], .bool v6, []⟩] [.keep [4, 7, 39] [4, 7]] (K' := [.code [(5, 0)] 1, .code [] 6]) (σ' := ⟨[(4, .ptr 4 0), (7, .ptr 7 0), (39, .bool (!v6))], [(4, .box [.int .i64 0, .int .i64 0]), (7, .box [.int .i64 (IntKind.i64.wrap (a0.tdiv v5)), .int .i64 (IntKind.i64.wrap (a1.tdiv v5))])]⟩) rfl ⟨(w_spec_IsValidRat (IntKind.i64.wrap (a0.tdiv v5)) (IntKind.i64.wrap (a1.tdiv v5)) v6 hk15), trivial⟩ rfl ?_
          rcases bif_some h with ⟨hd16, h⟩ | ⟨hd16, h⟩
          · refine Tri.run 2 [.g true] [.keep [4, 5] [4]] (K' := [.code [(5, 0), (1, 0)] 1, .code [] 6]) (σ' := ⟨[(4, .ptr 4 0), (5, .bool false)], [(4, .box [.int .i64 0, .int .i64 0])]⟩) rfl ⟨hd16, trivial⟩ rfl ?_
            have h := Option.some.inj h
            subst h
            exact Tri.ret rfl ⟨.inl rfl, rfl, rfl⟩
          · refine Tri.run 2 [.g false] [.keep [4, 5] [4]] (K' := [.code [] 7]) (σ' := ⟨[(4, .ptr 4 0), (5, .bool true)], [(4, .box [.int .i64 (IntKind.i64.wrap (a0.tdiv v5)), .int .i64 (IntKind.i64.wrap (a1.tdiv v5))])]⟩) rfl ⟨hd16, trivial⟩ rfl ?_
            have h := Option.some.inj h
            subst h
            exact Tri.ret rfl ⟨.inl rfl, rfl, rfl⟩
/-! spec.MulRat -/
noncomputable def E120_spec_MulRat : Env := ⟨Try.prog, tys, (Try.f120.body).getD .skip, 28, tysOk, mixedOk⟩
abbrev q_spec_MulRat (r : Int × Int × Bool) (σ' : ASt) : Prop := resAV E120_spec_MulRat.T σ' Try.f120.results.toList = some (.tuple [.agg [.int .i64 r.1, .int .i64 r.2.1], .bool r.2.2]) ∧ keepO σ'.ob (namesO []) = []
noncomputable def m_spec_MulRat (a0 : Int) (a1 : Int) (a2 : Int) (a3 : Int) : Option (Int × Int × Bool) :=
(m_spec_IsValidRat a0 a1).bind fun v1 =>
bif !v1 then
(some (0, 0, false))
else
((m_spec_IsValidRat a2 a3).bind fun v2 =>
bif !v2 then
(some (0, 0, false))
else
((m_spec_RatOf (IntKind.i64.wrap (a0 * a2)) (IntKind.i64.wrap (a1 * a3))).bind fun (v3, v4, v5) =>
some (v3, v4, v5)))
theorem w_spec_MulRat (a0 : Int) (a1 : Int) (a2 : Int) (a3 : Int) (r : Int × Int × Bool) (h : m_spec_MulRat a0 a1 a2 a3 = some r) : AM.Spec Try.prog 120 [.agg [.int .i64 a0, .int .i64 a1], .agg [.int .i64 a2, .int .i64 a3]] [] (.tuple [.agg [.int .i64 r.1, .int .i64 r.2.1], .bool r.2.2]) [] := by
  refine spec_of (E := E120_spec_MulRat) Try.func120 rfl rfl rfl rfl ?_
  refine Tri.run 1 [] [.keep [2, 3, 4] [2, 3, 4]] (K' := [.code [(1, 0), (0, 0)] 0, .code [(1, 0)] 1, .code [] 2]) (σ' := ⟨[(2, .ptr 2 0), (3, .ptr 3 0), (4, .ptr 4 0)], [(2, .box [.int .i64 a0, .int .i64 a1]), (3, .box [.int .i64 a2, .int .i64 a3]), (4, .box [.int .i64 0, .int .i64 0])]⟩) rfl trivial rfl ?_
  obtain ⟨v1, hk1, h⟩ := bind_some h
  rcases bif_some h with ⟨hd2, h⟩ | ⟨hd2, h⟩
  · refine Tri.run 1 [.r ⟨[], .bool v1, []⟩, .g true] [.keep [2, 3, 4, 13] [2, 3, 4]] (K' := [.code [(1, 0)] 1, .code [] 2]) (σ' := ⟨[(2, .ptr 2 0), (3, .ptr 3 0), (4, .ptr 4 0), (13, .bool true)], [(2, .box [.int .i64 a0, .int .i64 a1]), (3, .box [.int .i64 a2, .int .i64 a3]), (4, .box [.int .i64 0, .int .i64 0])]⟩) rfl ⟨hd2, (w_spec_IsValidRat a0 a1 v1 hk1), trivial⟩ rfl ?_
    refine Tri.run 2 [.g true] [.keep [4, 5] [4]] (K' := [.code [(1, 0), (1, 0)] 1, .code [] 2]) (σ' := ⟨[(4, .ptr 4 0), (5, .bool false)], [(4, .box [.int .i64 0, .int .i64 0])]⟩) rfl ⟨rfl, trivial⟩ rfl ?_
    have h := Option.some.inj h
    subst h
    exact Tri.ret rfl ⟨.inl rfl, rfl, rfl⟩
  · obtain ⟨v2, hk3, h⟩ := bind_some h
    refine Tri.run 1 [.r ⟨[], .bool v1, []⟩, .g false, .r ⟨[], .bool v2, []⟩] [.keep [2, 3, 4, 13] [2, 3, 4]] (K' := [.code [(1, 0)] 1, .code [] 2]) (σ' := ⟨[(2, .ptr 2 0), (3, .ptr 3 0), (4, .ptr 4 0), (13, .bool (!v2))], [(2, .box [.int .i64 a0, .int .i64 a1]), (3, .box [.int .i64 a2, .int .i64 a3]), (4, .box [.int .i64 0, .int .i64 0])]⟩) rfl ⟨(w_spec_IsValidRat a2 a3 v2 hk3), hd2, (w_spec_IsValidRat a0 a1 v1 hk1), trivial⟩ rfl ?_
    rcases bif_some h with ⟨hd4, h⟩ | ⟨hd4, h⟩
    · refine Tri.run 2 [.g true] [.keep [4, 5] [4]] (K' := [.code [(1, 0), (1, 0)] 1, .code [] 2]) (σ' := ⟨[(4, .ptr 4 0), (5, .bool false)], [(4, .box [.int .i64 0, .int .i64 0])]⟩) rfl ⟨hd4, trivial⟩ rfl ?_
      have h := Option.some.inj h
      subst h
      exact Tri.ret rfl ⟨.inl rfl, rfl, rfl⟩
    · obtain ⟨⟨v3, v4, v5⟩, hk5, h⟩ := bind_some h
      refine Tri.run 2 [.g false, .r ⟨[], .tuple [.agg [.int .i64 v3, .int .i64 v4], .bool v5], []⟩] [.keep [4, 5] [4]] (K' := [.code [] 3]) (σ' := ⟨[(4, .ptr 4 0), (5, .bool v5)], [(4, .box [.int .i64 v3, .int .i64 v4])]⟩) rfl ⟨(w_spec_RatOf (IntKind.i64.wrap (a0 * a2)) (IntKind.i64.wrap (a1 * a3)) (v3, v4, v5) hk5), hd4, trivial⟩ rfl ?_
      have h := Option.some.inj h
      subst h
      exact Tri.ret rfl ⟨.inl rfl, rfl, rfl⟩
/-! spec.AddRat -/
noncomputable def E79_spec_AddRat : Env := ⟨Try.prog, tys, (Try.f79.body).getD .skip, 34, tysOk, mixedOk⟩
abbrev q_spec_AddRat (r : Int × Int × Bool) (σ' : ASt) : Prop := resAV E79_spec_AddRat.T σ' Try.f79.results.toList = some (.tuple [.agg [.int .i64 r.1, .int .i64 r.2.1], .bool r.2.2]) ∧ keepO σ'.ob (namesO []) = []
noncomputable def m_spec_AddRat (a0 : Int) (a1 : Int) (a2 : Int) (a3 : Int) : Option (Int × Int × Bool) :=
(m_spec_IsValidRat a0 a1).bind fun v1 =>
bif !v1 then
(some (0, 0, false))
else
((m_spec_IsValidRat a2 a3).bind fun v2 =>
bif !v2 then
(some (0, 0, false))
else
((m_spec_RatOf (IntKind.i64.wrap ((IntKind.i64.wrap (a0 * a3)) + (IntKind.i64.wrap (a2 * a1)))) (IntKind.i64.wrap (a1 * a3))).bind fun (v3, v4, v5) =>
some (v3, v4, v5)))
theorem w_spec_AddRat (a0 : Int) (a1 : Int) (a2 : Int) (a3 : Int) (r : Int × Int × Bool) (h : m_spec_AddRat a0 a1 a2 a3 = some r) : AM.Spec Try.prog 79 [.agg [.int .i64 a0, .int .i64 a1], .agg [.int .i64 a2, .int .i64 a3]] [] (.tuple [.agg [.int .i64 r.1, .int .i64 r.2.1], .bool r.2.2]) [] := by
  refine spec_of (E := E79_spec_AddRat) Try.func79 rfl rfl rfl rfl ?_
  refine Tri.run 1 [] [.keep [2, 3, 4] [2, 3, 4]] (K' := [.code [(1, 0), (0, 0)] 0, .code [(1, 0)] 1, .code [] 2]) (σ' := ⟨[(2, .ptr 2 0), (3, .ptr 3 0), (4, .ptr 4 0)], [(2, .box [.int .i64 a0, .int .i64 a1]), (3, .box [.int .i64 a2, .int .i64 a3]), (4, .box [.int .i64 0, .int .i64 0])]⟩) rfl trivial rfl ?_
  obtain ⟨v1, hk1, h⟩ := bind_some h
  rcases bif_some h with ⟨hd2, h⟩ | ⟨hd2, h⟩
  · refine Tri.run 1 [.r ⟨[], .bool v1, []⟩, .g true] [.keep [2, 3, 4, 13] [2, 3, 4]] (K' := [.code [(1, 0)] 1, .code [] 2]) (σ' := ⟨[(2, .ptr 2 0), (3, .ptr 3 0), (4, .ptr 4 0), (13, .bool true)], [(2, .box [.int .i64 a0, .int .i64 a1]), (3, .box [.int .i64 a2, .int .i64 a3]), (4, .box [.int .i64 0, .int .i64 0])]⟩) rfl ⟨hd2, (w_spec_IsValidRat a0 a1 v1 hk1), trivial⟩ rfl ?_
    refine Tri.run 2 [.g true] [.keep [4, 5] [4]] (K' := [.code [(1, 0), (1, 0)] 1, .code [] 2]) (σ' := ⟨[(4, .ptr 4 0), (5, .bool false)], [(4, .box [.int .i64 0, .int .i64 0])]⟩) rfl ⟨rfl, trivial⟩ rfl ?_
    have h := Option.some.inj h
    subst h
    exact Tri.ret rfl ⟨.inl rfl, rfl, rfl⟩
  · obtain ⟨v2, hk3, h⟩ := bind_some h
    refine Tri.run 1 [.r ⟨[], .bool v1, []⟩, .g false, .r ⟨[], .bool v2, []⟩] [.keep [2, 3, 4, 13] [2, 3, 4]] (K' := [.code [(1, 0)] 1, .code [] 2]) (σ' := ⟨[(2, .ptr 2 0), (3, .ptr 3 0), (4, .ptr 4 0), (13, .bool (!v2))], [(2, .box [.int .i64 a0, .int .i64 a1]), (3, .box [.int .i64 a2, .int .i64 a3]), (4, .box [.int .i64 0, .int .i64 0])]⟩) rfl ⟨(w_spec_IsValidRat a2 a3 v2 hk3), hd2, (w_spec_IsValidRat a0 a1 v1 hk1), trivial⟩ rfl ?_
    rcases bif_some h with ⟨hd4, h⟩ | ⟨hd4, h⟩
    · refine Tri.run 2 [.g true] [.keep [4, 5] [4]] (K' := [.code [(1, 0), (1, 0)] 1, .code [] 2]) (σ' := ⟨[(4, .ptr 4 0), (5, .bool false)], [(4, .box [.int .i64 0, .int .i64 0])]⟩) rfl ⟨hd4, trivial⟩ rfl ?_
      have h := Option.some.inj h
      subst h
      exact Tri.ret rfl ⟨.inl rfl, rfl, rfl⟩
    · obtain ⟨⟨v3, v4, v5⟩, hk5, h⟩ := bind_some h
      refine Tri.run 2 [.g false, .r ⟨[], .tuple [.agg [.int .i64 v3, .int .i64 v4], .bool v5], []⟩] [.keep [4, 5] [4]] (K' := [.code [] 3]) (σ' := ⟨[(4, .ptr 4 0), (5, .bool v5)], [(4, .box [.int .i64 v3, .int .i64 v4])]⟩) rfl ⟨(w_spec_RatOf (IntKind.i64.wrap ((IntKind.i64.wrap (a0 * a3)) + (IntKind.i64.wrap (a2 * a1)))) (IntKind.i64.wrap (a1 * a3)) (v3, v4, v5) hk5), hd4, trivial⟩ rfl ?_
      have h := Option.some.inj h
      subst h
      exact Tri.ret rfl ⟨.inl rfl, rfl, rfl⟩
/-! spec.DotRat -/
noncomputable def E113_spec_DotRat : Env := ⟨Try.prog, tys, (Try.f113.body).getD .skip, 52, tysOk, mixedOk⟩
abbrev q_spec_DotRat (r : Int × Int × Bool) (σ' : ASt) : Prop := resAV E113_spec_DotRat.T σ' Try.f113.results.toList = some (.tuple [.agg [.int .i64 r.1, .int .i64 r.2.1], .bool r.2.2]) ∧ keepO σ'.ob (namesO []) = []
noncomputable def l_spec_DotRat_0 (a0 : List Q) (a1 : List Q) : (Int × Int × Int) → Option ((Int × Int × Int) ⊕ ((Int × Int) ⊕ ((Int × Int × Bool))))
  | (v3, v4, v5) => (
bif decide (v3 < (a0.length : Int)) then
(grd ((0 : Int) ≤ v3 ∧ v3 < (a0.length : Int)) <|
grd ((0 : Int) ≤ v3 ∧ v3 < (a1.length : Int)) <|
(m_spec_MulRat ((a0.getD v3.toNat ⟨0, 0⟩).num) ((a0.getD v3.toNat ⟨0, 0⟩).den) ((a1.getD v3.toNat ⟨0, 0⟩).num) ((a1.getD v3.toNat ⟨0, 0⟩).den)).bind fun (v6, v7, v8) =>
(m_spec_AddRat v4 v5 v6 v7).bind fun (v9, v10, v11) =>
bif !v8 then
(some (.inr (.inr (0, 0, false))))
else
(bif !v11 then
(some (.inr (.inr (0, 0, false))))
else
(some (.inl (IntKind.i64.wrap (v3 + (1 : Int)), v9, v10)))))
else
(some (.inr (.inl (v4, v5)))))
noncomputable def m_spec_DotRat (a0 : List Q) (a1 : List Q) : Option (Int × Int × Bool) :=
bif (a0.length : Int) != (a1.length : Int) then
(some (0, 0, false))
else
((m_spec_l3Int (0 : Int)).bind fun (v1, v2) =>
(iter (l_spec_DotRat_0 a0 a1) ((0 : Int), v1, v2)).bind fun
| (.inl (v12, v13)) => (
some (v12, v13, true))
| (.inr r) => some r)
theorem w_spec_DotRat (a0 : List Q) (a1 : List Q) (r : Int × Int × Bool) (h : m_spec_DotRat a0 a1 = some r) : AM.Spec Try.prog 113 [.list (.rats a0), .list (.rats a1)] [] (.tuple [.agg [.int .i64 r.1, .int .i64 r.2.1], .bool r.2.2]) [] := by
  refine spec_of (E := E113_spec_DotRat) Try.func113 rfl rfl rfl rfl ?_
  refine Tri.run 2 [] [.keep [0, 1, 4, 16] [4]] (K' := [.code [(1, 0)] 1, .code [] 2]) (σ' := ⟨[(0, .list (.rats a0)), (1, .list (.rats a1)), (4, .ptr 4 0), (16, .bool ((a0.length : Int) != (a1.length : Int)))], [(4, .box [.int .i64 0, .int .i64 0])]⟩) rfl trivial rfl ?_
  rcases bif_some h with ⟨hd1, h⟩ | ⟨hd1, h⟩
  · refine Tri.run 2 [.g true] [.keep [4, 5] [4]] (K' := [.code [(1, 0), (1, 0)] 1, .code [] 2]) (σ' := ⟨[(4, .ptr 4 0), (5, .bool false)], [(4, .box [.int .i64 0, .int .i64 0])]⟩) rfl ⟨hd1, trivial⟩ rfl ?_
    have h := Option.some.inj h
    subst h
    exact Tri.ret rfl ⟨.inl rfl, rfl, rfl⟩
  · obtain ⟨⟨v1, v2⟩, hk2, h⟩ := bind_some h
    refine Tri.run 3 [.g false, .r ⟨[], .agg [.int .i64 v1, .int .i64 v2], []⟩] [.keep [0, 1, 4, 6, 7] [4, 6]] (K' := [.code [(3, 0), (1, 0)] 0, .blk 0, .code [] 4]) (σ' := ⟨[(0, .list (.rats a0)), (1, .list (.rats a1)), (4, .ptr 4 0), (6, .ptr 6 0), (7, .int .i64 (0 : Int))], [(4, .box [.int .i64 0, .int .i64 0]), (6, .box [.int .i64 v1, .int .i64 v2])]⟩) rfl ⟨(w_spec_l3Int (0 : Int) (v1, v2) hk2), hd1, trivial⟩ rfl ?_
    obtain ⟨x1, hk10, h⟩ := bind_some h
    refine Tri.loop (K1 := [.code [(3, 0), (1, 0), (0, 0)] 0]) (K2 := [.blk 0, .code [] 4]) (fun (v3, v4, v5) => ⟨[(0, .list (.rats a0)), (1, .list (.rats a1)), (4, .ptr 4 0), (6, .ptr 6 0), (7, .int .i64 v3)], [(4, .box [.int .i64 0, .int .i64 0]), (6, .box [.int .i64 v4, .int .i64 v5])]⟩) (fun x e σ' => match x with | (.inl (v12, v13)) => e = .exit 0 ∧ σ' = ⟨[(4, .ptr 4 0), (6, .ptr 6 0)], [(4, .box [.int .i64 0, .int .i64 0]), (6, .box [.int .i64 v12, .int .i64 v13])]⟩ | (.inr r) => e = .ret ∧ q_spec_DotRat r σ') hk10 rfl rfl ?_ ?_
    · intro s x hs
      clear h
      have h := hs
      clear hs
      obtain ⟨v3, v4, v5⟩ := s
      refine Tri.run 1 [] [.keep [0, 1, 4, 6, 7, 22] [4, 6]] (K' := [.code [(3, 0), (1, 0), (0, 0), (0, 0)] 1, .code [(3, 0), (1, 0), (0, 0)] 1]) (σ' := ⟨[(0, .list (.rats a0)), (1, .list (.rats a1)), (4, .ptr 4 0), (6, .ptr 6 0), (7, .int .i64 v3), (22, .bool (decide (v3 < (a0.length : Int))))], [(4, .box [.int .i64 0, .int .i64 0]), (6, .box [.int .i64 v4, .int .i64 v5])]⟩) rfl trivial rfl ?_
      rcases bif_some h with ⟨hd3, h⟩ | ⟨hd3, h⟩
      · obtain ⟨hg4, h⟩ := grd_some h
        obtain ⟨hg5, h⟩ := grd_some h
        obtain ⟨⟨v6, v7, v8⟩, hk6, h⟩ := bind_some h
        refine Tri.run 2 [.g true, .r ⟨[], .tuple [.agg [.int .i64 v6, .int .i64 v7], .bool v8], []⟩] [.keep [0, 1, 4, 6, 7, 8, 9] [4, 6, 8]] (K' := [.code [(3, 0), (1, 0), (0, 0), (1, 0), (0, 0), (1, 0)] 0, .code [(3, 0), (1, 0), (0, 0), (1, 0), (0, 0)] 2, .blk 1, .code [(3, 0), (1, 0), (0, 0)] 2]) (σ' := ⟨[(0, .list (.rats a0)), (1, .list (.rats a1)), (4, .ptr 4 0), (6, .ptr 6 0), (7, .int .i64 v3), (8, .ptr 8 0), (9, .bool v8)], [(4, .box [.int .i64 0, .int .i64 0]), (6, .box [.int .i64 v4, .int .i64 v5]), (8, .box [.int .i64 v6, .int .i64 v7])]⟩) rfl ⟨(w_spec_MulRat ((a0.getD v3.toNat ⟨0, 0⟩).num) ((a0.getD v3.toNat ⟨0, 0⟩).den) ((a1.getD v3.toNat ⟨0, 0⟩).num) ((a1.getD v3.toNat ⟨0, 0⟩).den) (v6, v7, v8) hk6), hg5, hg4, hd3, trivial⟩ rfl ?_
        obtain ⟨⟨v9, v10, v11⟩, hk7, h⟩ := bind_some h
        rcases bif_some h with ⟨hd8, h⟩ | ⟨hd8, h⟩
        · refine Tri.run 2 [.r ⟨[], .tuple [.agg [.int .i64 v9, .int .i64 v10], .bool v11], []⟩, .g true] [.keep [0, 1, 4, 6, 7, 10, 48] [4, 6, 10]] (K' := [.code [(3, 0), (1, 0), (0, 0), (1, 0), (0, 0), (2, 0)] 1, .code [(3, 0), (1, 0), (0, 0), (1, 0), (0, 0)] 3, .blk 1, .code [(3, 0), (1, 0), (0, 0)] 2]) (σ' := ⟨[(0, .list (.rats a0)), (1, .list (.rats a1)), (4, .ptr 4 0), (6, .ptr 6 0), (7, .int .i64 v3), (10, .ptr 10 0), (48, .bool true)], [(4, .box [.int .i64 0, .int .i64 0]), (6, .box [.int .i64 v4, .int .i64 v5]), (10, .box [.int .i64 v9, .int .i64 v10])]⟩) rfl ⟨hd8, (w_spec_AddRat v4 v5 v6 v7 (v9, v10, v11) hk7), trivial⟩ rfl ?_
          refine Tri.run 2 [.g true] [.keep [4, 5] [4]] (K' := [.code [(3, 0), (1, 0), (0, 0), (1, 0), (0, 0), (2, 0), (1, 0)] 1, .code [(3, 0), (1, 0), (0, 0), (1, 0), (0, 0)] 3, .blk 1, .code [(3, 0), (1, 0), (0, 0)] 2]) (σ' := ⟨[(4, .ptr 4 0), (5, .bool false)], [(4, .box [.int .i64 0, .int .i64 0])]⟩) rfl ⟨rfl, trivial⟩ rfl ?_
          have h := Option.some.inj h
          subst h
          exact Tri.ret rfl ⟨nofun, rfl, rfl, rfl⟩
        · refine Tri.run 2 [.r ⟨[], .tuple [.agg [.int .i64 v9, .int .i64 v10], .bool v11], []⟩, .g false] [.keep [0, 1, 4, 6, 7, 10, 48] [4, 6, 10]] (K' := [.code [(3, 0), (1, 0), (0, 0), (1, 0), (0, 0), (2, 0)] 1, .code [(3, 0), (1, 0), (0, 0), (1, 0), (0, 0)] 3, .blk 1, .code [(3, 0), (1, 0), (0, 0)] 2]) (σ' := ⟨[(0, .list (.rats a0)), (1, .list (.rats a1)), (4, .ptr 4 0), (6, .ptr 6 0), (7, .int .i64 v3), (10, .ptr 10 0), (48, .bool (!v11))], [(4, .box [.int .i64 0, .int .i64 0]), (6, .box [.int .i64 v4, .int .i64 v5]), (10, .box [.int .i64 v9, .int .i64 v10])]⟩) rfl ⟨hd8, (w_spec_AddRat v4 v5 v6 v7 (v9, v10, v11) hk7), trivial⟩ rfl ?_
          rcases bif_some h with ⟨hd9, h⟩ | ⟨hd9, h⟩
          · refine Tri.run 2 [.g true] [.keep [4, 5] [4]] (K' := [.code [(3, 0), (1, 0), (0, 0), (1, 0), (0, 0), (2, 0), (1, 0)] 1, .code [(3, 0), (1, 0), (0, 0), (1, 0), (0, 0)] 3, .blk 1, .code [(3, 0), (1, 0), (0, 0)] 2]) (σ' := ⟨[(4, .ptr 4 0), (5, .bool false)], [(4, .box [.int .i64 0, .int .i64 0])]⟩) rfl ⟨hd9, trivial⟩ rfl ?_
            have h := Option.some.inj h
            subst h
            exact Tri.ret rfl ⟨nofun, rfl, rfl, rfl⟩
          · refine Tri.run 3 [.g false] [.keep [0, 1, 4, 6, 7] [4, 6]] (K' := []) (σ' := ⟨[(0, .list (.rats a0)), (1, .list (.rats a1)), (4, .ptr 4 0), (6, .ptr 6 0), (7, .int .i64 (IntKind.i64.wrap (v3 + (1 : Int))))], [(4, .box [.int .i64 0, .int .i64 0]), (6, .box [.int .i64 v9, .int .i64 v10])]⟩) rfl ⟨hd9, trivial⟩ rfl ?_
            have h := Option.some.inj h
            subst h
            exact Tri.nil ⟨rfl, rfl⟩
      · refine Tri.run 1 [.g false] [.keep [4, 6] [4, 6]] (K' := [.code [(3, 0), (1, 0), (0, 0), (0, 0), (1, 1)] 0, .code [(3, 0), (1, 0), (0, 0)] 1]) (σ' := ⟨[(4, .ptr 4 0), (6, .ptr 6 0)], [(4, .box [.int .i64 0, .int .i64 0]), (6, .box [.int .i64 v4, .int .i64 v5])]⟩) rfl ⟨hd3, trivial⟩ rfl ?_
        have h := Option.some.inj h
        subst h
        exact Tri.out 0 rfl ⟨nofun, rfl, rfl⟩
    · intro e σ' hne hq
      rcases x1 with ⟨v12, v13⟩ | r
      · obtain ⟨rfl, rfl⟩ := hq
        refine TriX.exit (K' := [.code [] 4]) rfl ?_
        refine Tri.run 1 [] [.keep [4, 5] [4]] (K' := [.code [] 5]) (σ' := ⟨[(4, .ptr 4 0), (5, .bool true)], [(4, .box [.int .i64 v12, .int .i64 v13])]⟩) rfl trivial rfl ?_
        have h := Option.some.inj h
        subst h
        exact Tri.ret rfl ⟨.inl rfl, rfl, rfl⟩
      · obtain ⟨rfl, hq⟩ := hq
        have h := Option.some.inj h
        subst h
        exact TriX.ret ⟨.inl rfl, hq⟩
/-! spec.l5Dot -/
noncomputable def E97_spec_l5Dot : Env := ⟨Try.prog, tys, (Try.f97.body).getD .skip, 29, tysOk, mixedOk⟩
abbrev q_spec_l5Dot (r : Int × Int × Bool) (σ' : ASt) : Prop := resAV E97_spec_l5Dot.T σ' Try.f97.results.toList = some (.tuple [.agg [.int .i64 r.1, .int .i64 r.2.1], .bool r.2.2]) ∧ keepO σ'.ob (namesO []) = []
noncomputable def m_spec_l5Dot (a0 : List Int) (a1 : List Q) : Option (Int × Int × Bool) :=
(m_spec_IntsToRats a0).bind fun (v1, v2) =>
(m_spec_DotRat v2 a1).bind fun (v3, v4, v5) =>
bif !v1 then
(some (0, 0, false))
else
(bif !v5 then
(some (0, 0, false))
else
(some (v3, v4, true)))
theorem w_spec_l5Dot (a0 : List Int) (a1 : List Q) (r : Int × Int × Bool) (h : m_spec_l5Dot a0 a1 = some r) : AM.Spec Try.prog 97 [.list (.ints a0), .list (.rats a1)] [] (.tuple [.agg [.int .i64 r.1, .int .i64 r.2.1], .bool r.2.2]) [] := by
  refine spec_of (E := E97_spec_l5Dot) Try.func97 rfl rfl rfl rfl ?_
  refine Tri.run 1 [] [.keep [0, 1, 4] [4]] (K' := [.code [(1, 0)] 0, .code [] 2]) (σ' := ⟨[(0, .list (.ints a0)), (1, .list (.rats a1)), (4, .ptr 4 0)], [(4, .box [.int .i64 0, .int .i64 0])]⟩) rfl trivial rfl ?_
  obtain ⟨⟨v1, v2⟩, hk1, h⟩ := bind_some h
  obtain ⟨⟨v3, v4, v5⟩, hk2, h⟩ := bind_some h
  refine Tri.run 2 [.r ⟨[], .tuple [.sl 1100 0, .bool v1], [(1100, .arr 45 0 0 (.rats v2))]⟩, .r ⟨[], .tuple [.agg [.int .i64 v3, .int .i64 v4], .bool v5], []⟩] [.keep [4, 7, 8, 9] [4, 8]] (K' := [.code [(3, 0), (0, 0)] 0, .code [(3, 0)] 1, .code [] 4]) (σ' := ⟨[(4, .ptr 4 0), (7, .bool v1), (8, .ptr 8 0), (9, .bool v5)], [(4, .box [.int .i64 0, .int .i64 0]), (8, .box [.int .i64 v3, .int .i64 v4])]⟩) rfl ⟨(w_spec_DotRat v2 a1 (v3, v4, v5) hk2), ((w_spec_IntsToRats a0 (v1, v2) hk1).swap 1000 1100), trivial⟩ rfl ?_
  rcases bif_some h with ⟨hd3, h⟩ | ⟨hd3, h⟩
  · refine Tri.run 1 [.g true] [.keep [4, 8, 26] [4, 8]] (K' := [.code [(3, 0)] 1, .code [] 4]) (σ' := ⟨[(4, .ptr 4 0), (8, .ptr 8 0), (26, .bool true)], [(4, .box [.int .i64 0, .int .i64 0]), (8, .box [.int .i64 v3, .int .i64 v4])]⟩) rfl ⟨hd3, trivial⟩ rfl ?_
    refine Tri.run 2 [.g true] [.keep [4, 5] [4]] (K' := [.code [(3, 0), (1, 0)] 1, .code [] 4]) (σ' := ⟨[(4, .ptr 4 0), (5, .bool false)], [(4, .box [.int .i64 0, .int .i64 0])]⟩) rfl ⟨rfl, trivial⟩ rfl ?_
    have h := Option.some.inj h
    subst h
    exact Tri.ret rfl ⟨.inl rfl, rfl, rfl⟩
  · refine Tri.run 1 [.g false] [.keep [4, 8, 26] [4, 8]] (K' := [.code [(3, 0)] 1, .code [] 4]) (σ' := ⟨[(4, .ptr 4 0), (8, .ptr 8 0), (26, .bool (!v5))], [(4, .box [.int .i64 0, .int .i64 0]), (8, .box [.int .i64 v3, .int .i64 v4])]⟩) rfl ⟨hd3, trivial⟩ rfl ?_
    rcases bif_some h with ⟨hd4, h⟩ | ⟨hd4, h⟩
    · refine Tri.run 2 [.g true] [.keep [4, 5] [4]] (K' := [.code [(3, 0), (1, 0)] 1, .code [] 4]) (σ' := ⟨[(4, .ptr 4 0), (5, .bool false)], [(4, .box [.int .i64 0, .int .i64 0])]⟩) rfl ⟨hd4, trivial⟩ rfl ?_
      have h := Option.some.inj h
      subst h
      exact Tri.ret rfl ⟨.inl rfl, rfl, rfl⟩
    · refine Tri.run 2 [.g false] [.keep [4, 5] [4]] (K' := [.code [] 5]) (σ' := ⟨[(4, .ptr 4 0), (5, .bool true)], [(4, .box [.int .i64 v3, .int .i64 v4])]⟩) rfl ⟨hd4, trivial⟩ rfl ?_
      have h := Option.some.inj h
      subst h
      exact Tri.ret rfl ⟨.inl rfl, rfl, rfl⟩
/-! spec.IsBalancedCollection -/
noncomputable def E52_spec_IsBalancedCollection : Env := ⟨Try.prog, tys, (Try.f52.body).getD .skip, 58, tysOk, mixedOk⟩
abbrev q_spec_IsBalancedCollection (r : Bool) (σ' : ASt) : Prop := resAV E52_spec_IsBalancedCollection.T σ' Try.f52.results.toList = some (.bool r) ∧ keepO σ'.ob (namesO []) = []
noncomputable def l_spec_IsBalancedCollection_1 (a1 : List Q) (v4 : Int) : (Int × (List Int)) → Option ((Int × (List Int)) ⊕ ((List Int)))
  | (v5, v6) => (
bif decide (v5 ≤ (a1.length : Int)) then
((m_spec_HasPlayer v5 v4).bind fun v7 =>
(m_spec_l1Bit v7).bind fun v8 =>
grd (v6.length + ([v8] : List Int).length ≤ room) <|
some (.inl (IntKind.i64.wrap (v5 + (1 : Int)), v6 ++ [v8])))
else
(some (.inr v6)))
noncomputable def l_spec_IsBalancedCollection_0 (a0 : Int) (a1 : List Q) (v4 : Int) : Option (Int ⊕ (Unit ⊕ Bool)) :=
bif decide (v4 < a0) then
((iter (l_spec_IsBalancedCollection_1 a1 v4) ((1 : Int), [])).bind fun
| v9 => (
(m_spec_l5Dot v9 a1).bind fun (v10, v11, v12) =>
bif !v12 then
(some (.inr (.inr false)))
else
((m_spec_l3Int (1 : Int)).bind fun (v13, v14) =>
bif !(v10 == v13 && v11 == v14) then
(some (.inr (.inr false)))
else
(some (.inl (IntKind.i64.wrap (v4 + (1 : Int))))))))
else
(some (.inr (.inl ())))
noncomputable def m_spec_IsBalancedCollection (a0 : Int) (a1 : List Q) : Option Bool :=
(m_spec_l1In a0 (1 : Int) (5 : Int)).bind fun v1 =>
bif !v1 then
(some false)
else
((m_spec_CountCoalitions a0).bind fun v2 =>
bif (a1.length : Int) != (IntKind.i64.wrap (v2 - (1 : Int))) then
(some false)
else
((m_spec_l5NotNegative a1).bind fun v3 =>
bif !v3 then
(some false)
else
((iter (l_spec_IsBalancedCollection_0 a0 a1) (0 : Int)).bind fun
| (.inl _) => (
some true)
| (.inr r) => some r)))
theorem w_spec_IsBalancedCollection (a0 : Int) (a1 : List Q) (r : Bool) (h : m_spec_IsBalancedCollection a0 a1 = some r) : AM.Spec Try.prog 52 [.int .i64 a0, .list (.rats a1)] [] (.bool r) [] := by
  refine spec_of (E := E52_spec_IsBalancedCollection) Try.func52 rfl rfl rfl rfl ?_
  refine Tri.run 1 [] [.keep [0, 1] []] (K' := [.code [(1, 0), (0, 0)] 0, .code [(1, 0)] 1, .code [] 2]) (σ' := ⟨[(0, .int .i64 a0), (1, .list (.rats a1))], []⟩) rfl trivial rfl ?_
  obtain ⟨v1, hk1, h⟩ := bind_some h
  rcases bif_some h with ⟨hd2, h⟩ | ⟨hd2, h⟩
  · refine Tri.run 1 [.r ⟨[], .bool v1, []⟩, .g true, .g true] [.keep [0, 1, 25] []] (K' := [.code [(1, 0)] 1, .code [] 2]) (σ' := ⟨[(0, .int .i64 a0), (1, .list (.rats a1)), (25, .bool true)], []⟩) rfl ⟨rfl, hd2, (w_spec_l1In a0 (1 : Int) (5 : Int) v1 hk1), trivial⟩ rfl ?_
    refine Tri.run 2 [.g true] [.keep [4] []] (K' := [.code [(1, 0), (1, 0)] 1, .code [] 2]) (σ' := ⟨[(4, .bool false)], []⟩) rfl ⟨rfl, trivial⟩ rfl ?_
    have h := Option.some.inj h
    subst h
    exact Tri.ret rfl ⟨.inl rfl, rfl, rfl⟩
  · obtain ⟨v2, hk3, h⟩ := bind_some h
    rcases bif_some h with ⟨hd4, h⟩ | ⟨hd4, h⟩
    · refine Tri.run 1 [.r ⟨[], .bool v1, []⟩, .g false, .r ⟨[], .int .i64 v2, []⟩, .g true] [.keep [0, 1, 25] []] (K' := [.code [(1, 0)] 1, .code [] 2]) (σ' := ⟨[(0, .int .i64 a0), (1, .list (.rats a1)), (25, .bool true)], []⟩) rfl ⟨hd4, (w_spec_CountCoalitions a0 v2 hk3), hd2, (w_spec_l1In a0 (1 : Int) (5 : Int) v1 hk1), trivial⟩ rfl ?_
      refine Tri.run 2 [.g true] [.keep [4] []] (K' := [.code [(1, 0), (1, 0)] 1, .code [] 2]) (σ' := ⟨[(4, .bool false)], []⟩) rfl ⟨rfl, trivial⟩ rfl ?_
      have h := Option.some.inj h
      subst h
      exact Tri.ret rfl ⟨.inl rfl, rfl, rfl⟩
    · obtain ⟨v3, hk5, h⟩ := bind_some h
      refine Tri.run 1 [.r ⟨[], .bool v1, []⟩, .g false, .r ⟨[], .int .i64 v2, []⟩, .g false, .r ⟨[], .bool v3, []⟩] [.keep [0, 1, 25] []] (K' := [.code [(1, 0)] 1, .code [] 2]) (σ' := ⟨[(0, .int .i64 a0), (1, .list (.rats a1)), (25, .bool (!v3))], []⟩) rfl ⟨(w_spec_l5NotNegative a1 v3 hk5), hd4, (w_spec_CountCoalitions a0 v2 hk3), hd2, (w_spec_l1In a0 (1 : Int) (5 : Int) v1 hk1), trivial⟩ rfl ?_
      rcases bif_some h with ⟨hd6, h⟩ | ⟨hd6, h⟩
      · refine Tri.run 2 [.g true] [.keep [4] []] (K' := [.code [(1, 0), (1, 0)] 1, .code [] 2]) (σ' := ⟨[(4, .bool false)], []⟩) rfl ⟨hd6, trivial⟩ rfl ?_
        have h := Option.some.inj h
        subst h
        exact Tri.ret rfl ⟨.inl rfl, rfl, rfl⟩
      · refine Tri.run 2 [.g false] [.keep [0, 1, 5] []] (K' := [.code [(2, 0), (1, 0)] 0, .blk 0, .code [] 3]) (σ' := ⟨[(0, .int .i64 a0), (1, .list (.rats a1)), (5, .int .i64 (0 : Int))], []⟩) rfl ⟨hd6, trivial⟩ rfl ?_
        obtain ⟨x2, hk17, h⟩ := bind_some h
        refine Tri.loop (K1 := [.code [(2, 0), (1, 0), (0, 0)] 0]) (K2 := [.blk 0, .code [] 3]) (fun v4 => ⟨[(0, .int .i64 a0), (1, .list (.rats a1)), (5, .int .i64 v4)], []⟩) (fun x e σ' => match x with | (.inl _) => e = .exit 0 ∧ σ' = ⟨[], []⟩ | (.inr r) => e = .ret ∧ q_spec_IsBalancedCollection r σ') hk17 rfl rfl ?_ ?_
        · intro v4 x hs
          clear h
          have h := hs
          clear hs
          refine Tri.run 1 [] [.keep [0, 1, 5, 28] []] (K' := [.code [(2, 0), (1, 0), (0, 0), (0, 0)] 1, .code [(2, 0), (1, 0), (0, 0)] 1]) (σ' := ⟨[(0, .int .i64 a0), (1, .list (.rats a1)), (5, .int .i64 v4), (28, .bool (decide (v4 < a0)))], []⟩) rfl trivial rfl ?_
          rcases bif_some h with ⟨hd7, h⟩ | ⟨hd7, h⟩
          · refine Tri.run 3 [.g true] [.keep [0, 1, 5, 6, 7] [31]] (K' := [.code [(2, 0), (1, 0), (0, 0), (1, 0), (0, 0), (1, 0), (1, 0)] 0, .blk 2, .code [(2, 0), (1, 0), (0, 0), (1, 0), (0, 0)] 2, .blk 1, .code [(2, 0), (1, 0), (0, 0)] 2]) (σ' := ⟨[(0, .int .i64 a0), (1, .list (.rats a1)), (5, .int .i64 v4), (6, .sl 31 0), (7, .int .i64 (1 : Int))], [(31, .arr 3 0 0 (.ints []))]⟩) rfl ⟨hd7, trivial⟩ rfl ?_
            obtain ⟨v9, hk12, h⟩ := bind_some h
            refine Tri.loop (K1 := [.code [(2, 0), (1, 0), (0, 0), (1, 0), (0, 0), (1, 0), (1, 0), (0, 0)] 0]) (K2 := [.blk 2, .code [(2, 0), (1, 0), (0, 0), (1, 0), (0, 0)] 2, .blk 1, .code [(2, 0), (1, 0), (0, 0)] 2]) (fun (v5, v6) => ⟨[(0, .int .i64 a0), (1, .list (.rats a1)), (5, .int .i64 v4), (6, .sl 31 0), (7, .int .i64 v5)], [(31, .arr 3 0 0 (.ints v6))]⟩) (fun x e σ' => match x with | v9 => e = .exit 2 ∧ σ' = ⟨[(0, .int .i64 a0), (1, .list (.rats a1)), (5, .int .i64 v4), (6, .sl 31 0)], [(31, .arr 3 0 0 (.ints v9))]⟩) hk12 rfl rfl ?_ ?_
            · intro s x hs
              clear h
              have h := hs
              clear hs
              obtain ⟨v5, v6⟩ := s
              refine Tri.run 1 [] [.keep [0, 1, 5, 6, 7, 35] [31]] (K' := [.code [(2, 0), (1, 0), (0, 0), (1, 0), (0, 0), (1, 0), (1, 0), (0, 0), (0, 0)] 1, .code [(2, 0), (1, 0), (0, 0), (1, 0), (0, 0), (1, 0), (1, 0), (0, 0)] 1]) (σ' := ⟨[(0, .int .i64 a0), (1, .list (.rats a1)), (5, .int .i64 v4), (6, .sl 31 0), (7, .int .i64 v5), (35, .bool (decide (v5 ≤ (a1.length : Int))))], [(31, .arr 3 0 0 (.ints v6))]⟩) rfl trivial rfl ?_
              rcases bif_some h with ⟨hd8, h⟩ | ⟨hd8, h⟩
              · obtain ⟨v7, hk9, h⟩ := bind_some h
                obtain ⟨v8, hk10, h⟩ := bind_some h
                obtain ⟨hg11, h⟩ := grd_some h
                refine Tri.run 3 [.g true, .r ⟨[], .bool v7, []⟩, .r ⟨[], .int .i64 v8, []⟩] [.rever 31, .keep [0, 1, 5, 6, 7] [31]] (K' := []) (σ' := ⟨[(0, .int .i64 a0), (1, .list (.rats a1)), (5, .int .i64 v4), (6, .sl 31 0), (7, .int .i64 (IntKind.i64.wrap (v5 + (1 : Int))))], [(31, .arr 3 0 0 (.ints (v6 ++ [v8])))]⟩) rfl ⟨hg11, (w_spec_l1Bit v7 v8 hk10), (w_spec_HasPlayer v5 v4 v7 hk9), hd8, trivial⟩ rfl ?_
                have h := Option.some.inj h
                subst h
                exact Tri.nil ⟨rfl, rfl⟩
              · refine Tri.run 1 [.g false] [.keep [0, 1, 5, 6] [31]] (K' := [.code [(2, 0), (1, 0), (0, 0), (1, 0), (0, 0), (1, 0), (1, 0), (0, 0), (0, 0), (1, 1)] 0, .code [(2, 0), (1, 0), (0, 0), (1, 0), (0, 0), (1, 0), (1, 0), (0, 0)] 1]) (σ' := ⟨[(0, .int .i64 a0), (1, .list (.rats a1)), (5, .int .i64 v4), (6, .sl 31 0)], [(31, .arr 3 0 0 (.ints v6))]⟩) rfl ⟨hd8, trivial⟩ rfl ?_
                have h := Option.some.inj h
                subst h
                exact Tri.out 2 rfl ⟨nofun, rfl, rfl⟩
            · intro e σ' hne hq
              obtain ⟨rfl, rfl⟩ := hq
              refine TriX.exit (K' := [.code [(2, 0), (1, 0), (0, 0), (1, 0), (0, 0)] 2, .blk 1, .code [(2, 0), (1, 0), (0, 0)] 2]) rfl ?_
              obtain ⟨⟨v10, v11, v12⟩, hk13, h⟩ := bind_some h
              rcases bif_some h with ⟨hd14, h⟩ | ⟨hd14, h⟩
              · refine Tri.run 2 [.r ⟨[], .tuple [.agg [.int .i64 v10, .int .i64 v11], .bool v12], []⟩, .g true] [.keep [0, 1, 5, 57] []] (K' := [.code [(2, 0), (1, 0), (0, 0), (1, 0), (0, 0)] 4, .blk 1, .code [(2, 0), (1, 0), (0, 0)] 2]) (σ' := ⟨[(0, .int .i64 a0), (1, .list (.rats a1)), (5, .int .i64 v4), (57, .bool true)], []⟩) rfl ⟨hd14, (w_spec_l5Dot v9 a1 (v10, v11, v12) hk13), trivial⟩ rfl ?_
                refine Tri.run 2 [.g true] [.keep [4] []] (K' := [.code [(2, 0), (1, 0), (0, 0), (1, 0), (0, 0), (4, 0)] 1, .blk 1, .code [(2, 0), (1, 0), (0, 0)] 2]) (σ' := ⟨[(4, .bool false)], []⟩) rfl ⟨rfl, trivial⟩ rfl ?_
                have h := Option.some.inj h
                subst h
                exact Tri.ret rfl ⟨nofun, rfl, rfl, rfl⟩
              · obtain ⟨⟨v13, v14⟩, hk15, h⟩ := bind_some h
                refine Tri.run 2 [.r ⟨[], .tuple [.agg [.int .i64 v10, .int .i64 v11], .bool v12], []⟩, .g false, .r ⟨[], .agg [.int .i64 v13, .int .i64 v14], []⟩] [.keep [0, 1, 5, 57] []] (K' := [.code [(2, 0), (1, 0), (0, 0), (1, 0), (0, 0)] 4, .blk 1, .code [(2, 0), (1, 0), (0, 0)] 2]) (σ' := ⟨[(0, .int .i64 a0), (1, .list (.rats a1)), (5, .int .i64 v4), (57, .bool (!(v10 == v13 && v11 == v14)))], []⟩) rfl ⟨(w_spec_l3Int (1 : Int) (v13, v14) hk15), hd14, (w_spec_l5Dot v9 a1 (v10, v11, v12) hk13), trivial⟩ rfl ?_
                rcases bif_some h with ⟨hd16, h⟩ | ⟨hd16, h⟩
                · refine Tri.run 2 [.g true] [.keep [4] []] (K' := [.code [(2, 0), (1, 0), (0, 0), (1, 0), (0, 0), (4, 0)] 1, .blk 1, .code [(2, 0), (1, 0), (0, 0)] 2]) (σ' := ⟨[(4, .bool false)], []⟩) rfl ⟨hd16, trivial⟩ rfl ?_
                  have h := Option.some.inj h
                  subst h
                  exact Tri.ret rfl ⟨nofun, rfl, rfl, rfl⟩
                · refine Tri.run 2 [.g false] [.keep [0, 1, 5] []] (K' := []) (σ' := ⟨[(0, .int .i64 a0), (1, .list (.rats a1)), (5, .int .i64 (IntKind.i64.wrap (v4 + (1 : Int))))], []⟩) rfl ⟨hd16, trivial⟩ rfl ?_
                  have h := Option.some.inj h
                  subst h
                  exact Tri.nil ⟨rfl, rfl⟩
          · refine Tri.run 1 [.g false] [.keep [] []] (K' := [.code [(2, 0), (1, 0), (0, 0), (0, 0), (1, 1)] 0, .code [(2, 0), (1, 0), (0, 0)] 1]) (σ' := ⟨[], []⟩) rfl ⟨hd7, trivial⟩ rfl ?_
            have h := Option.some.inj h
            subst h
            exact Tri.out 0 rfl ⟨nofun, rfl, rfl⟩
        · intro e σ' hne hq
          rcases x2 with _ | r
          · obtain ⟨rfl, rfl⟩ := hq
            refine TriX.exit (K' := [.code [] 3]) rfl ?_
            refine Tri.run 1 [] [.keep [4] []] (K' := [.code [] 4]) (σ' := ⟨[(4, .bool true)], []⟩) rfl trivial rfl ?_
            have h := Option.some.inj h
            subst h
            exact Tri.ret rfl ⟨.inl rfl, rfl, rfl⟩
          · obtain ⟨rfl, hq⟩ := hq
            have h := Option.some.inj h
            subst h
            exact TriX.ret ⟨.inl rfl, hq⟩
/-! impl.within -/
noncomputable def E66_impl_within : Env := ⟨Try.prog, tys, (Try.f66.body).getD .skip, 15, tysOk, mixedOk⟩
abbrev q_impl_within (r : Bool) (σ' : ASt) : Prop := resAV E66_impl_within.T σ' Try.f66.results.toList = some (.bool r) ∧ keepO σ'.ob (namesO []) = []
noncomputable def m_impl_within (a0 : Int) (a1 : Int) (a2 : Int) : Option Bool :=
bif decide (a0 ≥ a1) then
(some (decide (a0 ≤ a2)))
else
(some false)
theorem w_impl_within (a0 : Int) (a1 : Int) (a2 : Int) (r : Bool) (h : m_impl_within a0 a1 a2 = some r) : AM.Spec Try.prog 66 [.int .i64 a0, .int .i64 a1, .int .i64 a2] [] (.bool r) [] := by
  refine spec_of (E := E66_impl_within) Try.func66 rfl rfl rfl rfl ?_
  refine Tri.run 1 [] [.keep [0, 1, 2] []] (K' := [.code [(1, 0)] 0, .code [] 2]) (σ' := ⟨[(0, .int .i64 a0), (1, .int .i64 a1), (2, .int .i64 a2)], []⟩) rfl trivial rfl ?_
  rcases bif_some h with ⟨hd1, h⟩ | ⟨hd1, h⟩
  · refine Tri.run 1 [.g true] [.keep [6] []] (K' := [.code [] 2]) (σ' := ⟨[(6, .bool (decide (a0 ≤ a2)))], []⟩) rfl ⟨hd1, trivial⟩ rfl ?_
    have h := Option.some.inj h
    subst h
    exact Tri.ret rfl ⟨.inl rfl, rfl, rfl⟩
  · refine Tri.run 1 [.g false] [.keep [6] []] (K' := [.code [] 2]) (σ' := ⟨[(6, .bool false)], []⟩) rfl ⟨hd1, trivial⟩ rfl ?_
    have h := Option.some.inj h
    subst h
    exact Tri.ret rfl ⟨.inl rfl, rfl, rfl⟩
/-! impl.CountCoalitions -/
noncomputable def E67_impl_CountCoalitions : Env := ⟨Try.prog, tys, (Try.f67.body).getD .skip, 8, tysOk, mixedOk⟩
abbrev q_impl_CountCoalitions (r : Int) (σ' : ASt) : Prop := resAV E67_impl_CountCoalitions.T σ' Try.f67.results.toList = some (.int .i64 r) ∧ keepO σ'.ob (namesO []) = []
noncomputable def m_impl_CountCoalitions (a0 : Int) : Option Int :=
(m_impl_within a0 (0 : Int) (5 : Int)).bind fun v1 =>
bif !v1 then
(some (0 : Int))
else
(grd ((0 : Int) ≤ a0) <|
some (IntKind.i64.wrap ((1 : Int) * 2 ^ (min a0.toNat 64))))
theorem w_impl_CountCoalitions (a0 : Int) (r : Int) (h : m_impl_CountCoalitions a0 = some r) : AM.Spec Try.prog 67 [.int .i64 a0] [] (.int .i64 r) [] := by
  refine spec_of (E := E67_impl_CountCoalitions) Try.func67 rfl rfl rfl rfl ?_
  refine Tri.run 1 [] [.keep [0] []] (K' := [.code [(1, 0), (0, 0)] 0, .code [(1, 0)] 1, .code [] 2]) (σ' := ⟨[(0, .int .i64 a0)], []⟩) rfl trivial rfl ?_
  obtain ⟨v1, hk1, h⟩ := bind_some h
  refine Tri.run 1 [.r ⟨[], .bool v1, []⟩] [.keep [0, 5] []] (K' := [.code [(1, 0)] 1, .code [] 2]) (σ' := ⟨[(0, .int .i64 a0), (5, .bool (!v1))], []⟩) rfl ⟨(w_impl_within a0 (0 : Int) (5 : Int) v1 hk1), trivial⟩ rfl ?_
  rcases bif_some h with ⟨hd2, h⟩ | ⟨hd2, h⟩
  · refine Tri.run 2 [.g true] [.keep [2] []] (K' := [.code [(1, 0), (1, 0)] 1, .code [] 2]) (σ' := ⟨[(2, .int .i64 (0 : Int))], []⟩) rfl ⟨hd2, trivial⟩ rfl ?_
    have h := Option.some.inj h
    subst h
    exact Tri.ret rfl ⟨.inl rfl, rfl, rfl⟩
  · obtain ⟨hg3, h⟩ := grd_some h
    refine Tri.run 2 [.g false] [.keep [2] []] (K' := [.code [] 3]) (σ' := ⟨[(2, .int .i64 (IntKind.i64.wrap ((1 : Int) * 2 ^ (min a0.toNat 64))))], []⟩) rfl ⟨hg3, hd2, trivial⟩ rfl ?_
    have h := Option.some.inj h
    subst h
    exact Tri.ret rfl ⟨.inl rfl, rfl, rfl⟩
/-! impl.common -/
noncomputable def E119_impl_common : Env := ⟨Try.prog, tys, (Try.f119.body).getD .skip, 15, tysOk, mixedOk⟩
abbrev q_impl_common (r : Int) (σ' : ASt) : Prop := resAV E119_impl_common.T σ' Try.f119.results.toList = some (.int .i64 r) ∧ keepO σ'.ob (namesO []) = []
noncomputable def l_impl_common_0 : (Int × Int) → Option ((Int × Int) ⊕ Int)
  | (v1, v2) => (
bif v2 != (0 : Int) then
(grd (v2 ≠ 0) <|
some (.inl (v2, v1.tmod v2)))
else
(some (.inr v1)))
noncomputable def m_impl_common (a0 : Int) (a1 : Int) : Option Int :=
(iter (l_impl_common_0) (a0, a1)).bind fun
| v3 => (
some (if IntKind.i64.wrap (0 - v3) > v3 then IntKind.i64.wrap (0 - v3) else v3))
theorem w_impl_common (a0 : Int) (a1 : Int) (r : Int) (h : m_impl_common a0 a1 = some r) : AM.Spec Try.prog 119 [.int .i64 a0, .int .i64 a1] [] (.int .i64 r) [] := by
  refine spec_of (E := E119_impl_common) Try.func119 rfl rfl rfl rfl ?_
  refine Tri.run 1 [] [.keep [0, 1] []] (K' := [.code [(1, 0), (0, 0)] 0, .blk 0, .code [] 2]) (σ' := ⟨[(0, .int .i64 a0), (1, .int .i64 a1)], []⟩) rfl trivial rfl ?_
  obtain ⟨v3, hk3, h⟩ := bind_some h
  refine Tri.loop (K1 := [.code [(1, 0), (0, 0), (0, 0)] 0]) (K2 := [.blk 0, .code [] 2]) (fun (v1, v2) => ⟨[(0, .int .i64 v1), (1, .int .i64 v2)], []⟩) (fun x e σ' => match x with | v3 => e = .exit 0 ∧ σ' = ⟨[(0, .int .i64 v3)], []⟩) hk3 rfl rfl ?_ ?_
  · intro s x hs
    clear h
    have h := hs
    clear hs
    obtain ⟨v1, v2⟩ := s
    refine Tri.run 1 [] [.keep [0, 1, 6] []] (K' := [.code [(1, 0), (0, 0), (0, 0), (0, 0)] 1, .code [(1, 0), (0, 0), (0, 0)] 1]) (σ' := ⟨[(0, .int .i64 v1), (1, .int .i64 v2), (6, .bool (v2 != (0 : Int)))], []⟩) rfl trivial rfl ?_
    rcases bif_some h with ⟨hd1, h⟩ | ⟨hd1, h⟩
    · obtain ⟨hg2, h⟩ := grd_some h
      refine Tri.run 2 [.g true] [.keep [0, 1] []] (K' := []) (σ' := ⟨[(0, .int .i64 v2), (1, .int .i64 (v1.tmod v2))], []⟩) rfl ⟨hg2, hd1, trivial⟩ rfl ?_
      have h := Option.some.inj h
      subst h
      exact Tri.nil ⟨rfl, rfl⟩
    · refine Tri.run 1 [.g false] [.keep [0] []] (K' := [.code [(1, 0), (0, 0), (0, 0), (0, 0), (1, 1)] 0, .code [(1, 0), (0, 0), (0, 0)] 1]) (σ' := ⟨[(0, .int .i64 v1)], []⟩) rfl ⟨hd1, trivial⟩ rfl ?_
      have h := Option.some.inj h
      subst h
      exact Tri.out 0 rfl ⟨nofun, rfl, rfl⟩
  · intro e σ' hne hq
    obtain ⟨rfl, rfl⟩ := hq
    refine TriX.exit (K' := [.code [] 2]) rfl ?_
    refine Tri.run 1 [] [.keep [4] []] (K' := [.code [] 3]) (σ' := ⟨[(4, .int .i64 (if IntKind.i64.wrap (0 - v3) > v3 then IntKind.i64.wrap (0 - v3) else v3))], []⟩) rfl trivial rfl ?_
    have h := Option.some.inj h
    subst h
    exact Tri.ret rfl ⟨.inl rfl, rfl, rfl⟩
/-! impl.IsValidRat -/
noncomputable def E110_impl_IsValidRat : Env := ⟨Try.prog, tys, (Try.f110.body).getD .skip, 19, tysOk, mixedOk⟩
abbrev q_impl_IsValidRat (r : Bool) (σ' : ASt) : Prop := resAV E110_impl_IsValidRat.T σ' Try.f110.results.toList = some (.bool r) ∧ keepO σ'.ob (namesO []) = []
noncomputable def m_impl_IsValidRat (a0 : Int) (a1 : Int) : Option Bool :=
(m_impl_within a1 (1 : Int) (1000000000 : Int)).bind fun v1 =>
bif v1 then
((m_impl_within a0 (-1000000000 : Int) (1000000000 : Int)).bind fun v2 =>
bif v2 then
((m_impl_common a0 a1).bind fun v3 =>
some (v3 == (1 : Int)))
else
(some false))
else
(some false)
theorem w_impl_IsValidRat (a0 : Int) (a1 : Int) (r : Bool) (h : m_impl_IsValidRat a0 a1 = some r) : AM.Spec Try.prog 110 [.agg [.int .i64 a0, .int .i64 a1]] [] (.bool r) [] := by
  refine spec_of (E := E110_impl_IsValidRat) Try.func110 rfl rfl rfl rfl ?_
  refine Tri.run 1 [] [.keep [1] [1]] (K' := [.code [(1, 0)] 0, .code [] 2]) (σ' := ⟨[(1, .ptr 1 0)], [(1, .box [.int .i64 a0, .int .i64 a1])]⟩) rfl trivial rfl ?_
  obtain ⟨v1, hk1, h⟩ := bind_some h
  rcases bif_some h with ⟨hd2, h⟩ | ⟨hd2, h⟩
  · obtain ⟨v2, hk3, h⟩ := bind_some h
    rcases bif_some h with ⟨hd4, h⟩ | ⟨hd4, h⟩
    · obtain ⟨v3, hk5, h⟩ := bind_some h
      refine Tri.run 1 [.r ⟨[], .bool v1, []⟩, .g true, .r ⟨[], .bool v2, []⟩, .g true, .r ⟨[], .int .i64 v3, []⟩] [.keep [2] []] (K' := [.code [] 2]) (σ' := ⟨[(2, .bool (v3 == (1 : Int)))], []⟩) rfl ⟨(w_impl_common a0 a1 v3 hk5), hd4, (w_impl_within a0 (-1000000000 : Int) (1000000000 : Int) v2 hk3), hd2, (w_impl_within a1 (1 : Int) (1000000000 : Int) v1 hk1), trivial⟩ rfl ?_
      have h := Option.some.inj h
      subst h
      exact Tri.ret rfl ⟨.inl rfl, rfl, rfl⟩
    · refine Tri.run 1 [.r ⟨[], .bool v1, []⟩, .g true, .r ⟨[], .bool v2, []⟩, .g false] [.keep [2] []] (K' := [.code [] 2]) (σ' := ⟨[(2, .bool false)], []⟩) rfl ⟨hd4, (w_impl_within a0 (-1000000000 : Int) (1000000000 : Int) v2 hk3), hd2, (w_impl_within a1 (1 : Int) (1000000000 : Int) v1 hk1), trivial⟩ rfl ?_
      have h := Option.some.inj h
      subst h
      exact Tri.ret rfl ⟨.inl rfl, rfl, rfl⟩
  · refine Tri.run 1 [.r ⟨[], .bool v1, []⟩, .g false, .g false] [.keep [2] []] (K' := [.code [] 2]) (σ' := ⟨[(2, .bool false)], []⟩) rfl ⟨rfl, hd2, (w_impl_within a1 (1 : Int) (1000000000 : Int) v1 hk1), trivial⟩ rfl ?_
    have h := Option.some.inj h
    subst h
    exact Tri.ret rfl ⟨.inl rfl, rfl, rfl⟩
/-! impl.notNegative$1 -/
noncomputable def E115_impl_notNegative_1 : Env := ⟨Try.prog, tys, (Try.f115.body).getD .skip, 11, tysOk, mixedOk⟩
abbrev q_impl_notNegative_1 (r : Bool) (σ' : ASt) : Prop := resAV E115_impl_notNegative_1.T σ' Try.f115.results.toList = some (.bool r) ∧ keepO σ'.ob (namesO []) = []
noncomputable def m_impl_notNegative_1 (a0 : Int) (a1 : Int) : Option Bool :=
(m_impl_IsValidRat a0 a1).bind fun v1 =>
bif !v1 then
(some true)
else
(some (decide (a0 < (0 : Int))))
theorem w_impl_notNegative_1 (a0 : Int) (a1 : Int) (r : Bool) (h : m_impl_notNegative_1 a0 a1 = some r) : AM.Spec Try.prog 115 [.agg [.int .i64 a0, .int .i64 a1]] [] (.bool r) [] := by
  refine spec_of (E := E115_impl_notNegative_1) Try.func115 rfl rfl rfl rfl ?_
  refine Tri.run 1 [] [.keep [1] [1]] (K' := [.code [(1, 0)] 0, .code [] 2]) (σ' := ⟨[(1, .ptr 1 0)], [(1, .box [.int .i64 a0, .int .i64 a1])]⟩) rfl trivial rfl ?_
  obtain ⟨v1, hk1, h⟩ := bind_some h
  rcases bif_some h with ⟨hd2, h⟩ | ⟨hd2, h⟩
  · refine Tri.run 1 [.r ⟨[], .bool v1, []⟩, .g true] [.keep [2] []] (K' := [.code [] 2]) (σ' := ⟨[(2, .bool true)], []⟩) rfl ⟨hd2, (w_impl_IsValidRat a0 a1 v1 hk1), trivial⟩ rfl ?_
    have h := Option.some.inj h
    subst h
    exact Tri.ret rfl ⟨.inl rfl, rfl, rfl⟩
  · refine Tri.run 1 [.r ⟨[], .bool v1, []⟩, .g false] [.keep [2] []] (K' := [.code [] 2]) (σ' := ⟨[(2, .bool (decide (a0 < (0 : Int))))], []⟩) rfl ⟨hd2, (w_impl_IsValidRat a0 a1 v1 hk1), trivial⟩ rfl ?_
    have h := Option.some.inj h
    subst h
    exact Tri.ret rfl ⟨.inl rfl, rfl, rfl⟩
/-! impl.Rat) -/
noncomputable def E121_slices_IndexFunc_impl_Rat_impl_Rat : Env := ⟨Try.prog, tys, (Try.f121.body).getD .skip, 19, tysOk, mixedOk⟩
abbrev q_slices_IndexFunc_impl_Rat_impl_Rat_impl_notNegative_1 (r : Int) (σ' : ASt) : Prop := resAV E121_slices_IndexFunc_impl_Rat_impl_Rat.T σ' Try.f121.results.toList = some (.int .i64 r) ∧ keepO σ'.ob (namesO []) = []
noncomputable def l_slices_IndexFunc_impl_Rat_impl_Rat_impl_notNegative_1_0 (a0 : List Q) (v1 : Int) : Option (Int ⊕ (Unit ⊕ Int)) :=
bif decide (v1 < (a0.length : Int)) then
(grd ((0 : Int) ≤ v1 ∧ v1 < (a0.length : Int)) <|
(m_impl_notNegative_1 ((a0.getD v1.toNat ⟨0, 0⟩).num) ((a0.getD v1.toNat ⟨0, 0⟩).den)).bind fun v2 =>
bif v2 then
(some (.inr (.inr v1)))
else
(some (.inl (IntKind.i64.wrap (v1 + (1 : Int))))))
else
(some (.inr (.inl ())))
noncomputable def m_slices_IndexFunc_impl_Rat_impl_Rat_impl_notNegative_1 (a0 : List Q) : Option Int :=
(iter (l_slices_IndexFunc_impl_Rat_impl_Rat_impl_notNegative_1_0 a0) (0 : Int)).bind fun
| (.inl _) => (
some (-1 : Int))
| (.inr r) => some r
theorem w_slices_IndexFunc_impl_Rat_impl_Rat_impl_notNegative_1 (a0 : List Q) (r : Int) (h : m_slices_IndexFunc_impl_Rat_impl_Rat_impl_notNegative_1 a0 = some r) : AM.Spec Try.prog 121 [.list (.rats a0), .func 115 [] []] [] (.int .i64 r) [] := by
  refine spec_of (E := E121_slices_IndexFunc_impl_Rat_impl_Rat) Try.func121 rfl rfl rfl rfl ?_
  refine Tri.run 2 [] [.keep [0, 1, 7, 8] []] (K' := [.code [(1, 0), (1, 0)] 0, .blk 0, .code [] 2]) (σ' := ⟨[(0, .list (.rats a0)), (1, .func 115 [] []), (7, .int .i64 (a0.length : Int)), (8, .int .i64 (0 : Int))], []⟩) rfl trivial rfl ?_
  obtain ⟨x1, hk5, h⟩ := bind_some h
  refine Tri.loop (K1 := [.code [(1, 0), (1, 0), (0, 0)] 0]) (K2 := [.blk 0, .code [] 2]) (fun v1 => ⟨[(0, .list (.rats a0)), (1, .func 115 [] []), (7, .int .i64 (a0.length : Int)), (8, .int .i64 v1)], []⟩) (fun x e σ' => match x with | (.inl _) => e = .exit 0 ∧ σ' = ⟨[], []⟩ | (.inr r) => e = .ret ∧ q_slices_IndexFunc_impl_Rat_impl_Rat_impl_notNegative_1 r σ') hk5 rfl rfl ?_ ?_
  · intro v1 x hs
    clear h
    have h := hs
    clear hs
    refine Tri.run 1 [] [.keep [0, 1, 7, 8, 9] []] (K' := [.code [(1, 0), (1, 0), (0, 0), (1, 0)] 0, .code [(1, 0), (1, 0), (0, 0)] 2]) (σ' := ⟨[(0, .list (.rats a0)), (1, .func 115 [] []), (7, .int .i64 (a0.length : Int)), (8, .int .i64 v1), (9, .bool (decide (v1 < (a0.length : Int))))], []⟩) rfl trivial rfl ?_
    rcases bif_some h with ⟨hd1, h⟩ | ⟨hd1, h⟩
    · refine Tri.run 2 [.g true] [.keep [0, 1, 5, 7, 8] []] (K' := [.code [(1, 0), (1, 0), (0, 0), (2, 0), (0, 0), (1, 0)] 0, .code [(1, 0), (1, 0), (0, 0), (2, 0), (0, 0)] 2, .blk 1, .code [(1, 0), (1, 0), (0, 0)] 3]) (σ' := ⟨[(0, .list (.rats a0)), (1, .func 115 [] []), (5, .int .i64 v1), (7, .int .i64 (a0.length : Int)), (8, .int .i64 v1)], []⟩) rfl ⟨hd1, trivial⟩ rfl ?_
      obtain ⟨hg2, h⟩ := grd_some h
      obtain ⟨v2, hk3, h⟩ := bind_some h
      refine Tri.run 1 [.r ⟨[], .bool v2, []⟩] [.keep [0, 1, 5, 7, 8, 16] []] (K' := [.code [(1, 0), (1, 0), (0, 0), (2, 0), (0, 0)] 2, .blk 1, .code [(1, 0), (1, 0), (0, 0)] 3]) (σ' := ⟨[(0, .list (.rats a0)), (1, .func 115 [] []), (5, .int .i64 v1), (7, .int .i64 (a0.length : Int)), (8, .int .i64 v1), (16, .bool v2)], []⟩) rfl ⟨(w_impl_notNegative_1 ((a0.getD v1.toNat ⟨0, 0⟩).num) ((a0.getD v1.toNat ⟨0, 0⟩).den) v2 hk3), hg2, trivial⟩ rfl ?_
      rcases bif_some h with ⟨hd4, h⟩ | ⟨hd4, h⟩
      · refine Tri.run 2 [.g true] [.keep [4] []] (K' := [.code [(1, 0), (1, 0), (0, 0), (2, 0), (0, 0), (2, 0)] 1, .blk 1, .code [(1, 0), (1, 0), (0, 0)] 3]) (σ' := ⟨[(4, .int .i64 v1)], []⟩) rfl ⟨hd4, trivial⟩ rfl ?_
        have h := Option.some.inj h
        subst h
        exact Tri.ret rfl ⟨nofun, rfl, rfl, rfl⟩
      · refine Tri.run 2 [.g false] [.keep [0, 1, 7, 8] []] (K' := []) (σ' := ⟨[(0, .list (.rats a0)), (1, .func 115 [] []), (7, .int .i64 (a0.length : Int)), (8, .int .i64 (IntKind.i64.wrap (v1 + (1 : Int))))], []⟩) rfl ⟨hd4, trivial⟩ rfl ?_
        have h := Option.some.inj h
        subst h
        exact Tri.nil ⟨rfl, rfl⟩
    · refine Tri.run 1 [.g false] [.keep [] []] (K' := [.code [(1, 0), (1, 0), (0, 0), (1, 0), (0, 1)] 0, .code [(1, 0), (1, 0), (0, 0)] 2]) (σ' := ⟨[], []⟩) rfl ⟨hd1, trivial⟩ rfl ?_
      have h := Option.some.inj h
      subst h
      exact Tri.out 0 rfl ⟨nofun, rfl, rfl⟩
  · intro e σ' hne hq
    rcases x1 with _ | r
    · obtain ⟨rfl, rfl⟩ := hq
      refine TriX.exit (K' := [.code [] 2]) rfl ?_
      refine Tri.run 1 [] [.keep [4] []] (K' := [.code [] 3]) (σ' := ⟨[(4, .int .i64 (-1 : Int))], []⟩) rfl trivial rfl ?_
      have h := Option.some.inj h
      subst h
      exact Tri.ret rfl ⟨.inl rfl, rfl, rfl⟩
    · obtain ⟨rfl, hq⟩ := hq
      have h := Option.some.inj h
      subst h
      exact TriX.ret ⟨.inl rfl, hq⟩
/-! impl.Rat) -/
noncomputable def E114_slices_ContainsFunc_impl_Rat_impl_Rat : Env := ⟨Try.prog, tys, (Try.f114.body).getD .skip, 9, tysOk, mixedOk⟩
abbrev q_slices_ContainsFunc_impl_Rat_impl_Rat_impl_notNegative_1 (r : Bool) (σ' : ASt) : Prop := resAV E114_slices_ContainsFunc_impl_Rat_impl_Rat.T σ' Try.f114.results.toList = some (.bool r) ∧ keepO σ'.ob (namesO []) = []
noncomputable def m_slices_ContainsFunc_impl_Rat_impl_Rat_impl_notNegative_1 (a0 : List Q) : Option Bool :=
(m_slices_IndexFunc_impl_Rat_impl_Rat_impl_notNegative_1 a0).bind fun v1 =>
some (decide (v1 ≥ (0 : Int)))
theorem w_slices_ContainsFunc_impl_Rat_impl_Rat_impl_notNegative_1 (a0 : List Q) (r : Bool) (h : m_slices_ContainsFunc_impl_Rat_impl_Rat_impl_notNegative_1 a0 = some r) : AM.Spec Try.prog 114 [.list (.rats a0), .func 115 [] []] [] (.bool r) [] := by
  refine spec_of (E := E114_slices_ContainsFunc_impl_Rat_impl_Rat) Try.func114 rfl rfl rfl rfl ?_
  refine Tri.run 1 [] [.keep [0, 1] []] (K' := [.code [(1, 0)] 0, .code [] 2]) (σ' := ⟨[(0, .list (.rats a0)), (1, .func 115 [] [])], []⟩) rfl trivial rfl ?_
  obtain ⟨v1, hk1, h⟩ := bind_some h
  refine Tri.run 1 [.r ⟨[], .int .i64 v1, []⟩] [.keep [4] []] (K' := [.code [] 2]) (σ' := ⟨[(4, .bool (decide (v1 ≥ (0 : Int))))], []⟩) rfl ⟨(w_slices_IndexFunc_impl_Rat_impl_Rat_impl_notNegative_1 a0 v1 hk1), trivial⟩ rfl ?_
  have h := Option.some.inj h
  subst h
  exact Tri.ret rfl ⟨.inl rfl, rfl, rfl⟩
/-! impl.notNegative -/
noncomputable def E98_impl_notNegative : Env := ⟨Try.prog, tys, (Try.f98.body).getD .skip, 14, tysOk, mixedOk⟩
abbrev q_impl_notNegative (r : Bool) (σ' : ASt) : Prop := resAV E98_impl_notNegative.T σ' Try.f98.results.toList = some (.bool r) ∧ keepO σ'.ob (namesO []) = []
noncomputable def m_impl_notNegative (a0 : List Q) (a1 : Int) : Option Bool :=
bif (a0.length : Int) == a1 then
((m_slices_ContainsFunc_impl_Rat_impl_Rat_impl_notNegative_1 a0).bind fun v1 =>
some (!v1))
else
(some false)
theorem w_impl_notNegative (a0 : List Q) (a1 : Int) (r : Bool) (h : m_impl_notNegative a0 a1 = some r) : AM.Spec Try.prog 98 [.list (.rats a0), .int .i64 a1] [] (.bool r) [] := by
  refine spec_of (E := E98_impl_notNegative) Try.func98 rfl rfl rfl rfl ?_
  refine Tri.run 1 [] [.keep [0, 1] []] (K' := [.code [(1, 0)] 0, .code [] 2]) (σ' := ⟨[(0, .list (.rats a0)), (1, .int .i64 a1)], []⟩) rfl trivial rfl ?_
  rcases bif_some h with ⟨hd1, h⟩ | ⟨hd1, h⟩
  · obtain ⟨v1, hk2, h⟩ := bind_some h
    refine Tri.run 1 [.g true, .r ⟨[], .bool v1, []⟩] [.keep [4] []] (K' := [.code [] 2]) (σ' := ⟨[(4, .bool (!v1))], []⟩) rfl ⟨(w_slices_ContainsFunc_impl_Rat_impl_Rat_impl_notNegative_1 a0 v1 hk2), hd1, trivial⟩ rfl ?_
    have h := Option.some.inj h
    subst h
    exact Tri.ret rfl ⟨.inl rfl, rfl, rfl⟩
  · refine Tri.run 1 [.g false] [.keep [4] []] (K' := [.code [] 2]) (σ' := ⟨[(4, .bool false)], []⟩) rfl ⟨hd1, trivial⟩ rfl ?_
    have h := Option.some.inj h
    subst h
    exact Tri.ret rfl ⟨.inl rfl, rfl, rfl⟩
/-! impl.coalitions -/
noncomputable def E88_impl_coalitions : Env := ⟨Try.prog, tys, (Try.f88.body).getD .skip, 19, tysOk, mixedOk⟩
abbrev q_impl_coalitions (r : List Int) (σ' : ASt) : Prop := resAV E88_impl_coalitions.T σ' Try.f88.results.toList = some (.sl 1000 0) ∧ keepO σ'.ob (namesO [(1000, .arr 3 0 0 (.ints r))]) = [(1000, .arr 3 0 0 (.ints r))]
noncomputable def l_impl_coalitions_0 (a1 : Int) : (Int × (List Int)) → Option ((Int × (List Int)) ⊕ ((List Int)))
  | (v1, v2) => (
bif decide (v1 ≤ a1) then
(grd (v2.length + ([v1] : List Int).length ≤ room) <|
some (.inl (IntKind.i64.wrap (v1 + (1 : Int)), v2 ++ [v1])))
else
(some (.inr v2)))
noncomputable def m_impl_coalitions (a0 : Int) (a1 : Int) : Option (List Int) :=
(iter (l_impl_coalitions_0 a1) (a0, [])).bind fun
| v3 => (
some v3)
theorem w_impl_coalitions (a0 : Int) (a1 : Int) (r : List Int) (h : m_impl_coalitions a0 a1 = some r) : AM.Spec Try.prog 88 [.int .i64 a0, .int .i64 a1] [] (.sl 1000 0) [(1000, .arr 3 0 0 (.ints r))] := by
  refine spec_of (E := E88_impl_coalitions) Try.func88 rfl rfl rfl rfl ?_
  refine Tri.run 3 [] [.keep [1, 5, 6] [7]] (K' := [.code [(2, 0), (1, 0)] 0, .blk 0, .code [] 3]) (σ' := ⟨[(1, .int .i64 a1), (5, .sl 7 0), (6, .int .i64 a0)], [(7, .arr 3 0 0 (.ints []))]⟩) rfl trivial rfl ?_
  obtain ⟨v3, hk3, h⟩ := bind_some h
  refine Tri.loop (K1 := [.code [(2, 0), (1, 0), (0, 0)] 0]) (K2 := [.blk 0, .code [] 3]) (fun (v1, v2) => ⟨[(1, .int .i64 a1), (5, .sl 7 0), (6, .int .i64 v1)], [(7, .arr 3 0 0 (.ints v2))]⟩) (fun x e σ' => match x with | v3 => e = .exit 0 ∧ σ' = ⟨[(5, .sl 7 0)], [(7, .arr 3 0 0 (.ints v3))]⟩) hk3 rfl rfl ?_ ?_
  · intro s x hs
    clear h
    have h := hs
    clear hs
    obtain ⟨v1, v2⟩ := s
    refine Tri.run 1 [] [.keep [1, 5, 6, 11] [7]] (K' := [.code [(2, 0), (1, 0), (0, 0), (0, 0)] 1, .code [(2, 0), (1, 0), (0, 0)] 1]) (σ' := ⟨[(1, .int .i64 a1), (5, .sl 7 0), (6, .int .i64 v1), (11, .bool (decide (v1 ≤ a1)))], [(7, .arr 3 0 0 (.ints v2))]⟩) rfl trivial rfl ?_
    rcases bif_some h with ⟨hd1, h⟩ | ⟨hd1, h⟩
    · obtain ⟨hg2, h⟩ := grd_some h
      refine Tri.run 3 [.g true] [.rever 7, .keep [1, 5, 6] [7]] (K' := []) (σ' := ⟨[(1, .int .i64 a1), (5, .sl 7 0), (6, .int .i64 (IntKind.i64.wrap (v1 + (1 : Int))))], [(7, .arr 3 0 0 (.ints (v2 ++ [v1])))]⟩) rfl ⟨hg2, hd1, trivial⟩ rfl ?_
      have h := Option.some.inj h
      subst h
      exact Tri.nil ⟨rfl, rfl⟩
    · refine Tri.run 1 [.g false] [.keep [5] [7]] (K' := [.code [(2, 0), (1, 0), (0, 0), (0, 0), (1, 1)] 0, .code [(2, 0), (1, 0), (0, 0)] 1]) (σ' := ⟨[(5, .sl 7 0)], [(7, .arr 3 0 0 (.ints v2))]⟩) rfl ⟨hd1, trivial⟩ rfl ?_
      have h := Option.some.inj h
      subst h
      exact Tri.out 0 rfl ⟨nofun, rfl, rfl⟩
  · intro e σ' hne hq
    obtain ⟨rfl, rfl⟩ := hq
    refine TriX.exit (K' := [.code [] 3]) rfl ?_
    refine Tri.run 1 [] [.swap 7 1000, .keep [4] [1000]] (K' := [.code [] 4]) (σ' := ⟨[(4, .sl 1000 0)], [(1000, .arr 3 0 0 (.ints v3))]⟩) rfl trivial rfl ?_
    have h := Option.some.inj h
    subst h
    exact Tri.ret rfl ⟨.inl rfl, rfl, rfl⟩
/-! impl.HasPlayer -/
noncomputable def E109_impl_HasPlayer : Env := ⟨Try.prog, tys, (Try.f109.body).getD .skip, 18, tysOk, mixedOk⟩
abbrev q_impl_HasPlayer (r : Bool) (σ' : ASt) : Prop := resAV E109_impl_HasPlayer.T σ' Try.f109.results.toList = some (.bool r) ∧ keepO σ'.ob (namesO []) = []
noncomputable def m_impl_HasPlayer (a0 : Int) (a1 : Int) : Option Bool :=
bif decide (a0 ≥ (0 : Int)) then
((m_impl_within a1 (0 : Int) (4 : Int)).bind fun v1 =>
bif v1 then
(grd ((0 : Int) ≤ a1) <|
some ((bitsOf .and .i64 (a0.fdiv (2 ^ (min a1.toNat 64))) (1 : Int)) == (1 : Int)))
else
(some false))
else
(some false)
theorem w_impl_HasPlayer (a0 : Int) (a1 : Int) (r : Bool) (h : m_impl_HasPlayer a0 a1 = some r) : AM.Spec Try.prog 109 [.int .i64 a0, .int .i64 a1] [] (.bool r) [] := by
  refine spec_of (E := E109_impl_HasPlayer) Try.func109 rfl rfl rfl rfl ?_
  refine Tri.run 1 [] [.keep [0, 1] []] (K' := [.code [(1, 0)] 0, .code [] 2]) (σ' := ⟨[(0, .int .i64 a0), (1, .int .i64 a1)], []⟩) rfl trivial rfl ?_
  rcases bif_some h with ⟨hd1, h⟩ | ⟨hd1, h⟩
  · obtain ⟨v1, hk2, h⟩ := bind_some h
    rcases bif_some h with ⟨hd3, h⟩ | ⟨hd3, h⟩
    · obtain ⟨hg4, h⟩ := grd_some h
      refine Tri.run 1 [.g true, .r ⟨[], .bool v1, []⟩, .g true] [.keep [4] []] (K' := [.code [] 2]) (σ' := ⟨[(4, .bool ((bitsOf .and .i64 (a0.fdiv (2 ^ (min a1.toNat 64))) (1 : Int)) == (1 : Int)))], []⟩) rfl ⟨hg4, hd3, (w_impl_within a1 (0 : Int) (4 : Int) v1 hk2), hd1, trivial⟩ rfl ?_
      have h := Option.some.inj h
      subst h
      exact Tri.ret rfl ⟨.inl rfl, rfl, rfl⟩
    · refine Tri.run 1 [.g true, .r ⟨[], .bool v1, []⟩, .g false] [.keep [4] []] (K' := [.code [] 2]) (σ' := ⟨[(4, .bool false)], []⟩) rfl ⟨hd3, (w_impl_within a1 (0 : Int) (4 : Int) v1 hk2), hd1, trivial⟩ rfl ?_
      have h := Option.some.inj h
      subst h
      exact Tri.ret rfl ⟨.inl rfl, rfl, rfl⟩
  · refine Tri.run 1 [.g false, .g false] [.keep [4] []] (K' := [.code [] 2]) (σ' := ⟨[(4, .bool false)], []⟩) rfl ⟨rfl, hd1, trivial⟩ rfl ?_
    have h := Option.some.inj h
    subst h
    exact Tri.ret rfl ⟨.inl rfl, rfl, rfl⟩
/-! impl.members -/
noncomputable def E87_impl_members : Env := ⟨Try.prog, tys, (Try.f87.body).getD .skip, 37, tysOk, mixedOk⟩
abbrev q_impl_members (r : List (List Int)) (σ' : ASt) : Prop := resAV E87_impl_members.T σ' Try.f87.results.toList = some (.sl 1000 0) ∧ keepO σ'.ob (namesO [(1000, .arr 22 0 0 (.intss r))]) = [(1000, .arr 22 0 0 (.intss r))]
noncomputable def l_impl_members_1 (a1 : List Int) (v1 : Int) : (Int × (List Int)) → Option ((Int × (List Int)) ⊕ ((List Int)))
  | (v3, v4) => (
bif decide (v3 < (a1.length : Int)) then
(grd ((0 : Int) ≤ v3 ∧ v3 < (a1.length : Int)) <|
(m_impl_HasPlayer (a1.getD v3.toNat 0) v1).bind fun v5 =>
bif v5 then
(grd (v4.length + ([(1 : Int)] : List Int).length ≤ room) <|
some (.inl (IntKind.i64.wrap (v3 + (1 : Int)), v4 ++ [(1 : Int)])))
else
(grd (v4.length + ([(0 : Int)] : List Int).length ≤ room) <|
some (.inl (IntKind.i64.wrap (v3 + (1 : Int)), v4 ++ [(0 : Int)]))))
else
(some (.inr v4)))
noncomputable def l_impl_members_0 (a0 : Int) (a1 : List Int) : (Int × (List (List Int))) → Option ((Int × (List (List Int))) ⊕ ((List (List Int))))
  | (v1, v2) => (
bif decide (v1 < a0) then
((iter (l_impl_members_1 a1 v1) ((0 : Int), [])).bind fun
| v6 => (
grd (v2.length + ([v6] : List (List Int)).length ≤ room) <|
some (.inl (IntKind.i64.wrap (v1 + (1 : Int)), v2 ++ [v6]))))
else
(some (.inr v2)))
noncomputable def m_impl_members (a0 : Int) (a1 : List Int) : Option (List (List Int)) :=
(iter (l_impl_members_0 a0 a1) ((0 : Int), [])).bind fun
| v7 => (
some v7)
theorem w_impl_members (a0 : Int) (a1 : List Int) (r : List (List Int)) (h : m_impl_members a0 a1 = some r) : AM.Spec Try.prog 87 [.int .i64 a0, .list (.ints a1)] [] (.sl 1000 0) [(1000, .arr 22 0 0 (.intss r))] := by
  refine spec_of (E := E87_impl_members) Try.func87 rfl rfl rfl rfl ?_
  refine Tri.run 3 [] [.keep [1, 5, 12, 13] [11]] (K' := [.code [(2, 0), (1, 0)] 0, .blk 0, .code [] 3]) (σ' := ⟨[(1, .list (.ints a1)), (5, .sl 11 0), (12, .int .i64 a0), (13, .int .i64 (0 : Int))], [(11, .arr 22 0 0 (.intss []))]⟩) rfl trivial rfl ?_
  obtain ⟨v7, hk10, h⟩ := bind_some h
  refine Tri.loop (K1 := [.code [(2, 0), (1, 0), (0, 0)] 0]) (K2 := [.blk 0, .code [] 3]) (fun (v1, v2) => ⟨[(1, .list (.ints a1)), (5, .sl 11 0), (12, .int .i64 a0), (13, .int .i64 v1)], [(11, .arr 22 0 0 (.intss v2))]⟩) (fun x e σ' => match x with | v7 => e = .exit 0 ∧ σ' = ⟨[(5, .sl 11 0)], [(11, .arr 22 0 0 (.intss v7))]⟩) hk10 rfl rfl ?_ ?_
  · intro s x hs
    clear h
    have h := hs
    clear hs
    obtain ⟨v1, v2⟩ := s
    refine Tri.run 1 [] [.keep [1, 5, 12, 13, 14] [11]] (K' := [.code [(2, 0), (1, 0), (0, 0), (1, 0)] 0, .code [(2, 0), (1, 0), (0, 0)] 2]) (σ' := ⟨[(1, .list (.ints a1)), (5, .sl 11 0), (12, .int .i64 a0), (13, .int .i64 v1), (14, .bool (decide (v1 < a0)))], [(11, .arr 22 0 0 (.intss v2))]⟩) rfl trivial rfl ?_
    rcases bif_some h with ⟨hd1, h⟩ | ⟨hd1, h⟩
    · refine Tri.run 3 [.g true] [.keep [1, 5, 6, 7, 12, 13] [11, 16]] (K' := [.code [(2, 0), (1, 0), (0, 0), (2, 0), (0, 0), (2, 0), (0, 0)] 0, .code [(2, 0), (1, 0), (0, 0), (2, 0), (0, 0), (2, 0)] 1, .code [(2, 0), (1, 0), (0, 0), (2, 0), (0, 0)] 3, .blk 1, .code [(2, 0), (1, 0), (0, 0)] 3]) (σ' := ⟨[(1, .list (.ints a1)), (5, .sl 11 0), (6, .int .i64 v1), (7, .sl 16 0), (12, .int .i64 a0), (13, .int .i64 v1)], [(11, .arr 22 0 0 (.intss v2)), (16, .arr 3 0 0 (.ints []))]⟩) rfl ⟨hd1, trivial⟩ rfl ?_
      refine Tri.run 1 [] [.keep [1, 5, 6, 7, 12, 13, 17, 18, 19] [11, 16]] (K' := [.code [(2, 0), (1, 0), (0, 0), (2, 0), (0, 0), (2, 0), (1, 0)] 0, .blk 2, .code [(2, 0), (1, 0), (0, 0), (2, 0), (0, 0)] 3, .blk 1, .code [(2, 0), (1, 0), (0, 0)] 3]) (σ' := ⟨[(1, .list (.ints a1)), (5, .sl 11 0), (6, .int .i64 v1), (7, .sl 16 0), (12, .int .i64 a0), (13, .int .i64 v1), (17, .list (.ints a1)), (18, .int .i64 (a1.length : Int)), (19, .int .i64 (0 : Int))], [(11, .arr 22 0 0 (.intss v2)), (16, .arr 3 0 0 (.ints []))]⟩) rfl trivial rfl ?_
      obtain ⟨v6, hk8, h⟩ := bind_some h
      refine Tri.loop (K1 := [.code [(2, 0), (1, 0), (0, 0), (2, 0), (0, 0), (2, 0), (1, 0), (0, 0)] 0]) (K2 := [.blk 2, .code [(2, 0), (1, 0), (0, 0), (2, 0), (0, 0)] 3, .blk 1, .code [(2, 0), (1, 0), (0, 0)] 3]) (fun (v3, v4) => ⟨[(1, .list (.ints a1)), (5, .sl 11 0), (6, .int .i64 v1), (7, .sl 16 0), (12, .int .i64 a0), (13, .int .i64 v1), (17, .list (.ints a1)), (18, .int .i64 (a1.length : Int)), (19, .int .i64 v3)], [(11, .arr 22 0 0 (.intss v2)), (16, .arr 3 0 0 (.ints v4))]⟩) (fun x e σ' => match x with | v6 => e = .exit 2 ∧ σ' = ⟨[(1, .list (.ints a1)), (5, .sl 11 0), (7, .sl 16 0), (12, .int .i64 a0), (13, .int .i64 v1)], [(11, .arr 22 0 0 (.intss v2)), (16, .arr 3 0 0 (.ints v6))]⟩) hk8 rfl rfl ?_ ?_
      · intro s x hs
        clear h
        have h := hs
        clear hs
        obtain ⟨v3, v4⟩ := s
        refine Tri.run 1 [] [.keep [1, 5, 6, 7, 12, 13, 17, 18, 19, 20] [11, 16]] (K' := [.code [(2, 0), (1, 0), (0, 0), (2, 0), (0, 0), (2, 0), (1, 0), (0, 0), (1, 0)] 0, .code [(2, 0), (1, 0), (0, 0), (2, 0), (0, 0), (2, 0), (1, 0), (0, 0)] 2]) (σ' := ⟨[(1, .list (.ints a1)), (5, .sl 11 0), (6, .int .i64 v1), (7, .sl 16 0), (12, .int .i64 a0), (13, .int .i64 v1), (17, .list (.ints a1)), (18, .int .i64 (a1.length : Int)), (19, .int .i64 v3), (20, .bool (decide (v3 < (a1.length : Int))))], [(11, .arr 22 0 0 (.intss v2)), (16, .arr 3 0 0 (.ints v4))]⟩) rfl trivial rfl ?_
        rcases bif_some h with ⟨hd2, h⟩ | ⟨hd2, h⟩
        · obtain ⟨hg3, h⟩ := grd_some h
          refine Tri.run 3 [.g true] [.keep [1, 5, 6, 7, 9, 10, 12, 13, 17, 18, 19] [11, 16]] (K' := [.code [(2, 0), (1, 0), (0, 0), (2, 0), (0, 0), (2, 0), (1, 0), (0, 0), (2, 0), (0, 0), (2, 0), (0, 0)] 0, .code [(2, 0), (1, 0), (0, 0), (2, 0), (0, 0), (2, 0), (1, 0), (0, 0), (2, 0), (0, 0), (2, 0)] 1, .code [(2, 0), (1, 0), (0, 0), (2, 0), (0, 0), (2, 0), (1, 0), (0, 0), (2, 0), (0, 0)] 3, .blk 3, .code [(2, 0), (1, 0), (0, 0), (2, 0), (0, 0), (2, 0), (1, 0), (0, 0)] 3]) (σ' := ⟨[(1, .list (.ints a1)), (5, .sl 11 0), (6, .int .i64 v1), (7, .sl 16 0), (9, .int .i64 (a1.getD v3.toNat 0)), (10, .int .i64 (0 : Int)), (12, .int .i64 a0), (13, .int .i64 v1), (17, .list (.ints a1)), (18, .int .i64 (a1.length : Int)), (19, .int .i64 v3)], [(11, .arr 22 0 0 (.intss v2)), (16, .arr 3 0 0 (.ints v4))]⟩) rfl ⟨hg3, hd2, trivial⟩ rfl ?_
          obtain ⟨v5, hk4, h⟩ := bind_some h
          refine Tri.run 1 [.r ⟨[], .bool v5, []⟩] [.keep [1, 5, 6, 7, 10, 12, 13, 17, 18, 19, 25] [11, 16]] (K' := [.code [(2, 0), (1, 0), (0, 0), (2, 0), (0, 0), (2, 0), (1, 0), (0, 0), (2, 0), (0, 0), (2, 0)] 1, .code [(2, 0), (1, 0), (0, 0), (2, 0), (0, 0), (2, 0), (1, 0), (0, 0), (2, 0), (0, 0)] 3, .blk 3, .code [(2, 0), (1, 0), (0, 0), (2, 0), (0, 0), (2, 0), (1, 0), (0, 0)] 3]) (σ' := ⟨[(1, .list (.ints a1)), (5, .sl 11 0), (6, .int .i64 v1), (7, .sl 16 0), (10, .int .i64 (0 : Int)), (12, .int .i64 a0), (13, .int .i64 v1), (17, .list (.ints a1)), (18, .int .i64 (a1.length : Int)), (19, .int .i64 v3), (25, .bool v5)], [(11, .arr 22 0 0 (.intss v2)), (16, .arr 3 0 0 (.ints v4))]⟩) rfl ⟨(w_impl_HasPlayer (a1.getD v3.toNat 0) v1 v5 hk4), trivial⟩ rfl ?_
          rcases bif_some h with ⟨hd5, h⟩ | ⟨hd5, h⟩
          · obtain ⟨hg6, h⟩ := grd_some h
            refine Tri.run 3 [.g true] [.keep [1, 5, 6, 7, 12, 13, 17, 18, 19] [11, 16]] (K' := [.code [(2, 0), (1, 0), (0, 0), (2, 0), (0, 0), (2, 0), (1, 0), (0, 0)] 3]) (σ' := ⟨[(1, .list (.ints a1)), (5, .sl 11 0), (6, .int .i64 v1), (7, .sl 16 1), (12, .int .i64 a0), (13, .int .i64 v1), (17, .list (.ints a1)), (18, .int .i64 (a1.length : Int)), (19, .int .i64 v3)], [(11, .arr 22 0 0 (.intss v2)), (16, .arr 3 1 0 (.ints (v4 ++ [(1 : Int)])))]⟩) rfl ⟨hg6, hd5, trivial⟩ rfl ?_
            refine Tri.run 1 [] [.rever 16, .keep [1, 5, 6, 7, 12, 13, 17, 18, 19] [11, 16]] (K' := []) (σ' := ⟨[(1, .list (.ints a1)), (5, .sl 11 0), (6, .int .i64 v1), (7, .sl 16 0), (12, .int .i64 a0), (13, .int .i64 v1), (17, .list (.ints a1)), (18, .int .i64 (a1.length : Int)), (19, .int .i64 (IntKind.i64.wrap (v3 + (1 : Int))))], [(11, .arr 22 0 0 (.intss v2)), (16, .arr 3 0 0 (.ints (v4 ++ [(1 : Int)])))]⟩) rfl trivial rfl ?_
            have h := Option.some.inj h
            subst h
            exact Tri.nil ⟨rfl, rfl⟩
          · obtain ⟨hg7, h⟩ := grd_some h
            refine Tri.run 3 [.g false] [.rever 16, .keep [1, 5, 6, 7, 12, 13, 17, 18, 19] [11, 16]] (K' := []) (σ' := ⟨[(1, .list (.ints a1)), (5, .sl 11 0), (6, .int .i64 v1), (7, .sl 16 0), (12, .int .i64 a0), (13, .int .i64 v1), (17, .list (.ints a1)), (18, .int .i64 (a1.length : Int)), (19, .int .i64 (IntKind.i64.wrap (v3 + (1 : Int))))], [(11, .arr 22 0 0 (.intss v2)), (16, .arr 3 0 0 (.ints (v4 ++ [(0 : Int)])))]⟩) rfl ⟨hg7, hd5, trivial⟩ rfl ?_
            have h := Option.some.inj h
            subst h
            exact Tri.nil ⟨rfl, rfl⟩
        · refine Tri.run 1 [.g false] [.keep [1, 5, 7, 12, 13] [11, 16]] (K' := [.code [(2, 0), (1, 0), (0, 0), (2, 0), (0, 0), (2, 0), (1, 0), (0, 0), (1, 0), (0, 1)] 0, .code [(2, 0), (1, 0), (0, 0), (2, 0), (0, 0), (2, 0), (1, 0), (0, 0)] 2]) (σ' := ⟨[(1, .list (.ints a1)), (5, .sl 11 0), (7, .sl 16 0), (12, .int .i64 a0), (13, .int .i64 v1)], [(11, .arr 22 0 0 (.intss v2)), (16, .arr 3 0 0 (.ints v4))]⟩) rfl ⟨hd2, trivial⟩ rfl ?_
          have h := Option.some.inj h
          subst h
          exact Tri.out 2 rfl ⟨nofun, rfl, rfl⟩
      · intro e σ' hne hq
        obtain ⟨rfl, rfl⟩ := hq
        refine TriX.exit (K' := [.code [(2, 0), (1, 0), (0, 0), (2, 0), (0, 0)] 3, .blk 1, .code [(2, 0), (1, 0), (0, 0)] 3]) rfl ?_
        obtain ⟨hg9, h⟩ := grd_some h
        refine Tri.run 2 [] [.rever 11, .keep [1, 5, 12, 13] [11]] (K' := []) (σ' := ⟨[(1, .list (.ints a1)), (5, .sl 11 0), (12, .int .i64 a0), (13, .int .i64 (IntKind.i64.wrap (v1 + (1 : Int))))], [(11, .arr 22 0 0 (.intss (v2 ++ [v6])))]⟩) rfl ⟨hg9, trivial⟩ rfl ?_
        have h := Option.some.inj h
        subst h
        exact Tri.nil ⟨rfl, rfl⟩
    · refine Tri.run 1 [.g false] [.keep [5] [11]] (K' := [.code [(2, 0), (1, 0), (0, 0), (1, 0), (0, 1)] 0, .code [(2, 0), (1, 0), (0, 0)] 2]) (σ' := ⟨[(5, .sl 11 0)], [(11, .arr 22 0 0 (.intss v2))]⟩) rfl ⟨hd1, trivial⟩ rfl ?_
      have h := Option.some.inj h
      subst h
      exact Tri.out 0 rfl ⟨nofun, rfl, rfl⟩
  · intro e σ' hne hq
    obtain ⟨rfl, rfl⟩ := hq
    refine TriX.exit (K' := [.code [] 3]) rfl ?_
    refine Tri.run 1 [] [.swap 11 1000, .keep [4] [1000]] (K' := [.code [] 4]) (σ' := ⟨[(4, .sl 1000 0)], [(1000, .arr 22 0 0 (.intss v7))]⟩) rfl trivial rfl ?_
    have h := Option.some.inj h
    subst h
    exact Tri.ret rfl ⟨.inl rfl, rfl, rfl⟩
/-! impl.whole -/
noncomputable def E81_impl_whole : Env := ⟨Try.prog, tys, (Try.f81.body).getD .skip, 5, tysOk, mixedOk⟩
abbrev q_impl_whole (r : Int × Int) (σ' : ASt) : Prop := resAV E81_impl_whole.T σ' Try.f81.results.toList = some (.agg [.int .i64 r.1, .int .i64 r.2]) ∧ keepO σ'.ob (namesO []) = []
noncomputable def m_impl_whole (a0 : Int) : Option (Int × Int) :=
some (a0, (1 : Int))
theorem w_impl_whole (a0 : Int) (r : Int × Int) (h : m_impl_whole a0 = some r) : AM.Spec Try.prog 81 [.int .i64 a0] [] (.agg [.int .i64 r.1, .int .i64 r.2]) [] := by
  refine spec_of (E := E81_impl_whole) Try.func81 rfl rfl rfl rfl ?_
  refine Tri.run 2 [] [.keep [2] [2]] (K' := [.code [] 2]) (σ' := ⟨[(2, .ptr 2 0)], [(2, .box [.int .i64 a0, .int .i64 (1 : Int)])]⟩) rfl trivial rfl ?_
  have h := Option.some.inj h
  subst h
  exact Tri.ret rfl ⟨.inl rfl, rfl, rfl⟩
/-! impl.IntsToRats -/
noncomputable def E117_impl_IntsToRats : Env := ⟨Try.prog, tys, (Try.f117.body).getD .skip, 24, tysOk, mixedOk⟩
abbrev q_impl_IntsToRats (r : Bool × (List Q)) (σ' : ASt) : Prop := resAV E117_impl_IntsToRats.T σ' Try.f117.results.toList = some (.tuple [.sl 1000 0, .bool r.1]) ∧ keepO σ'.ob (namesO [(1000, .arr 45 0 0 (.rats r.2))]) = [(1000, .arr 45 0 0 (.rats r.2))]
noncomputable def l_impl_IntsToRats_0 (a0 : List Int) : (Int × (List Q)) → Option ((Int × (List Q)) ⊕ ((List Q) ⊕ ((Bool × (List Q)))))
  | (v1, v2) => (
bif decide (v1 < (a0.length : Int)) then
(grd ((0 : Int) ≤ v1 ∧ v1 < (a0.length : Int)) <|
(m_impl_within (a0.getD v1.toNat 0) (-1000000000 : Int) (1000000000 : Int)).bind fun v3 =>
bif !v3 then
(some (.inr (.inr (false, []))))
else
((m_impl_whole (a0.getD v1.toNat 0)).bind fun (v4, v5) =>
grd (v2.length + ([⟨v4, v5⟩] : List Q).length ≤ room) <|
some (.inl (IntKind.i64.wrap (v1 + (1 : Int)), v2 ++ [⟨v4, v5⟩]))))
else
(some (.inr (.inl v2))))
noncomputable def m_impl_IntsToRats (a0 : List Int) : Option (Bool × (List Q)) :=
(iter (l_impl_IntsToRats_0 a0) ((0 : Int), [])).bind fun
| (.inl v6) => (
some (true, v6))
| (.inr r) => some r
theorem w_impl_IntsToRats (a0 : List Int) (r : Bool × (List Q)) (h : m_impl_IntsToRats a0 = some r) : AM.Spec Try.prog 117 [.list (.ints a0)] [] (.tuple [.sl 1000 0, .bool r.1]) [(1000, .arr 45 0 0 (.rats r.2))] := by
  refine spec_of (E := E117_impl_IntsToRats) Try.func117 rfl rfl rfl rfl ?_
  refine Tri.run 3 [] [.keep [4, 8, 9, 10] [7]] (K' := [.code [(2, 0), (1, 0)] 0, .blk 0, .code [] 3]) (σ' := ⟨[(4, .sl 7 0), (8, .list (.ints a0)), (9, .int .i64 (a0.length : Int)), (10, .int .i64 (0 : Int))], [(7, .arr 45 0 0 (.rats []))]⟩) rfl trivial rfl ?_
  obtain ⟨x1, hk7, h⟩ := bind_some h
  refine Tri.loop (K1 := [.code [(2, 0), (1, 0), (0, 0)] 0]) (K2 := [.blk 0, .code [] 3]) (fun (v1, v2) => ⟨[(4, .sl 7 0), (8, .list (.ints a0)), (9, .int .i64 (a0.length : Int)), (10, .int .i64 v1)], [(7, .arr 45 0 0 (.rats v2))]⟩) (fun x e σ' => match x with | (.inl v6) => e = .exit 0 ∧ σ' = ⟨[(4, .sl 7 0)], [(7, .arr 45 0 0 (.rats v6))]⟩ | (.inr r) => e = .ret ∧ q_impl_IntsToRats r σ') hk7 rfl rfl ?_ ?_
  · intro s x hs
    clear h
    have h := hs
    clear hs
    obtain ⟨v1, v2⟩ := s
    refine Tri.run 1 [] [.keep [4, 8, 9, 10, 11] [7]] (K' := [.code [(2, 0), (1, 0), (0, 0), (1, 0)] 0, .code [(2, 0), (1, 0), (0, 0)] 2]) (σ' := ⟨[(4, .sl 7 0), (8, .list (.ints a0)), (9, .int .i64 (a0.length : Int)), (10, .int .i64 v1), (11, .bool (decide (v1 < (a0.length : Int))))], [(7, .arr 45 0 0 (.rats v2))]⟩) rfl trivial rfl ?_
    rcases bif_some h with ⟨hd1, h⟩ | ⟨hd1, h⟩
    · obtain ⟨hg2, h⟩ := grd_some h
      refine Tri.run 2 [.g true] [.keep [4, 6, 8, 9, 10] [7]] (K' := [.code [(2, 0), (1, 0), (0, 0), (2, 0), (0, 0), (1, 0), (0, 0)] 0, .code [(2, 0), (1, 0), (0, 0), (2, 0), (0, 0), (1, 0)] 1, .code [(2, 0), (1, 0), (0, 0), (2, 0), (0, 0)] 2, .blk 1, .code [(2, 0), (1, 0), (0, 0)] 3]) (σ' := ⟨[(4, .sl 7 0), (6, .int .i64 (a0.getD v1.toNat 0)), (8, .list (.ints a0)), (9, .int .i64 (a0.length : Int)), (10, .int .i64 v1)], [(7, .arr 45 0 0 (.rats v2))]⟩) rfl ⟨hg2, hd1, trivial⟩ rfl ?_
      obtain ⟨v3, hk3, h⟩ := bind_some h
      refine Tri.run 1 [.r ⟨[], .bool v3, []⟩] [.keep [4, 6, 8, 9, 10, 16] [7]] (K' := [.code [(2, 0), (1, 0), (0, 0), (2, 0), (0, 0), (1, 0)] 1, .code [(2, 0), (1, 0), (0, 0), (2, 0), (0, 0)] 2, .blk 1, .code [(2, 0), (1, 0), (0, 0)] 3]) (σ' := ⟨[(4, .sl 7 0), (6, .int .i64 (a0.getD v1.toNat 0)), (8, .list (.ints a0)), (9, .int .i64 (a0.length : Int)), (10, .int .i64 v1), (16, .bool (!v3))], [(7, .arr 45 0 0 (.rats v2))]⟩) rfl ⟨(w_impl_within (a0.getD v1.toNat 0) (-1000000000 : Int) (1000000000 : Int) v3 hk3), trivial⟩ rfl ?_
      rcases bif_some h with ⟨hd4, h⟩ | ⟨hd4, h⟩
      · refine Tri.run 2 [.g true] [.own 2 [] 1100 45, .swap 1100 1000, .keep [2, 3] [1000]] (K' := [.code [(2, 0), (1, 0), (0, 0), (2, 0), (0, 0), (1, 0), (1, 0)] 1, .code [(2, 0), (1, 0), (0, 0), (2, 0), (0, 0)] 2, .blk 1, .code [(2, 0), (1, 0), (0, 0)] 3]) (σ' := ⟨[(2, .sl 1000 0), (3, .bool false)], [(1000, .arr 45 0 0 (.rats []))]⟩) rfl ⟨hd4, trivial⟩ rfl ?_
        have h := Option.some.inj h
        subst h
        exact Tri.ret rfl ⟨nofun, rfl, rfl, rfl⟩
      · obtain ⟨⟨v4, v5⟩, hk5, h⟩ := bind_some h
        obtain ⟨hg6, h⟩ := grd_some h
        refine Tri.run 3 [.g false, .r ⟨[], .agg [.int .i64 v4, .int .i64 v5], []⟩] [.rever 7, .keep [4, 8, 9, 10] [7]] (K' := []) (σ' := ⟨[(4, .sl 7 0), (8, .list (.ints a0)), (9, .int .i64 (a0.length : Int)), (10, .int .i64 (IntKind.i64.wrap (v1 + (1 : Int))))], [(7, .arr 45 0 0 (.rats (v2 ++ [⟨v4, v5⟩])))]⟩) rfl ⟨hg6, (w_impl_whole (a0.getD v1.toNat 0) (v4, v5) hk5), hd4, trivial⟩ rfl ?_
        have h := Option.some.inj h
        subst h
        exact Tri.nil ⟨rfl, rfl⟩
    · refine Tri.run 1 [.g false] [.keep [4] [7]] (K' := [.code [(2, 0), (1, 0), (0, 0), (1, 0), (0, 1)] 0, .code [(2, 0), (1, 0), (0, 0)] 2]) (σ' := ⟨[(4, .sl 7 0)], [(7, .arr 45 0 0 (.rats v2))]⟩) rfl ⟨hd1, trivial⟩ rfl ?_
      have h := Option.some.inj h
      subst h
      exact Tri.out 0 rfl ⟨nofun, rfl, rfl⟩
  · intro e σ' hne hq
    rcases x1 with v6 | r
    · obtain ⟨rfl, rfl⟩ := hq
      refine TriX.exit (K' := [.code [] 3]) rfl ?_
      refine Tri.run 1 [] [.swap 7 1000, .keep [2, 3] [1000]] (K' := [.code [] 4]) (σ' := ⟨[(2, .sl 1000 0), (3, .bool true)], [(1000, .arr 45 0 0 (.rats v6))]⟩) rfl trivial rfl ?_
      have h := Option.some.inj h
      subst h
      exact Tri.ret rfl ⟨.inl rfl, rfl, rfl⟩
    · obtain ⟨rfl, hq⟩ := hq
      have h := Option.some.inj h
      subst h
      exact TriX.ret ⟨.inl rfl, hq⟩
/-! impl.rats -/
noncomputable def E100_impl_rats : Env := ⟨Try.prog, tys, (Try.f100.body).getD .skip, 11, tysOk, mixedOk⟩
abbrev q_impl_rats (r : List Q) (σ' : ASt) : Prop := resAV E100_impl_rats.T σ' Try.f100.results.toList = some (.sl 1000 0) ∧ keepO σ'.ob (namesO [(1000, .arr 45 0 0 (.rats r))]) = [(1000, .arr 45 0 0 (.rats r))]
noncomputable def m_impl_rats (a0 : List Int) : Option (List Q) :=
(m_impl_IntsToRats a0).bind fun (_, v2) =>
some v2
theorem w_impl_rats (a0 : List Int) (r : List Q) (h : m_impl_rats a0 = some r) : AM.Spec Try.prog 100 [.list (.ints a0)] [] (.sl 1000 0) [(1000, .arr 45 0 0 (.rats r))] := by
  refine spec_of (E := E100_impl_rats) Try.func100 rfl rfl rfl rfl ?_
  refine Tri.run 1 [] [.keep [0] []] (K' := [.code [(1, 0)] 0, .code [] 2]) (σ' := ⟨[(0, .list (.ints a0))], []⟩) rfl trivial rfl ?_
  obtain ⟨⟨v1, v2⟩, hk1, h⟩ := bind_some h
  refine Tri.run 2 [.r ⟨[], .tuple [.sl 1100 0, .bool v1], [(1100, .arr 45 0 0 (.rats v2))]⟩] [.swap 1100 1000, .keep [2] [1000]] (K' := [.code [] 3]) (σ' := ⟨[(2, .sl 1000 0)], [(1000, .arr 45 0 0 (.rats v2))]⟩) rfl ⟨((w_impl_IntsToRats a0 (v1, v2) hk1).swap 1000 1100), trivial⟩ rfl ?_
  have h := Option.some.inj h
  subst h
  exact Tri.ret rfl ⟨.inl rfl, rfl, rfl⟩
/-! impl.RatOf -/
noncomputable def E111_impl_RatOf : Env := ⟨Try.prog, tys, (Try.f111.body).getD .skip, 40, tysOk, mixedOk⟩
abbrev q_impl_RatOf (r : Int × Int × Bool) (σ' : ASt) : Prop := resAV E111_impl_RatOf.T σ' Try.f111.results.toList = some (.tuple [.agg [.int .i64 r.1, .int .i64 r.2.1], .bool r.2.2]) ∧ keepO σ'.ob (namesO []) = []
noncomputable def m_impl_RatOf (a0 : Int) (a1 : Int) : Option (Int × Int × Bool) :=
bif a1 == (0 : Int) then
(some (0, 0, false))
else
((m_impl_within a0 (-1000000000000000000 : Int) (1000000000000000000 : Int)).bind fun v1 =>
bif !v1 then
(some (0, 0, false))
else
((m_impl_within a1 (-1000000000000000000 : Int) (1000000000000000000 : Int)).bind fun v2 =>
bif !v2 then
(some (0, 0, false))
else
((m_impl_common a0 a1).bind fun v3 =>
bif decide (a1 < (0 : Int)) then
(grd ((IntKind.i64.wrap (0 - v3)) ≠ 0) <|
grd ((IntKind.i64.wrap (0 - v3)) ≠ 0) <|
(m_impl_IsValidRat (IntKind.i64.wrap (a0.tdiv (IntKind.i64.wrap (0 - v3)))) (IntKind.i64.wrap (a1.tdiv (IntKind.i64.wrap (0 - v3))))).bind fun v4 =>
bif !v4 then
(some (0, 0, false))
else
(some (IntKind.i64.wrap (a0.tdiv (IntKind.i64.wrap (0 - v3))), IntKind.i64.wrap (a1.tdiv (IntKind.i64.wrap (0 - v3))), true)))
else
(grd (v3 ≠ 0) <|
grd (v3 ≠ 0) <|
(m_impl_IsValidRat (IntKind.i64.wrap (a0.tdiv v3)) (IntKind.i64.wrap (a1.tdiv v3))).bind fun v5 =>
bif !v5 then
(some (0, 0, false))
else
(some (IntKind.i64.wrap (a0.tdiv v3), IntKind.i64.wrap (a1.tdiv v3), true))))))
theorem w_impl_RatOf (a0 : Int) (a1 : Int) (r : Int × Int × Bool) (h : m_impl_RatOf a0 a1 = some r) : AM.Spec Try.prog 111 [.int .i64 a0, .int .i64 a1] [] (.tuple [.agg [.int .i64 r.1, .int .i64 r.2.1], .bool r.2.2]) [] := by
  refine spec_of (E := E111_impl_RatOf) Try.func111 rfl rfl rfl rfl ?_
  refine Tri.run 1 [] [.keep [0, 1, 4] [4]] (K' := [.code [(1, 0), (0, 0)] 0, .code [(1, 0)] 1, .code [] 2]) (σ' := ⟨[(0, .int .i64 a0), (1, .int .i64 a1), (4, .ptr 4 0)], [(4, .box [.int .i64 0, .int .i64 0])]⟩) rfl trivial rfl ?_
  rcases bif_some h with ⟨hd1, h⟩ | ⟨hd1, h⟩
  · refine Tri.run 1 [.g true, .g true] [.keep [0, 1, 4, 19] [4]] (K' := [.code [(1, 0)] 1, .code [] 2]) (σ' := ⟨[(0, .int .i64 a0), (1, .int .i64 a1), (4, .ptr 4 0), (19, .bool true)], [(4, .box [.int .i64 0, .int .i64 0])]⟩) rfl ⟨rfl, hd1, trivial⟩ rfl ?_
    refine Tri.run 2 [.g true] [.keep [4, 5] [4]] (K' := [.code [(1, 0), (1, 0)] 1, .code [] 2]) (σ' := ⟨[(4, .ptr 4 0), (5, .bool false)], [(4, .box [.int .i64 0, .int .i64 0])]⟩) rfl ⟨rfl, trivial⟩ rfl ?_
    have h := Option.some.inj h
    subst h
    exact Tri.ret rfl ⟨.inl rfl, rfl, rfl⟩
  · obtain ⟨v1, hk2, h⟩ := bind_some h
    rcases bif_some h with ⟨hd3, h⟩ | ⟨hd3, h⟩
    · refine Tri.run 1 [.g false, .r ⟨[], .bool v1, []⟩, .g true] [.keep [0, 1, 4, 19] [4]] (K' := [.code [(1, 0)] 1, .code [] 2]) (σ' := ⟨[(0, .int .i64 a0), (1, .int .i64 a1), (4, .ptr 4 0), (19, .bool true)], [(4, .box [.int .i64 0, .int .i64 0])]⟩) rfl ⟨hd3, (w_impl_within a0 (-1000000000000000000 : Int) (1000000000000000000 : Int) v1 hk2), hd1, trivial⟩ rfl ?_
      refine Tri.run 2 [.g true] [.keep [4, 5] [4]] (K' := [.code [(1, 0), (1, 0)] 1, .code [] 2]) (σ' := ⟨[(4, .ptr 4 0), (5, .bool false)], [(4, .box [.int .i64 0, .int .i64 0])]⟩) rfl ⟨rfl, trivial⟩ rfl ?_
      have h := Option.some.inj h
      subst h
      exact Tri.ret rfl ⟨.inl rfl, rfl, rfl⟩
    · obtain ⟨v2, hk4, h⟩ := bind_some h
      refine Tri.run 1 [.g false, .r ⟨[], .bool v1, []⟩, .g false, .r ⟨[], .bool v2, []⟩] [.keep [0, 1, 4, 19] [4]] (K' := [.code [(1, 0)] 1, .code [] 2]) (σ' := ⟨[(0, .int .i64 a0), (1, .int .i64 a1), (4, .ptr 4 0), (19, .bool (!v2))], [(4, .box [.int .i64 0, .int .i64 0])]⟩) rfl ⟨(w_impl_within a1 (-1000000000000000000 : Int) (1000000000000000000 : Int) v2 hk4), hd3, (w_impl_within a0 (-1000000000000000000 : Int) (1000000000000000000 : Int) v1 hk2), hd1, trivial⟩ rfl ?_
      rcases bif_some h with ⟨hd5, h⟩ | ⟨hd5, h⟩
      · refine Tri.run 2 [.g true] [.keep [4, 5] [4]] (K' := [.code [(1, 0), (1, 0)] 1, .code [] 2]) (σ' := ⟨[(4, .ptr 4 0), (5, .bool false)], [(4, .box [.int .i64 0, .int .i64 0])]⟩) rfl ⟨hd5, trivial⟩ rfl ?_
        have h := Option.some.inj h
        subst h
        exact Tri.ret rfl ⟨.inl rfl, rfl, rfl⟩
      · obtain ⟨v3, hk6, h⟩ := bind_some h
        refine Tri.run 3 [.g false, .r ⟨[], .int .i64 v3, []⟩] [.keep [0, 1, 4, 6, 25] [4]] (K' := [.code [(3, 0)] 1, .code [] 4]) (σ' := ⟨[(0, .int .i64 a0), (1, .int .i64 a1), (4, .ptr 4 0), (6, .int .i64 v3), (25, .bool (decide (a1 < (0 : Int))))], [(4, .box [.int .i64 0, .int .i64 0])]⟩) rfl ⟨(w_impl_common a0 a1 v3 hk6), hd5, trivial⟩ rfl ?_
        rcases bif_some h with ⟨hd7, h⟩ | ⟨hd7, h⟩
        · obtain ⟨hg8, h⟩ := grd_some h
          obtain ⟨hg9, h⟩ := grd_some h
          refine Tri.run 3 [.g true] [.keep [4, 7] [4, 7]] (K' := [.code [(5, 0), (0, 0)] 0, .code [(5, 0)] 1, .code [] 6]) (σ' := ⟨[(4, .ptr 4 0), (7, .ptr 7 0)], [(4, .box [.int .i64 0, .int .i64 0]), (7, .box [.int .i64 (IntKind.i64.wrap (a0.tdiv (IntKind.i64.wrap (0 - v3)))), .int .i64 (IntKind.i64.wrap (a1.tdiv (IntKind.i64.wrap (0 - v3))))])]⟩) rfl ⟨hg9, hg8, hd7, trivial⟩ rfl ?_
          obtain ⟨v4, hk10, h⟩ := bind_some h
          refine Tri.run 1 [.r ⟨[], .bool v4, []⟩] [.keep [4, 7, 37] [4, 7]] (K' := [.code [(5, 0)] 1, .code [] 6]) (σ' := ⟨[(4, .ptr 4 0), (7, .ptr 7 0), (37, .bool (!v4))], [(4, .box [.int .i64 0, .int .i64 0]), (7, .box [.int .i64 (IntKind.i64.wrap (a0.tdiv (IntKind.i64.wrap (0 - v3)))), .int .i64 (IntKind.i64.wrap (a1.tdiv (IntKind.i64.wrap (0 - v3))))])]⟩) rfl ⟨(w_impl_IsValidRat (IntKind.i64.wrap (a0.tdiv (IntKind.i64.wrap (0 - v3)))) (IntKind.i64.wrap (a1.tdiv (IntKind.i64.wrap (0 - v3)))) v4 hk10), trivial⟩ rfl ?_
          rcases bif_some h with ⟨hd11, h⟩ | ⟨hd11, h⟩
          · refine Tri.run 2 [.g true] [.keep [4, 5] [4]] (K' := [.code [(5, 0), (1, 0)] 1, .code [] 6]) (σ' := ⟨[(4, .ptr 4 0), (5, .bool false)], [(4, .box [.int .i64 0, .int .i64 0])]⟩) rfl ⟨hd11, trivial⟩ rfl ?_
            have h := Option.some.inj h
            subst h
            exact Tri.ret rfl ⟨.inl rfl, rfl, rfl⟩
          · refine Tri.run 2 [.g false] [.keep [4, 5] [4]] (K' := [.code [] 7]) (σ' := ⟨[(4, .ptr 4 0), (5, .bool true)], [(4, .box [.int .i64 (IntKind.i64.wrap (a0.tdiv (IntKind.i64.wrap (0 - v3)))), .int .i64 (IntKind.i64.wrap (a1.tdiv (IntKind.i64.wrap (0 - v3))))])]⟩) rfl ⟨hd11, trivial⟩ rfl ?_
            have h := Option.some.inj h
            subst h
            exact Tri.ret rfl ⟨.inl rfl, rfl, rfl⟩
        · obtain ⟨hg12, h⟩ := grd_some h
          obtain ⟨hg13, h⟩ := grd_some h
          refine Tri.run 2 [.g false] [.keep [4, 7] [4, 7]] (K' := [.code [(5, 0), (0, 0)] 0, .code [(5, 0)] 1, .code [] 6]) (σ' := ⟨[(4, .ptr 4 0), (7, .ptr 7 0)], [(4, .box [.int .i64 0, .int .i64 0]), (7, .box [.int .i64 (IntKind.i64.wrap (a0.tdiv v3)), .int .i64 (IntKind.i64.wrap (a1.tdiv v3))])]⟩) rfl ⟨hg13, hg12, hd7, trivial⟩ rfl ?_
          obtain ⟨v5, hk14, h⟩ := bind_some h
          refine Tri.run 1 [.r ⟨[], .bool v5, []⟩] [.keep [4, 7, 37] [4, 7]] (K' := [.code [(5, 0)] 1, .code [] 6]) (σ' := ⟨[(4, .ptr 4 0), (7, .ptr 7 0), (37, .bool (!v5))], [(4, .box [.int .i64 0, .int .i64 0]), (7, .box [.int .i64 (IntKind.i64.wrap (a0.tdiv v3)), .int .i64 (IntKind.i64.wrap (a1.tdiv v3))])]⟩) rfl ⟨(w_impl_IsValidRat (IntKind.i64.wrap (a0.tdiv v3)) (IntKind.i64.wrap (a1.tdiv v3)) v5 hk14), trivial⟩ rfl ?_
          rcases bif_some h with ⟨hd15, h⟩ | ⟨hd15, h⟩
          · refine Tri.run 2 [.g true] [.keep [4, 5] [4]] (K' := [.code [(5, 0), (1, 0)] 1, .code [] 6]) (σ' := ⟨[(4, .ptr 4 0), (5, .bool false)], [(4, .box [.int .i64 0, .int .i64 0])]⟩) rfl ⟨hd15, trivial⟩ rfl ?_
            have h := Option.some.inj h
            subst h
            exact Tri.ret rfl ⟨.inl rfl, rfl, rfl⟩
          · refine Tri.run 2 [.g false] [.keep [4, 5] [4]] (K' := [.code [] 7]) (σ' := ⟨[(4, .ptr 4 0), (5, .bool true)], [(4, .box [.int .i64 (IntKind.i64.wrap (a0.tdiv v3)), .int .i64 (IntKind.i64.wrap (a1.tdiv v3))])]⟩) rfl ⟨hd15, trivial⟩ rfl ?_
            have h := Option.some.inj h
            subst h
            exact Tri.ret rfl ⟨.inl rfl, rfl, rfl⟩
/-! impl.MulRat -/
noncomputable def E116_impl_MulRat : Env := ⟨Try.prog, tys, (Try.f116.body).getD .skip, 28, tysOk, mixedOk⟩
abbrev q_impl_MulRat (r : Int × Int × Bool) (σ' : ASt) : Prop := resAV E116_impl_MulRat.T σ' Try.f116.results.toList = some (.tuple [.agg [.int .i64 r.1, .int .i64 r.2.1], .bool r.2.2]) ∧ keepO σ'.ob (namesO []) = []
noncomputable def m_impl_MulRat (a0 : Int) (a1 : Int) (a2 : Int) (a3 : Int) : Option (Int × Int × Bool) :=
(m_impl_IsValidRat a0 a1).bind fun v1 =>
bif !v1 then
(some (0, 0, false))
else
((m_impl_IsValidRat a2 a3).bind fun v2 =>
bif !v2 then
(some (0, 0, false))
else
((m_impl_RatOf (IntKind.i64.wrap (a0 * a2)) (IntKind.i64.wrap (a1 * a3))).bind fun (v3, v4, v5) =>
some (v3, v4, v5)))
theorem w_impl_MulRat (a0 : Int) (a1 : Int) (a2 : Int) (a3 : Int) (r : Int × Int × Bool) (h : m_impl_MulRat a0 a1 a2 a3 = some r) : AM.Spec Try.prog 116 [.agg [.int .i64 a0, .int .i64 a1], .agg [.int .i64 a2, .int .i64 a3]] [] (.tuple [.agg [.int .i64 r.1, .int .i64 r.2.1], .bool r.2.2]) [] := by
  refine spec_of (E := E116_impl_MulRat) Try.func116 rfl rfl rfl rfl ?_
  refine Tri.run 1 [] [.keep [2, 3, 4] [2, 3, 4]] (K' := [.code [(1, 0), (0, 0)] 0, .code [(1, 0)] 1, .code [] 2]) (σ' := ⟨[(2, .ptr 2 0), (3, .ptr 3 0), (4, .ptr 4 0)], [(2, .box [.int .i64 a0, .int .i64 a1]), (3, .box [.int .i64 a2, .int .i64 a3]), (4, .box [.int .i64 0, .int .i64 0])]⟩) rfl trivial rfl ?_
  obtain ⟨v1, hk1, h⟩ := bind_some h
  rcases bif_some h with ⟨hd2, h⟩ | ⟨hd2, h⟩
  · refine Tri.run 1 [.r ⟨[], .bool v1, []⟩, .g true] [.keep [2, 3, 4, 13] [2, 3, 4]] (K' := [.code [(1, 0)] 1, .code [] 2]) (σ' := ⟨[(2, .ptr 2 0), (3, .ptr 3 0), (4, .ptr 4 0), (13, .bool true)], [(2, .box [.int .i64 a0, .int .i64 a1]), (3, .box [.int .i64 a2, .int .i64 a3]), (4, .box [.int .i64 0, .int .i64 0])]⟩) rfl ⟨hd2, (w_impl_IsValidRat a0 a1 v1 hk1), trivial⟩ rfl ?_
    refine Tri.run 2 [.g true] [.keep [4, 5] [4]] (K' := [.code [(1, 0), (1, 0)] 1, .code [] 2]) (σ' := ⟨[(4, .ptr 4 0), (5, .bool false)], [(4, .box [.int .i64 0, .int .i64 0])]⟩) rfl ⟨rfl, trivial⟩ rfl ?_
    have h := Option.some.inj h
    subst h
    exact Tri.ret rfl ⟨.inl rfl, rfl, rfl⟩
  · obtain ⟨v2, hk3, h⟩ := bind_some h
    refine Tri.run 1 [.r ⟨[], .bool v1, []⟩, .g false, .r ⟨[], .bool v2, []⟩] [.keep [2, 3, 4, 13] [2, 3, 4]] (K' := [.code [(1, 0)] 1, .code [] 2]) (σ' := ⟨[(2, .ptr 2 0), (3, .ptr 3 0), (4, .ptr 4 0), (13, .bool (!v2))], [(2, .box [.int .i64 a0, .int .i64 a1]), (3, .box [.int .i64 a2, .int .i64 a3]), (4, .box [.int .i64 0, .int .i64 0])]⟩) rfl ⟨(w_impl_IsValidRat a2 a3 v2 hk3), hd2, (w_impl_IsValidRat a0 a1 v1 hk1), trivial⟩ rfl ?_
    rcases bif_some h with ⟨hd4, h⟩ | ⟨hd4, h⟩
    · refine Tri.run 2 [.g true] [.keep [4, 5] [4]] (K' := [.code [(1, 0), (1, 0)] 1, .code [] 2]) (σ' := ⟨[(4, .ptr 4 0), (5, .bool false)], [(4, .box [.int .i64 0, .int .i64 0])]⟩) rfl ⟨hd4, trivial⟩ rfl ?_
      have h := Option.some.inj h
      subst h
      exact Tri.ret rfl ⟨.inl rfl, rfl, rfl⟩
    · obtain ⟨⟨v3, v4, v5⟩, hk5, h⟩ := bind_some h
      refine Tri.run 2 [.g false, .r ⟨[], .tuple [.agg [.int .i64 v3, .int .i64 v4], .bool v5], []⟩] [.keep [4, 5] [4]] (K' := [.code [] 3]) (σ' := ⟨[(4, .ptr 4 0), (5, .bool v5)], [(4, .box [.int .i64 v3, .int .i64 v4])]⟩) rfl ⟨(w_impl_RatOf (IntKind.i64.wrap (a0 * a2)) (IntKind.i64.wrap (a1 * a3)) (v3, v4, v5) hk5), hd4, trivial⟩ rfl ?_
      have h := Option.some.inj h
      subst h
      exact Tri.ret rfl ⟨.inl rfl, rfl, rfl⟩
/-! impl.AddRat -/
noncomputable def E83_impl_AddRat : Env := ⟨Try.prog, tys, (Try.f83.body).getD .skip, 34, tysOk, mixedOk⟩
abbrev q_impl_AddRat (r : Int × Int × Bool) (σ' : ASt) : Prop := resAV E83_impl_AddRat.T σ' Try.f83.results.toList = some (.tuple [.agg [.int .i64 r.1, .int .i64 r.2.1], .bool r.2.2]) ∧ keepO σ'.ob (namesO []) = []
noncomputable def m_impl_AddRat (a0 : Int) (a1 : Int) (a2 : Int) (a3 : Int) : Option (Int × Int × Bool) :=
(m_impl_IsValidRat a0 a1).bind fun v1 =>
bif !v1 then
(some (0, 0, false))
else
((m_impl_IsValidRat a2 a3).bind fun v2 =>
bif !v2 then
(some (0, 0, false))
else
((m_impl_RatOf (IntKind.i64.wrap ((IntKind.i64.wrap (a0 * a3)) + (IntKind.i64.wrap (a2 * a1)))) (IntKind.i64.wrap (a1 * a3))).bind fun (v3, v4, v5) =>
some (v3, v4, v5)))
theorem w_impl_AddRat (a0 : Int) (a1 : Int) (a2 : Int) (a3 : Int) (r : Int × Int × Bool) (h : m_impl_AddRat a0 a1 a2 a3 = some r) : AM.Spec Try.prog 83 [.agg [.int .i64 a0, .int .i64 a1], .agg [.int .i64 a2, .int .i64 a3]] [] (.tuple [.agg [.int .i64 r.1, .int .i64 r.2.1], .bool r.2.2]) [] := by
  refine spec_of (E := E83_impl_AddRat) Try.func83 rfl rfl rfl rfl ?_
  refine Tri.run 1 [] [.keep [2, 3, 4] [2, 3, 4]] (K' := [.code [(1, 0), (0, 0)] 0, .code [(1, 0)] 1, .code [] 2]) (σ' := ⟨[(2, .ptr 2 0), (3, .ptr 3 0), (4, .ptr 4 0)], [(2, .box [.int .i64 a0, .int .i64 a1]), (3, .box [.int .i64 a2, .int .i64 a3]), (4, .box [.int .i64 0, .int .i64 0])]⟩) rfl trivial rfl ?_
  obtain ⟨v1, hk1, h⟩ := bind_some h
  rcases bif_some h with ⟨hd2, h⟩ | ⟨hd2, h⟩
  · refine Tri.run 1 [.r ⟨[], .bool v1, []⟩, .g true] [.keep [2, 3, 4, 13] [2, 3, 4]] (K' := [.code [(1, 0)] 1, .code [] 2]) (σ' := ⟨[(2, .ptr 2 0), (3, .ptr 3 0), (4, .ptr 4 0), (13, .bool true)], [(2, .box [.int .i64 a0, .int .i64 a1]), (3, .box [.int .i64 a2, .int .i64 a3]), (4, .box [.int .i64 0, .int .i64 0])]⟩) rfl ⟨hd2, (w_impl_IsValidRat a0 a1 v1 hk1), trivial⟩ rfl ?_
    refine Tri.run 2 [.g true] [.keep [4, 5] [4]] (K' := [.code [(1, 0), (1, 0)] 1, .code [] 2]) (σ' := ⟨[(4, .ptr 4 0), (5, .bool false)], [(4, .box [.int .i64 0, .int .i64 0])]⟩) rfl ⟨rfl, trivial⟩ rfl ?_
    have h := Option.some.inj h
    subst h
    exact Tri.ret rfl ⟨.inl rfl, rfl, rfl⟩
  · obtain ⟨v2, hk3, h⟩ := bind_some h
    refine Tri.run 1 [.r ⟨[], .bool v1, []⟩, .g false, .r ⟨[], .bool v2, []⟩] [.keep [2, 3, 4, 13] [2, 3, 4]] (K' := [.code [(1, 0)] 1, .code [] 2]) (σ' := ⟨[(2, .ptr 2 0), (3, .ptr 3 0), (4, .ptr 4 0), (13, .bool (!v2))], [(2, .box [.int .i64 a0, .int .i64 a1]), (3, .box [.int .i64 a2, .int .i64 a3]), (4, .box [.int .i64 0, .int .i64 0])]⟩) rfl ⟨(w_impl_IsValidRat a2 a3 v2 hk3), hd2, (w_impl_IsValidRat a0 a1 v1 hk1), trivial⟩ rfl ?_
    rcases bif_some h with ⟨hd4, h⟩ | ⟨hd4, h⟩
    · refine Tri.run 2 [.g true] [.keep [4, 5] [4]] (K' := [.code [(1, 0), (1, 0)] 1, .code [] 2]) (σ' := ⟨[(4, .ptr 4 0), (5, .bool false)], [(4, .box [.int .i64 0, .int .i64 0])]⟩) rfl ⟨hd4, trivial⟩ rfl ?_
      have h := Option.some.inj h
      subst h
      exact Tri.ret rfl ⟨.inl rfl, rfl, rfl⟩
    · obtain ⟨⟨v3, v4, v5⟩, hk5, h⟩ := bind_some h
      refine Tri.run 2 [.g false, .r ⟨[], .tuple [.agg [.int .i64 v3, .int .i64 v4], .bool v5], []⟩] [.keep [4, 5] [4]] (K' := [.code [] 3]) (σ' := ⟨[(4, .ptr 4 0), (5, .bool v5)], [(4, .box [.int .i64 v3, .int .i64 v4])]⟩) rfl ⟨(w_impl_RatOf (IntKind.i64.wrap ((IntKind.i64.wrap (a0 * a3)) + (IntKind.i64.wrap (a2 * a1)))) (IntKind.i64.wrap (a1 * a3)) (v3, v4, v5) hk5), hd4, trivial⟩ rfl ?_
      have h := Option.some.inj h
      subst h
      exact Tri.ret rfl ⟨.inl rfl, rfl, rfl⟩
/-! impl.DotRat -/
noncomputable def E99_impl_DotRat : Env := ⟨Try.prog, tys, (Try.f99.body).getD .skip, 52, tysOk, mixedOk⟩
abbrev q_impl_DotRat (r : Int × Int × Bool) (σ' : ASt) : Prop := resAV E99_impl_DotRat.T σ' Try.f99.results.toList = some (.tuple [.agg [.int .i64 r.1, .int .i64 r.2.1], .bool r.2.2]) ∧ keepO σ'.ob (namesO []) = []
noncomputable def l_impl_DotRat_0 (a0 : List Q) (a1 : List Q) : (Int × Int × Int) → Option ((Int × Int × Int) ⊕ ((Int × Int) ⊕ ((Int × Int × Bool))))
  | (v3, v4, v5) => (
bif decide (v3 < (a0.length : Int)) then
(grd ((0 : Int) ≤ v3 ∧ v3 < (a0.length : Int)) <|
grd ((0 : Int) ≤ v3 ∧ v3 < (a1.length : Int)) <|
(m_impl_MulRat ((a0.getD v3.toNat ⟨0, 0⟩).num) ((a0.getD v3.toNat ⟨0, 0⟩).den) ((a1.getD v3.toNat ⟨0, 0⟩).num) ((a1.getD v3.toNat ⟨0, 0⟩).den)).bind fun (v6, v7, v8) =>
(m_impl_AddRat v4 v5 v6 v7).bind fun (v9, v10, v11) =>
bif !v8 then
(some (.inr (.inr (0, 0, false))))
else
(bif !v11 then
(some (.inr (.inr (0, 0, false))))
else
(some (.inl (IntKind.i64.wrap (v3 + (1 : Int)), v9, v10)))))
else
(some (.inr (.inl (v4, v5)))))
noncomputable def m_impl_DotRat (a0 : List Q) (a1 : List Q) : Option (Int × Int × Bool) :=
bif (a0.length : Int) != (a1.length : Int) then
(some (0, 0, false))
else
((m_impl_whole (0 : Int)).bind fun (v1, v2) =>
(iter (l_impl_DotRat_0 a0 a1) ((0 : Int), v1, v2)).bind fun
| (.inl (v12, v13)) => (
some (v12, v13, true))
| (.inr r) => some r)
theorem w_impl_DotRat (a0 : List Q) (a1 : List Q) (r : Int × Int × Bool) (h : m_impl_DotRat a0 a1 = some r) : AM.Spec Try.prog 99 [.list (.rats a0), .list (.rats a1)] [] (.tuple [.agg [.int .i64 r.1, .int .i64 r.2.1], .bool r.2.2]) [] := by
  refine spec_of (E := E99_impl_DotRat) Try.func99 rfl rfl rfl rfl ?_
  refine Tri.run 2 [] [.keep [0, 1, 4, 16] [4]] (K' := [.code [(1, 0)] 1, .code [] 2]) (σ' := ⟨[(0, .list (.rats a0)), (1, .list (.rats a1)), (4, .ptr 4 0), (16, .bool ((a0.length : Int) != (a1.length : Int)))], [(4, .box [.int .i64 0, .int .i64 0])]⟩) rfl trivial rfl ?_
  rcases bif_some h with ⟨hd1, h⟩ | ⟨hd1, h⟩
  · refine Tri.run 2 [.g true] [.keep [4, 5] [4]] (K' := [.code [(1, 0), (1, 0)] 1, .code [] 2]) (σ' := ⟨[(4, .ptr 4 0), (5, .bool false)], [(4, .box [.int .i64 0, .int .i64 0])]⟩) rfl ⟨hd1, trivial⟩ rfl ?_
    have h := Option.some.inj h
    subst h
    exact Tri.ret rfl ⟨.inl rfl, rfl, rfl⟩
  · obtain ⟨⟨v1, v2⟩, hk2, h⟩ := bind_some h
    refine Tri.run 3 [.g false, .r ⟨[], .agg [.int .i64 v1, .int .i64 v2], []⟩] [.keep [0, 1, 4, 6, 20, 21] [4, 6]] (K' := [.code [(3, 0), (1, 0)] 0, .blk 0, .code [] 4]) (σ' := ⟨[(0, .list (.rats a0)), (1, .list (.rats a1)), (4, .ptr 4 0), (6, .ptr 6 0), (20, .int .i64 (a0.length : Int)), (21, .int .i64 (0 : Int))], [(4, .box [.int .i64 0, .int .i64 0]), (6, .box [.int .i64 v1, .int .i64 v2])]⟩) rfl ⟨(w_impl_whole (0 : Int) (v1, v2) hk2), hd1, trivial⟩ rfl ?_
    obtain ⟨x1, hk10, h⟩ := bind_some h
    refine Tri.loop (K1 := [.code [(3, 0), (1, 0), (0, 0)] 0]) (K2 := [.blk 0, .code [] 4]) (fun (v3, v4, v5) => ⟨[(0, .list (.rats a0)), (1, .list (.rats a1)), (4, .ptr 4 0), (6, .ptr 6 0), (20, .int .i64 (a0.length : Int)), (21, .int .i64 v3)], [(4, .box [.int .i64 0, .int .i64 0]), (6, .box [.int .i64 v4, .int .i64 v5])]⟩) (fun x e σ' => match x with | (.inl (v12, v13)) => e = .exit 0 ∧ σ' = ⟨[(4, .ptr 4 0), (6, .ptr 6 0)], [(4, .box [.int .i64 0, .int .i64 0]), (6, .box [.int .i64 v12, .int .i64 v13])]⟩ | (.inr r) => e = .ret ∧ q_impl_DotRat r σ') hk10 rfl rfl ?_ ?_
    · intro s x hs
      clear h
      have h := hs
      clear hs
      obtain ⟨v3, v4, v5⟩ := s
      refine Tri.run 1 [] [.keep [0, 1, 4, 6, 20, 21, 22] [4, 6]] (K' := [.code [(3, 0), (1, 0), (0, 0), (1, 0)] 0, .code [(3, 0), (1, 0), (0, 0)] 2]) (σ' := ⟨[(0, .list (.rats a0)), (1, .list (.rats a1)), (4, .ptr 4 0), (6, .ptr 6 0), (20, .int .i64 (a0.length : Int)), (21, .int .i64 v3), (22, .bool (decide (v3 < (a0.length : Int))))], [(4, .box [.int .i64 0, .int .i64 0]), (6, .box [.int .i64 v4, .int .i64 v5])]⟩) rfl trivial rfl ?_
      rcases bif_some h with ⟨hd3, h⟩ | ⟨hd3, h⟩
      · refine Tri.run 2 [.g true] [.keep [0, 1, 4, 6, 7, 20, 21] [4, 6]] (K' := [.code [(3, 0), (1, 0), (0, 0), (2, 0), (0, 0), (1, 0)] 0, .code [(3, 0), (1, 0), (0, 0), (2, 0), (0, 0)] 2, .blk 1, .code [(3, 0), (1, 0), (0, 0)] 3]) (σ' := ⟨[(0, .list (.rats a0)), (1, .list (.rats a1)), (4, .ptr 4 0), (6, .ptr 6 0), (7, .int .i64 v3), (20, .int .i64 (a0.length : Int)), (21, .int .i64 v3)], [(4, .box [.int .i64 0, .int .i64 0]), (6, .box [.int .i64 v4, .int .i64 v5])]⟩) rfl ⟨hd3, trivial⟩ rfl ?_
        obtain ⟨hg4, h⟩ := grd_some h
        obtain ⟨hg5, h⟩ := grd_some h
        obtain ⟨⟨v6, v7, v8⟩, hk6, h⟩ := bind_some h
        obtain ⟨⟨v9, v10, v11⟩, hk7, h⟩ := bind_some h
        refine Tri.run 2 [.r ⟨[], .tuple [.agg [.int .i64 v6, .int .i64 v7], .bool v8], []⟩, .r ⟨[], .tuple [.agg [.int .i64 v9, .int .i64 v10], .bool v11], []⟩] [.keep [0, 1, 4, 6, 9, 10, 11, 20, 21] [4, 6, 10]] (K' := [.code [(3, 0), (1, 0), (0, 0), (2, 0), (0, 0), (3, 0), (0, 0)] 0, .code [(3, 0), (1, 0), (0, 0), (2, 0), (0, 0), (3, 0)] 1, .code [(3, 0), (1, 0), (0, 0), (2, 0), (0, 0)] 4, .blk 1, .code [(3, 0), (1, 0), (0, 0)] 3]) (σ' := ⟨[(0, .list (.rats a0)), (1, .list (.rats a1)), (4, .ptr 4 0), (6, .ptr 6 0), (9, .bool v8), (10, .ptr 10 0), (11, .bool v11), (20, .int .i64 (a0.length : Int)), (21, .int .i64 v3)], [(4, .box [.int .i64 0, .int .i64 0]), (6, .box [.int .i64 v4, .int .i64 v5]), (10, .box [.int .i64 v9, .int .i64 v10])]⟩) rfl ⟨(w_impl_AddRat v4 v5 v6 v7 (v9, v10, v11) hk7), (w_impl_MulRat ((a0.getD v3.toNat ⟨0, 0⟩).num) ((a0.getD v3.toNat ⟨0, 0⟩).den) ((a1.getD v3.toNat ⟨0, 0⟩).num) ((a1.getD v3.toNat ⟨0, 0⟩).den) (v6, v7, v8) hk6), hg5, hg4, trivial⟩ rfl ?_
        rcases bif_some h with ⟨hd8, h⟩ | ⟨hd8, h⟩
        · refine Tri.run 1 [.g true] [.keep [0, 1, 4, 6, 10, 20, 21, 47] [4, 6, 10]] (K' := [.code [(3, 0), (1, 0), (0, 0), (2, 0), (0, 0), (3, 0)] 1, .code [(3, 0), (1, 0), (0, 0), (2, 0), (0, 0)] 4, .blk 1, .code [(3, 0), (1, 0), (0, 0)] 3]) (σ' := ⟨[(0, .list (.rats a0)), (1, .list (.rats a1)), (4, .ptr 4 0), (6, .ptr 6 0), (10, .ptr 10 0), (20, .int .i64 (a0.length : Int)), (21, .int .i64 v3), (47, .bool true)], [(4, .box [.int .i64 0, .int .i64 0]), (6, .box [.int .i64 v4, .int .i64 v5]), (10, .box [.int .i64 v9, .int .i64 v10])]⟩) rfl ⟨hd8, trivial⟩ rfl ?_
          refine Tri.run 2 [.g true] [.keep [4, 5] [4]] (K' := [.code [(3, 0), (1, 0), (0, 0), (2, 0), (0, 0), (3, 0), (1, 0)] 1, .code [(3, 0), (1, 0), (0, 0), (2, 0), (0, 0)] 4, .blk 1, .code [(3, 0), (1, 0), (0, 0)] 3]) (σ' := ⟨[(4, .ptr 4 0), (5, .bool false)], [(4, .box [.int .i64 0, .int .i64 0])]⟩) rfl ⟨rfl, trivial⟩ rfl ?_
          have h := Option.some.inj h
          subst h
          exact Tri.ret rfl ⟨nofun, rfl, rfl, rfl⟩
        · refine Tri.run 1 [.g false] [.keep [0, 1, 4, 6, 10, 20, 21, 47] [4, 6, 10]] (K' := [.code [(3, 0), (1, 0), (0, 0), (2, 0), (0, 0), (3, 0)] 1, .code [(3, 0), (1, 0), (0, 0), (2, 0), (0, 0)] 4, .blk 1, .code [(3, 0), (1, 0), (0, 0)] 3]) (σ' := ⟨[(0, .list (.rats a0)), (1, .list (.rats a1)), (4, .ptr 4 0), (6, .ptr 6 0), (10, .ptr 10 0), (20, .int .i64 (a0.length : Int)), (21, .int .i64 v3), (47, .bool (!v11))], [(4, .box [.int .i64 0, .int .i64 0]), (6, .box [.int .i64 v4, .int .i64 v5]), (10, .box [.int .i64 v9, .int .i64 v10])]⟩) rfl ⟨hd8, trivial⟩ rfl ?_
          rcases bif_some h with ⟨hd9, h⟩ | ⟨hd9, h⟩
          · refine Tri.run 2 [.g true] [.keep [4, 5] [4]] (K' := [.code [(3, 0), (1, 0), (0, 0), (2, 0), (0, 0), (3, 0), (1, 0)] 1, .code [(3, 0), (1, 0), (0, 0), (2, 0), (0, 0)] 4, .blk 1, .code [(3, 0), (1, 0), (0, 0)] 3]) (σ' := ⟨[(4, .ptr 4 0), (5, .bool false)], [(4, .box [.int .i64 0, .int .i64 0])]⟩) rfl ⟨hd9, trivial⟩ rfl ?_
            have h := Option.some.inj h
            subst h
            exact Tri.ret rfl ⟨nofun, rfl, rfl, rfl⟩
          · refine Tri.run 3 [.g false] [.keep [0, 1, 4, 6, 20, 21] [4, 6]] (K' := []) (σ' := ⟨[(0, .list (.rats a0)), (1, .list (.rats a1)), (4, .ptr 4 0), (6, .ptr 6 0), (20, .int .i64 (a0.length : Int)), (21, .int .i64 (IntKind.i64.wrap (v3 + (1 : Int))))], [(4, .box [.int .i64 0, .int .i64 0]), (6, .box [.int .i64 v9, .int .i64 v10])]⟩) rfl ⟨hd9, trivial⟩ rfl ?_
            have h := Option.some.inj h
            subst h
            exact Tri.nil ⟨rfl, rfl⟩
      · refine Tri.run 1 [.g false] [.keep [4, 6] [4, 6]] (K' := [.code [(3, 0), (1, 0), (0, 0), (1, 0), (0, 1)] 0, .code [(3, 0), (1, 0), (0, 0)] 2]) (σ' := ⟨[(4, .ptr 4 0), (6, .ptr 6 0)], [(4, .box [.int .i64 0, .int .i64 0]), (6, .box [.int .i64 v4, .int .i64 v5])]⟩) rfl ⟨hd3, trivial⟩ rfl ?_
        have h := Option.some.inj h
        subst h
        exact Tri.out 0 rfl ⟨nofun, rfl, rfl⟩
    · intro e σ' hne hq
      rcases x1 with ⟨v12, v13⟩ | r
      · obtain ⟨rfl, rfl⟩ := hq
        refine TriX.exit (K' := [.code [] 4]) rfl ?_
        refine Tri.run 1 [] [.keep [4, 5] [4]] (K' := [.code [] 5]) (σ' := ⟨[(4, .ptr 4 0), (5, .bool true)], [(4, .box [.int .i64 v12, .int .i64 v13])]⟩) rfl trivial rfl ?_
        have h := Option.some.inj h
        subst h
        exact Tri.ret rfl ⟨.inl rfl, rfl, rfl⟩
      · obtain ⟨rfl, hq⟩ := hq
        have h := Option.some.inj h
        subst h
        exact TriX.ret ⟨.inl rfl, hq⟩
/-! impl.IsBalancedCollection -/
noncomputable def E53_impl_IsBalancedCollection : Env := ⟨Try.prog, tys, (Try.f53.body).getD .skip, 46, tysOk, mixedOk⟩
abbrev q_impl_IsBalancedCollection (r : Bool) (σ' : ASt) : Prop := resAV E53_impl_IsBalancedCollection.T σ' Try.f53.results.toList = some (.bool r) ∧ keepO σ'.ob (namesO []) = []
noncomputable def l_impl_IsBalancedCollection_0 (a1 : List Q) (v6 : List (List Int)) (v7 : Int) : Option (Int ⊕ (Unit ⊕ Bool)) :=
bif decide (v7 < (v6.length : Int)) then
(grd ((0 : Int) ≤ v7 ∧ v7 < (v6.length : Int)) <|
(m_impl_rats (v6.getD v7.toNat [])).bind fun v8 =>
(m_impl_DotRat v8 a1).bind fun (v9, v10, v11) =>
bif !v11 then
(some (.inr (.inr false)))
else
((m_impl_whole (1 : Int)).bind fun (v12, v13) =>
bif !(v9 == v12 && v10 == v13) then
(some (.inr (.inr false)))
else
(some (.inl (IntKind.i64.wrap (v7 + (1 : Int)))))))
else
(some (.inr (.inl ())))
noncomputable def m_impl_IsBalancedCollection (a0 : Int) (a1 : List Q) : Option Bool :=
(m_impl_within a0 (1 : Int) (5 : Int)).bind fun v1 =>
bif !v1 then
(some false)
else
((m_impl_CountCoalitions a0).bind fun v2 =>
(m_impl_notNegative a1 (IntKind.i64.wrap (v2 - (1 : Int)))).bind fun v3 =>
bif !v3 then
(some false)
else
((m_impl_CountCoalitions a0).bind fun v4 =>
(m_impl_coalitions (1 : Int) (IntKind.i64.wrap (v4 - (1 : Int)))).bind fun v5 =>
(m_impl_members a0 v5).bind fun v6 =>
(iter (l_impl_IsBalancedCollection_0 a1 v6) (0 : Int)).bind fun
| (.inl _) => (
some true)
| (.inr r) => some r))
theorem w_impl_IsBalancedCollection (a0 : Int) (a1 : List Q) (r : Bool) (h : m_impl_IsBalancedCollection a0 a1 = some r) : AM.Spec Try.prog 53 [.int .i64 a0, .list (.rats a1)] [] (.bool r) [] := by
  refine spec_of (E := E53_impl_IsBalancedCollection) Try.func53 rfl rfl rfl rfl ?_
  refine Tri.run 1 [] [.keep [0, 1] []] (K' := [.code [(1, 0), (0, 0)] 0, .code [(1, 0)] 1, .code [] 2]) (σ' := ⟨[(0, .int .i64 a0), (1, .list (.rats a1))], []⟩) rfl trivial rfl ?_
  obtain ⟨v1, hk1, h⟩ := bind_some h
  rcases bif_some h with ⟨hd2, h⟩ | ⟨hd2, h⟩
  · refine Tri.run 1 [.r ⟨[], .bool v1, []⟩, .g true] [.keep [0, 1, 19] []] (K' := [.code [(1, 0)] 1, .code [] 2]) (σ' := ⟨[(0, .int .i64 a0), (1, .list (.rats a1)), (19, .bool true)], []⟩) rfl ⟨hd2, (w_impl_within a0 (1 : Int) (5 : Int) v1 hk1), trivial⟩ rfl ?_
    refine Tri.run 2 [.g true] [.keep [4] []] (K' := [.code [(1, 0), (1, 0)] 1, .code [] 2]) (σ' := ⟨[(4, .bool false)], []⟩) rfl ⟨rfl, trivial⟩ rfl ?_
    have h := Option.some.inj h
    subst h
    exact Tri.ret rfl ⟨.inl rfl, rfl, rfl⟩
  · obtain ⟨v2, hk3, h⟩ := bind_some h
    obtain ⟨v3, hk4, h⟩ := bind_some h
    refine Tri.run 1 [.r ⟨[], .bool v1, []⟩, .g false, .r ⟨[], .int .i64 v2, []⟩, .r ⟨[], .bool v3, []⟩] [.keep [0, 1, 19] []] (K' := [.code [(1, 0)] 1, .code [] 2]) (σ' := ⟨[(0, .int .i64 a0), (1, .list (.rats a1)), (19, .bool (!v3))], []⟩) rfl ⟨(w_impl_notNegative a1 (IntKind.i64.wrap (v2 - (1 : Int))) v3 hk4), (w_impl_CountCoalitions a0 v2 hk3), hd2, (w_impl_within a0 (1 : Int) (5 : Int) v1 hk1), trivial⟩ rfl ?_
    rcases bif_some h with ⟨hd5, h⟩ | ⟨hd5, h⟩
    · refine Tri.run 2 [.g true] [.keep [4] []] (K' := [.code [(1, 0), (1, 0)] 1, .code [] 2]) (σ' := ⟨[(4, .bool false)], []⟩) rfl ⟨hd5, trivial⟩ rfl ?_
      have h := Option.some.inj h
      subst h
      exact Tri.ret rfl ⟨.inl rfl, rfl, rfl⟩
    · obtain ⟨v4, hk6, h⟩ := bind_some h
      obtain ⟨v5, hk7, h⟩ := bind_some h
      obtain ⟨v6, hk8, h⟩ := bind_some h
      refine Tri.run 2 [.g false, .r ⟨[], .int .i64 v4, []⟩, .r ⟨[], .sl 1100 0, [(1100, .arr 3 0 0 (.ints v5))]⟩, .r ⟨[], .sl 1101 0, [(1101, .arr 22 0 0 (.intss v6))]⟩] [.keep [1, 25, 26, 27] [1101]] (K' := [.code [(2, 0), (1, 0)] 0, .blk 0, .code [] 3]) (σ' := ⟨[(1, .list (.rats a1)), (25, .sl 1101 0), (26, .int .i64 (v6.length : Int)), (27, .int .i64 (0 : Int))], [(1101, .arr 22 0 0 (.intss v6))]⟩) rfl ⟨((w_impl_members a0 v5 v6 hk8).swap 1000 1101), ((w_impl_coalitions (1 : Int) (IntKind.i64.wrap (v4 - (1 : Int))) v5 hk7).swap 1000 1100), (w_impl_CountCoalitions a0 v4 hk6), hd5, trivial⟩ rfl ?_
      obtain ⟨x1, hk16, h⟩ := bind_some h
      refine Tri.loop (K1 := [.code [(2, 0), (1, 0), (0, 0)] 0]) (K2 := [.blk 0, .code [] 3]) (fun v7 => ⟨[(1, .list (.rats a1)), (25, .sl 1101 0), (26, .int .i64 (v6.length : Int)), (27, .int .i64 v7)], [(1101, .arr 22 0 0 (.intss v6))]⟩) (fun x e σ' => match x with | (.inl _) => e = .exit 0 ∧ σ' = ⟨[], []⟩ | (.inr r) => e = .ret ∧ q_impl_IsBalancedCollection r σ') hk16 rfl rfl ?_ ?_
      · intro v7 x hs
        clear h
        have h := hs
        clear hs
        refine Tri.run 1 [] [.keep [1, 25, 26, 27, 28] [1101]] (K' := [.code [(2, 0), (1, 0), (0, 0), (1, 0)] 0, .code [(2, 0), (1, 0), (0, 0)] 2]) (σ' := ⟨[(1, .list (.rats a1)), (25, .sl 1101 0), (26, .int .i64 (v6.length : Int)), (27, .int .i64 v7), (28, .bool (decide (v7 < (v6.length : Int))))], [(1101, .arr 22 0 0 (.intss v6))]⟩) rfl trivial rfl ?_
        rcases bif_some h with ⟨hd9, h⟩ | ⟨hd9, h⟩
        · obtain ⟨hg10, h⟩ := grd_some h
          refine Tri.run 2 [.g true] [.keep [1, 6, 25, 26, 27] [1101]] (K' := [.code [(2, 0), (1, 0), (0, 0), (2, 0), (0, 0), (1, 0)] 0, .code [(2, 0), (1, 0), (0, 0), (2, 0), (0, 0)] 2, .blk 1, .code [(2, 0), (1, 0), (0, 0)] 3]) (σ' := ⟨[(1, .list (.rats a1)), (6, .sub 1101 0 0 v7.toNat), (25, .sl 1101 0), (26, .int .i64 (v6.length : Int)), (27, .int .i64 v7)], [(1101, .arr 22 0 0 (.intss v6))]⟩) rfl ⟨hg10, hd9, trivial⟩ rfl ?_
          obtain ⟨v8, hk11, h⟩ := bind_some h
          obtain ⟨⟨v9, v10, v11⟩, hk12, h⟩ := bind_some h
          rcases bif_some h with ⟨hd13, h⟩ | ⟨hd13, h⟩
          · refine Tri.run 2 [.r ⟨[], .sl 1102 0, [(1102, .arr 45 0 0 (.rats v8))]⟩, .r ⟨[], .tuple [.agg [.int .i64 v9, .int .i64 v10], .bool v11], []⟩, .g true] [.keep [1, 25, 26, 27, 44] [1101]] (K' := [.code [(2, 0), (1, 0), (0, 0), (2, 0), (0, 0)] 3, .blk 1, .code [(2, 0), (1, 0), (0, 0)] 3]) (σ' := ⟨[(1, .list (.rats a1)), (25, .sl 1101 0), (26, .int .i64 (v6.length : Int)), (27, .int .i64 v7), (44, .bool true)], [(1101, .arr 22 0 0 (.intss v6))]⟩) rfl ⟨hd13, (w_impl_DotRat v8 a1 (v9, v10, v11) hk12), ((w_impl_rats (v6.getD v7.toNat []) v8 hk11).swap 1000 1102), trivial⟩ rfl ?_
            refine Tri.run 2 [.g true] [.keep [4] []] (K' := [.code [(2, 0), (1, 0), (0, 0), (2, 0), (0, 0), (3, 0)] 1, .blk 1, .code [(2, 0), (1, 0), (0, 0)] 3]) (σ' := ⟨[(4, .bool false)], []⟩) rfl ⟨rfl, trivial⟩ rfl ?_
            have h := Option.some.inj h
            subst h
            exact Tri.ret rfl ⟨nofun, rfl, rfl, rfl⟩
          · obtain ⟨⟨v12, v13⟩, hk14, h⟩ := bind_some h
            refine Tri.run 2 [.r ⟨[], .sl 1102 0, [(1102, .arr 45 0 0 (.rats v8))]⟩, .r ⟨[], .tuple [.agg [.int .i64 v9, .int .i64 v10], .bool v11], []⟩, .g false, .r ⟨[], .agg [.int .i64 v12, .int .i64 v13], []⟩] [.keep [1, 25, 26, 27, 44] [1101]] (K' := [.code [(2, 0), (1, 0), (0, 0), (2, 0), (0, 0)] 3, .blk 1, .code [(2, 0), (1, 0), (0, 0)] 3]) (σ' := ⟨[(1, .list (.rats a1)), (25, .sl 1101 0), (26, .int .i64 (v6.length : Int)), (27, .int .i64 v7), (44, .bool (!(v9 == v12 && v10 == v13)))], [(1101, .arr 22 0 0 (.intss v6))]⟩) rfl ⟨(w_impl_whole (1 : Int) (v12, v13) hk14), hd13, (w_impl_DotRat v8 a1 (v9, v10, v11) hk12), ((w_impl_rats (v6.getD v7.toNat []) v8 hk11).swap 1000 1102), trivial⟩ rfl ?_
            rcases bif_some h with ⟨hd15, h⟩ | ⟨hd15, h⟩
            · refine Tri.run 2 [.g true] [.keep [4] []] (K' := [.code [(2, 0), (1, 0), (0, 0), (2, 0), (0, 0), (3, 0)] 1, .blk 1, .code [(2, 0), (1, 0), (0, 0)] 3]) (σ' := ⟨[(4, .bool false)], []⟩) rfl ⟨hd15, trivial⟩ rfl ?_
              have h := Option.some.inj h
              subst h
              exact Tri.ret rfl ⟨nofun, rfl, rfl, rfl⟩
            · refine Tri.run 2 [.g false] [.keep [1, 25, 26, 27] [1101]] (K' := []) (σ' := ⟨[(1, .list (.rats a1)), (25, .sl 1101 0), (26, .int .i64 (v6.length : Int)), (27, .int .i64 (IntKind.i64.wrap (v7 + (1 : Int))))], [(1101, .arr 22 0 0 (.intss v6))]⟩) rfl ⟨hd15, trivial⟩ rfl ?_
              have h := Option.some.inj h
              subst h
              exact Tri.nil ⟨rfl, rfl⟩
        · refine Tri.run 1 [.g false] [.keep [] []] (K' := [.code [(2, 0), (1, 0), (0, 0), (1, 0), (0, 1)] 0, .code [(2, 0), (1, 0), (0, 0)] 2]) (σ' := ⟨[], []⟩) rfl ⟨hd9, trivial⟩ rfl ?_
          have h := Option.some.inj h
          subst h
          exact Tri.out 0 rfl ⟨nofun, rfl, rfl⟩
      · intro e σ' hne hq
        rcases x1 with _ | r
        · obtain ⟨rfl, rfl⟩ := hq
          refine TriX.exit (K' := [.code [] 3]) rfl ?_
          refine Tri.run 1 [] [.keep [4] []] (K' := [.code [] 4]) (σ' := ⟨[(4, .bool true)], []⟩) rfl trivial rfl ?_
          have h := Option.some.inj h
          subst h
          exact Tri.ret rfl ⟨.inl rfl, rfl, rfl⟩
        · obtain ⟨rfl, hq⟩ := hq
          have h := Option.some.inj h
          subst h
          exact TriX.ret ⟨.inl rfl, hq⟩
/-! laws.eqRat -/
noncomputable def E43_laws_eqRat : Env := ⟨Try.prog, tys, (Try.f43.body).getD .skip, 15, tysOk, mixedOk⟩
abbrev q_laws_eqRat (r : Bool) (σ' : ASt) : Prop := resAV E43_laws_eqRat.T σ' Try.f43.results.toList = some (.bool r) ∧ keepO σ'.ob (namesO []) = []
noncomputable def m_laws_eqRat (a0 : Int) (a1 : Int) (a2 : Int) (a3 : Int) : Option Bool :=
bif a0 != a2 then
(some false)
else
(bif a1 != a3 then
(some false)
else
(some true))
theorem w_laws_eqRat (a0 : Int) (a1 : Int) (a2 : Int) (a3 : Int) (r : Bool) (h : m_laws_eqRat a0 a1 a2 a3 = some r) : AM.Spec Try.prog 43 [.agg [.int .i64 a0, .int .i64 a1], .agg [.int .i64 a2, .int .i64 a3]] [] (.bool r) [] := by
  refine spec_of (E := E43_laws_eqRat) Try.func43 rfl rfl rfl rfl ?_
  refine Tri.run 2 [] [.keep [2, 3, 9] [2, 3]] (K' := [.code [(1, 0)] 1, .code [] 2]) (σ' := ⟨[(2, .ptr 2 0), (3, .ptr 3 0), (9, .bool (a0 != a2))], [(2, .box [.int .i64 a0, .int .i64 a1]), (3, .box [.int .i64 a2, .int .i64 a3])]⟩) rfl trivial rfl ?_
  rcases bif_some h with ⟨hd1, h⟩ | ⟨hd1, h⟩
  · refine Tri.run 2 [.g true] [.keep [4] []] (K' := [.code [(1, 0), (1, 0)] 1, .code [] 2]) (σ' := ⟨[(4, .bool false)], []⟩) rfl ⟨hd1, trivial⟩ rfl ?_
    have h := Option.some.inj h
    subst h
    exact Tri.ret rfl ⟨.inl rfl, rfl, rfl⟩
  · refine Tri.run 2 [.g false] [.keep [14] []] (K' := [.code [(2, 0)] 1, .code [] 3]) (σ' := ⟨[(14, .bool (a1 != a3))], []⟩) rfl ⟨hd1, trivial⟩ rfl ?_
    rcases bif_some h with ⟨hd2, h⟩ | ⟨hd2, h⟩
    · refine Tri.run 2 [.g true] [.keep [4] []] (K' := [.code [(2, 0), (1, 0)] 1, .code [] 3]) (σ' := ⟨[(4, .bool false)], []⟩) rfl ⟨hd2, trivial⟩ rfl ?_
      have h := Option.some.inj h
      subst h
      exact Tri.ret rfl ⟨.inl rfl, rfl, rfl⟩
    · refine Tri.run 2 [.g false] [.keep [4] []] (K' := [.code [] 4]) (σ' := ⟨[(4, .bool true)], []⟩) rfl ⟨hd2, trivial⟩ rfl ?_
      have h := Option.some.inj h
      subst h
      exact Tri.ret rfl ⟨.inl rfl, rfl, rfl⟩
/-! laws.eqRatS -/
noncomputable def E44_laws_eqRatS : Env := ⟨Try.prog, tys, (Try.f44.body).getD .skip, 27, tysOk, mixedOk⟩
abbrev q_laws_eqRatS (r : Bool) (σ' : ASt) : Prop := resAV E44_laws_eqRatS.T σ' Try.f44.results.toList = some (.bool r) ∧ keepO σ'.ob (namesO []) = []
noncomputable def l_laws_eqRatS_0 (a0 : List Q) (a1 : List Q) (v1 : Int) : Option (Int ⊕ (Unit ⊕ Bool)) :=
bif decide (v1 < (a0.length : Int)) then
(grd ((0 : Int) ≤ v1 ∧ v1 < (a0.length : Int)) <|
grd ((0 : Int) ≤ v1 ∧ v1 < (a1.length : Int)) <|
(m_laws_eqRat ((a0.getD v1.toNat ⟨0, 0⟩).num) ((a0.getD v1.toNat ⟨0, 0⟩).den) ((a1.getD v1.toNat ⟨0, 0⟩).num) ((a1.getD v1.toNat ⟨0, 0⟩).den)).bind fun v2 =>
bif !v2 then
(some (.inr (.inr false)))
else
(some (.inl (IntKind.i64.wrap (v1 + (1 : Int))))))
else
(some (.inr (.inl ())))
noncomputable def m_laws_eqRatS (a0 : List Q) (a1 : List Q) : Option Bool :=
bif (a0.length : Int) != (a1.length : Int) then
(some false)
else
((iter (l_laws_eqRatS_0 a0 a1) (0 : Int)).bind fun
| (.inl _) => (
some true)
| (.inr r) => some r)
theorem w_laws_eqRatS (a0 : List Q) (a1 : List Q) (r : Bool) (h : m_laws_eqRatS a0 a1 = some r) : AM.Spec Try.prog 44 [.list (.rats a0), .list (.rats a1)] [] (.bool r) [] := by
  refine spec_of (E := E44_laws_eqRatS) Try.func44 rfl rfl rfl rfl ?_
  refine Tri.run 2 [] [.keep [0, 1, 10] []] (K' := [.code [(1, 0)] 1, .code [] 2]) (σ' := ⟨[(0, .list (.rats a0)), (1, .list (.rats a1)), (10, .bool ((a0.length : Int) != (a1.length : Int)))], []⟩) rfl trivial rfl ?_
  rcases bif_some h with ⟨hd1, h⟩ | ⟨hd1, h⟩
  · refine Tri.run 2 [.g true] [.keep [4] []] (K' := [.code [(1, 0), (1, 0)] 1, .code [] 2]) (σ' := ⟨[(4, .bool false)], []⟩) rfl ⟨hd1, trivial⟩ rfl ?_
    have h := Option.some.inj h
    subst h
    exact Tri.ret rfl ⟨.inl rfl, rfl, rfl⟩
  · refine Tri.run 2 [.g false] [.keep [0, 1, 5] []] (K' := [.code [(2, 0), (1, 0)] 0, .blk 0, .code [] 3]) (σ' := ⟨[(0, .list (.rats a0)), (1, .list (.rats a1)), (5, .int .i64 (0 : Int))], []⟩) rfl ⟨hd1, trivial⟩ rfl ?_
    obtain ⟨x1, hk7, h⟩ := bind_some h
    refine Tri.loop (K1 := [.code [(2, 0), (1, 0), (0, 0)] 0]) (K2 := [.blk 0, .code [] 3]) (fun v1 => ⟨[(0, .list (.rats a0)), (1, .list (.rats a1)), (5, .int .i64 v1)], []⟩) (fun x e σ' => match x with | (.inl _) => e = .exit 0 ∧ σ' = ⟨[], []⟩ | (.inr r) => e = .ret ∧ q_laws_eqRatS r σ') hk7 rfl rfl ?_ ?_
    · intro v1 x hs
      clear h
      have h := hs
      clear hs
      refine Tri.run 1 [] [.keep [0, 1, 5, 14] []] (K' := [.code [(2, 0), (1, 0), (0, 0), (0, 0)] 1, .code [(2, 0), (1, 0), (0, 0)] 1]) (σ' := ⟨[(0, .list (.rats a0)), (1, .list (.rats a1)), (5, .int .i64 v1), (14, .bool (decide (v1 < (a0.length : Int))))], []⟩) rfl trivial rfl ?_
      rcases bif_some h with ⟨hd2, h⟩ | ⟨hd2, h⟩
      · obtain ⟨hg3, h⟩ := grd_some h
        obtain ⟨hg4, h⟩ := grd_some h
        obtain ⟨v2, hk5, h⟩ := bind_some h
        refine Tri.run 2 [.g true, .r ⟨[], .bool v2, []⟩] [.keep [0, 1, 5, 26] []] (K' := [.code [(2, 0), (1, 0), (0, 0), (1, 0), (0, 0)] 1, .blk 1, .code [(2, 0), (1, 0), (0, 0)] 2]) (σ' := ⟨[(0, .list (.rats a0)), (1, .list (.rats a1)), (5, .int .i64 v1), (26, .bool (!v2))], []⟩) rfl ⟨(w_laws_eqRat ((a0.getD v1.toNat ⟨0, 0⟩).num) ((a0.getD v1.toNat ⟨0, 0⟩).den) ((a1.getD v1.toNat ⟨0, 0⟩).num) ((a1.getD v1.toNat ⟨0, 0⟩).den) v2 hk5), hg4, hg3, hd2, trivial⟩ rfl ?_
        rcases bif_some h with ⟨hd6, h⟩ | ⟨hd6, h⟩
        · refine Tri.run 2 [.g true] [.keep [4] []] (K' := [.code [(2, 0), (1, 0), (0, 0), (1, 0), (0, 0), (1, 0)] 1, .blk 1, .code [(2, 0), (1, 0), (0, 0)] 2]) (σ' := ⟨[(4, .bool false)], []⟩) rfl ⟨hd6, trivial⟩ rfl ?_
          have h := Option.some.inj h
          subst h
          exact Tri.ret rfl ⟨nofun, rfl, rfl, rfl⟩
        · refine Tri.run 2 [.g false] [.keep [0, 1, 5] []] (K' := []) (σ' := ⟨[(0, .list (.rats a0)), (1, .list (.rats a1)), (5, .int .i64 (IntKind.i64.wrap (v1 + (1 : Int))))], []⟩) rfl ⟨hd6, trivial⟩ rfl ?_
          have h := Option.some.inj h
          subst h
          exact Tri.nil ⟨rfl, rfl⟩
      · refine Tri.run 1 [.g false] [.keep [] []] (K' := [.code [(2, 0), (1, 0), (0, 0), (0, 0), (1, 1)] 0, .code [(2, 0), (1, 0), (0, 0)] 1]) (σ' := ⟨[], []⟩) rfl ⟨hd2, trivial⟩ rfl ?_
        have h := Option.some.inj h
        subst h
        exact Tri.out 0 rfl ⟨nofun, rfl, rfl⟩
    · intro e σ' hne hq
      rcases x1 with _ | r
      · obtain ⟨rfl, rfl⟩ := hq
        refine TriX.exit (K' := [.code [] 3]) rfl ?_
        refine Tri.run 1 [] [.keep [4] []] (K' := [.code [] 4]) (σ' := ⟨[(4, .bool true)], []⟩) rfl trivial rfl ?_
        have h := Option.some.inj h
        subst h
        exact Tri.ret rfl ⟨.inl rfl, rfl, rfl⟩
      · obtain ⟨rfl, hq⟩ := hq
        have h := Option.some.inj h
        subst h
        exact TriX.ret ⟨.inl rfl, hq⟩
/-! laws.FnExactIsBalancedCollection -/
noncomputable def E14_laws_FnExactIsBalancedCollection : Env := ⟨Try.prog, tys, (Try.f14.body).getD .skip, 31, tysOk, mixedOk⟩
abbrev q_laws_FnExactIsBalancedCollection (r : Bool) (σ' : ASt) : Prop := resAV E14_laws_FnExactIsBalancedCollection.T σ' Try.f14.results.toList = some (.bool r) ∧ keepO σ'.ob (namesO []) = []
noncomputable def m_laws_FnExactIsBalancedCollection (a0 : Int) (a1 : List Q) : Option Bool :=
(m_laws_szRatS a1 (1048576 : Int)).bind fun v1 =>
bif decide (v1 < (0 : Int)) then
(some true)
else
((m_laws_toRatS a1).bind fun v2 =>
(m_spec_IsBalancedCollection a0 v2).bind fun v3 =>
(m_laws_toRatS a1).bind fun v4 =>
(m_impl_IsBalancedCollection a0 v4).bind fun v5 =>
bif v5 != v3 then
(some false)
else
((m_laws_toRatS a1).bind fun v6 =>
(m_laws_eqRatS v4 v6).bind fun v7 =>
bif !v7 then
(some false)
else
(some true)))
theorem w_laws_FnExactIsBalancedCollection (a0 : Int) (a1 : List Q) (r : Bool) (h : m_laws_FnExactIsBalancedCollection a0 a1 = some r) : AM.Spec Try.prog 14 [.int .i64 a0, .list (.rats a1)] [] (.bool r) [] := by
  refine spec_of (E := E14_laws_FnExactIsBalancedCollection) Try.func14 rfl rfl rfl rfl ?_
  refine Tri.run 2 [] [.keep [0, 1, 5] []] (K' := [.code [(2, 0)] 0, .code [] 3]) (σ' := ⟨[(0, .int .i64 a0), (1, .list (.rats a1)), (5, .int .i64 (1048576 : Int))], []⟩) rfl trivial rfl ?_
  obtain ⟨v1, hk1, h⟩ := bind_some h
  refine Tri.run 2 [.r ⟨[], .int .i64 v1, []⟩] [.keep [0, 1, 13] []] (K' := [.code [(3, 0)] 1, .code [] 4]) (σ' := ⟨[(0, .int .i64 a0), (1, .list (.rats a1)), (13, .bool (decide (v1 < (0 : Int))))], []⟩) rfl ⟨(w_laws_szRatS a1 (1048576 : Int) v1 hk1), trivial⟩ rfl ?_
  rcases bif_some h with ⟨hd2, h⟩ | ⟨hd2, h⟩
  · refine Tri.run 2 [.g true] [.keep [4] []] (K' := [.code [(3, 0), (1, 0)] 1, .code [] 4]) (σ' := ⟨[(4, .bool true)], []⟩) rfl ⟨hd2, trivial⟩ rfl ?_
    have h := Option.some.inj h
    subst h
    exact Tri.ret rfl ⟨.inl rfl, rfl, rfl⟩
  · obtain ⟨v2, hk3, h⟩ := bind_some h
    obtain ⟨v3, hk4, h⟩ := bind_some h
    refine Tri.run 2 [.g false, .r ⟨[], .sl 1100 0, [(1100, .arr 45 0 0 (.rats v2))]⟩, .r ⟨[], .bool v3, []⟩] [.keep [0, 1, 6] []] (K' := [.code [(5, 0)] 0, .code [] 6]) (σ' := ⟨[(0, .int .i64 a0), (1, .list (.rats a1)), (6, .bool v3)], []⟩) rfl ⟨(w_spec_IsBalancedCollection a0 v2 v3 hk4), ((w_laws_toRatS a1 v2 hk3).swap 1000 1100), hd2, trivial⟩ rfl ?_
    obtain ⟨v4, hk5, h⟩ := bind_some h
    obtain ⟨v5, hk6, h⟩ := bind_some h
    refine Tri.run 3 [.r ⟨[], .sl 1101 0, [(1101, .arr 45 0 0 (.rats v4))]⟩, .r ⟨[], .bool v5, []⟩] [.keep [1, 7, 25] [1101]] (K' := [.code [(7, 0)] 1, .code [] 8]) (σ' := ⟨[(1, .list (.rats a1)), (7, .sl 1101 0), (25, .bool (v5 != v3))], [(1101, .arr 45 0 0 (.rats v4))]⟩) rfl ⟨(w_impl_IsBalancedCollection a0 v4 v5 hk6), ((w_laws_toRatS a1 v4 hk5).swap 1000 1101), trivial⟩ rfl ?_
    rcases bif_some h with ⟨hd7, h⟩ | ⟨hd7, h⟩
    · refine Tri.run 2 [.g true] [.keep [4] []] (K' := [.code [(7, 0), (1, 0)] 1, .code [] 8]) (σ' := ⟨[(4, .bool false)], []⟩) rfl ⟨hd7, trivial⟩ rfl ?_
      have h := Option.some.inj h
      subst h
      exact Tri.ret rfl ⟨.inl rfl, rfl, rfl⟩
    · obtain ⟨v6, hk8, h⟩ := bind_some h
      obtain ⟨v7, hk9, h⟩ := bind_some h
      refine Tri.run 2 [.g false, .r ⟨[], .sl 1102 0, [(1102, .arr 45 0 0 (.rats v6))]⟩, .r ⟨[], .bool v7, []⟩] [.keep [30] []] (K' := [.code [(8, 0)] 1, .code [] 9]) (σ' := ⟨[(30, .bool (!v7))], []⟩) rfl ⟨(w_laws_eqRatS v4 v6 v7 hk9), ((w_laws_toRatS a1 v6 hk8).swap 1000 1102), hd7, trivial⟩ rfl ?_
      rcases bif_some h with ⟨hd10, h⟩ | ⟨hd10, h⟩
      · refine Tri.run 2 [.g true] [.keep [4] []] (K' := [.code [(8, 0), (1, 0)] 1, .code [] 9]) (σ' := ⟨[(4, .bool false)], []⟩) rfl ⟨hd10, trivial⟩ rfl ?_
        have h := Option.some.inj h
        subst h
        exact Tri.ret rfl ⟨.inl rfl, rfl, rfl⟩
      · refine Tri.run 2 [.g false] [.keep [4] []] (K' := [.code [] 10]) (σ' := ⟨[(4, .bool true)], []⟩) rfl ⟨hd10, trivial⟩ rfl ?_
        have h := Option.some.inj h
        subst h
        exact Tri.ret rfl ⟨.inl rfl, rfl, rfl⟩
end Go.Proofs.Ytdobcjgdhgfedaa
