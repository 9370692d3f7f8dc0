/- models and walks -/
import Derived.Test.YtoefgmmmcpikfaaProg
import Derived.Test.YtoefgmmmcpikfaaAmB
namespace Go.Proofs.Ytoefgmmmcpikfaa
open Go.AM
set_option maxRecDepth 100000
set_option maxHeartbeats 4000000
noncomputable def tys : TEnv := [(3, .int .i64),
  (22, .slice 3 (.ints [])),
  (25, .slice 79 (.rats [])),
  (29, .struct [(0, 3), (1, 3)] [.int .i64 0, .int .i64 0] true),
  (34, .slice 29 (.rats [])),
  (48, .slice 25 (.ratss [])),
  (50, .struct [(0, 48), (1, 22), (2, 3)] [.nil (.ratss []), .nil (.ints []), .int .i64 0] false),
  (53, .slice 34 (.ratss [])),
  (55, .struct [(0, 53), (1, 22), (2, 3)] [.nil (.ratss []), .nil (.ints []), .int .i64 0] false),
  (79, .struct [(0, 3), (1, 3)] [.int .i64 0, .int .i64 0] true)]
theorem tysOk : TOk Try.prog tys := tok_of (by kernel_rfl)
theorem mixedOk : Try.prog.follows .mixedOrders = true := by kernel_rfl
/-! laws.szRatS -/
noncomputable def E16_laws_szRatS : Env := ⟨Try.prog, tys, (Try.f16.body).getD .skip, 12, tysOk, mixedOk⟩
abbrev q_laws_szRatS (r : Int) (σ' : ASt) : Prop := resAV E16_laws_szRatS.T σ' Try.f16.results.toList = some (.int .i64 r) ∧ keepO σ'.ob (namesO []) = []
noncomputable def m_laws_szRatS (a0 : List Q) (a1 : Int) : Option Int :=
bif decide ((IntKind.i64.wrap (a1 - (a0.length : Int))) < (0 : Int)) then
(some (-1 : Int))
else
(some (IntKind.i64.wrap (a1 - (a0.length : Int))))
theorem w_laws_szRatS (a0 : List Q) (a1 : Int) (r : Int) (h : m_laws_szRatS a0 a1 = some r) : AM.Spec Try.prog 16 [.list (.rats a0), .int .i64 a1] [] (.int .i64 r) [] := by
  refine spec_of (E := E16_laws_szRatS) Try.func16 rfl rfl rfl rfl ?_
  refine Tri.run 3 [] [.keep [1, 10] []] (K' := [.code [(2, 0)] 1, .code [] 3]) (σ' := ⟨[(1, .int .i64 (IntKind.i64.wrap (a1 - (a0.length : Int)))), (10, .bool (decide ((IntKind.i64.wrap (a1 - (a0.length : Int))) < (0 : Int))))], []⟩) rfl trivial rfl ?_
  rcases bif_some h with ⟨hd1, h⟩ | ⟨hd1, h⟩
  · refine Tri.run 2 [.g true] [.keep [4] []] (K' := [.code [(2, 0), (1, 0)] 1, .code [] 3]) (σ' := ⟨[(4, .int .i64 (-1 : Int))], []⟩) rfl ⟨hd1, trivial⟩ rfl ?_
    have h := Option.some.inj h
    subst h
    exact Tri.ret rfl ⟨.inl rfl, rfl, rfl⟩
  · refine Tri.run 2 [.g false] [.keep [4] []] (K' := [.code [] 4]) (σ' := ⟨[(4, .int .i64 (IntKind.i64.wrap (a1 - (a0.length : Int))))], []⟩) rfl ⟨hd1, trivial⟩ rfl ?_
    have h := Option.some.inj h
    subst h
    exact Tri.ret rfl ⟨.inl rfl, rfl, rfl⟩
/-! laws.szRatSS -/
noncomputable def E96_laws_szRatSS : Env := ⟨Try.prog, tys, (Try.f96.body).getD .skip, 27, tysOk, mixedOk⟩
abbrev q_laws_szRatSS (r : Int) (σ' : ASt) : Prop := resAV E96_laws_szRatSS.T σ' Try.f96.results.toList = some (.int .i64 r) ∧ keepO σ'.ob (namesO []) = []
noncomputable def l_laws_szRatSS_0 (a0 : List (List Q)) : (Int × Int) → Option ((Int × Int) ⊕ (Int ⊕ Int))
  | (v1, v2) => (
bif decide (v2 < (a0.length : Int)) then
(grd ((0 : Int) ≤ v2 ∧ v2 < (a0.length : Int)) <|
(m_laws_szRatS (a0.getD v2.toNat []) v1).bind fun v3 =>
bif decide (v3 < (0 : Int)) then
(some (.inr (.inr (-1 : Int))))
else
(some (.inl (v3, IntKind.i64.wrap (v2 + (1 : Int))))))
else
(some (.inr (.inl v1))))
noncomputable def m_laws_szRatSS (a0 : List (List Q)) (a1 : Int) : Option Int :=
bif decide ((IntKind.i64.wrap (a1 - (a0.length : Int))) < (0 : Int)) then
(some (-1 : Int))
else
((iter (l_laws_szRatSS_0 a0) (IntKind.i64.wrap (a1 - (a0.length : Int)), (0 : Int))).bind fun
| (.inl v4) => (
some v4)
| (.inr r) => some r)
theorem w_laws_szRatSS (a0 : List (List Q)) (a1 : Int) (r : Int) (h : m_laws_szRatSS a0 a1 = some r) : AM.Spec Try.prog 96 [.list (.ratss a0), .int .i64 a1] [] (.int .i64 r) [] := by
  refine spec_of (E := E96_laws_szRatSS) Try.func96 rfl rfl rfl rfl ?_
  refine Tri.run 3 [] [.keep [0, 1, 11] []] (K' := [.code [(2, 0)] 1, .code [] 3]) (σ' := ⟨[(0, .list (.ratss a0)), (1, .int .i64 (IntKind.i64.wrap (a1 - (a0.length : Int)))), (11, .bool (decide ((IntKind.i64.wrap (a1 - (a0.length : Int))) < (0 : Int))))], []⟩) rfl trivial rfl ?_
  rcases bif_some h with ⟨hd1, h⟩ | ⟨hd1, h⟩
  · refine Tri.run 2 [.g true] [.keep [4] []] (K' := [.code [(2, 0), (1, 0)] 1, .code [] 3]) (σ' := ⟨[(4, .int .i64 (-1 : Int))], []⟩) rfl ⟨hd1, trivial⟩ rfl ?_
    have h := Option.some.inj h
    subst h
    exact Tri.ret rfl ⟨.inl rfl, rfl, rfl⟩
  · refine Tri.run 2 [.g false] [.keep [0, 1, 5] []] (K' := [.code [(3, 0), (1, 0)] 0, .blk 0, .code [] 4]) (σ' := ⟨[(0, .list (.ratss a0)), (1, .int .i64 (IntKind.i64.wrap (a1 - (a0.length : Int)))), (5, .int .i64 (0 : Int))], []⟩) rfl ⟨hd1, trivial⟩ rfl ?_
    obtain ⟨x1, hk6, h⟩ := bind_some h
    refine Tri.loop (K1 := [.code [(3, 0), (1, 0), (0, 0)] 0]) (K2 := [.blk 0, .code [] 4]) (fun (v1, v2) => ⟨[(0, .list (.ratss a0)), (1, .int .i64 v1), (5, .int .i64 v2)], []⟩) (fun x e σ' => match x with | (.inl v4) => e = .exit 0 ∧ σ' = ⟨[(1, .int .i64 v4)], []⟩ | (.inr r) => e = .ret ∧ q_laws_szRatSS r σ') hk6 rfl rfl ?_ ?_
    · intro s x hs
      clear h
      have h := hs
      clear hs
      obtain ⟨v1, v2⟩ := s
      refine Tri.run 1 [] [.keep [0, 1, 5, 15] []] (K' := [.code [(3, 0), (1, 0), (0, 0), (0, 0)] 1, .code [(3, 0), (1, 0), (0, 0)] 1]) (σ' := ⟨[(0, .list (.ratss a0)), (1, .int .i64 v1), (5, .int .i64 v2), (15, .bool (decide (v2 < (a0.length : Int))))], []⟩) rfl trivial rfl ?_
      rcases bif_some h with ⟨hd2, h⟩ | ⟨hd2, h⟩
      · obtain ⟨hg3, h⟩ := grd_some h
        obtain ⟨v3, hk4, h⟩ := bind_some h
        refine Tri.run 3 [.g true, .r ⟨[], .int .i64 v3, []⟩] [.keep [0, 1, 5, 25] []] (K' := [.code [(3, 0), (1, 0), (0, 0), (1, 0), (0, 0)] 2, .blk 1, .code [(3, 0), (1, 0), (0, 0)] 2]) (σ' := ⟨[(0, .list (.ratss a0)), (1, .int .i64 v3), (5, .int .i64 v2), (25, .bool (decide (v3 < (0 : Int))))], []⟩) rfl ⟨(w_laws_szRatS (a0.getD v2.toNat []) v1 v3 hk4), hg3, hd2, trivial⟩ rfl ?_
        rcases bif_some h with ⟨hd5, h⟩ | ⟨hd5, h⟩
        · refine Tri.run 2 [.g true] [.keep [4] []] (K' := [.code [(3, 0), (1, 0), (0, 0), (1, 0), (0, 0), (2, 0)] 1, .blk 1, .code [(3, 0), (1, 0), (0, 0)] 2]) (σ' := ⟨[(4, .int .i64 (-1 : Int))], []⟩) rfl ⟨hd5, trivial⟩ rfl ?_
          have h := Option.some.inj h
          subst h
          exact Tri.ret rfl ⟨nofun, rfl, rfl, rfl⟩
        · refine Tri.run 2 [.g false] [.keep [0, 1, 5] []] (K' := []) (σ' := ⟨[(0, .list (.ratss a0)), (1, .int .i64 v3), (5, .int .i64 (IntKind.i64.wrap (v2 + (1 : Int))))], []⟩) rfl ⟨hd5, trivial⟩ rfl ?_
          have h := Option.some.inj h
          subst h
          exact Tri.nil ⟨rfl, rfl⟩
      · refine Tri.run 1 [.g false] [.keep [1] []] (K' := [.code [(3, 0), (1, 0), (0, 0), (0, 0), (1, 1)] 0, .code [(3, 0), (1, 0), (0, 0)] 1]) (σ' := ⟨[(1, .int .i64 v1)], []⟩) rfl ⟨hd2, trivial⟩ rfl ?_
        have h := Option.some.inj h
        subst h
        exact Tri.out 0 rfl ⟨nofun, rfl, rfl⟩
    · intro e σ' hne hq
      rcases x1 with v4 | r
      · obtain ⟨rfl, rfl⟩ := hq
        refine TriX.exit (K' := [.code [] 4]) rfl ?_
        refine Tri.run 1 [] [.keep [4] []] (K' := [.code [] 5]) (σ' := ⟨[(4, .int .i64 v4)], []⟩) rfl trivial rfl ?_
        have h := Option.some.inj h
        subst h
        exact Tri.ret rfl ⟨.inl rfl, rfl, rfl⟩
      · obtain ⟨rfl, hq⟩ := hq
        have h := Option.some.inj h
        subst h
        exact TriX.ret ⟨.inl rfl, hq⟩
/-! laws.szIntS -/
noncomputable def E64_laws_szIntS : Env := ⟨Try.prog, tys, (Try.f64.body).getD .skip, 12, tysOk, mixedOk⟩
abbrev q_laws_szIntS (r : Int) (σ' : ASt) : Prop := resAV E64_laws_szIntS.T σ' Try.f64.results.toList = some (.int .i64 r) ∧ keepO σ'.ob (namesO []) = []
noncomputable def m_laws_szIntS (a0 : List Int) (a1 : Int) : Option Int :=
bif decide ((IntKind.i64.wrap (a1 - (a0.length : Int))) < (0 : Int)) then
(some (-1 : Int))
else
(some (IntKind.i64.wrap (a1 - (a0.length : Int))))
theorem w_laws_szIntS (a0 : List Int) (a1 : Int) (r : Int) (h : m_laws_szIntS a0 a1 = some r) : AM.Spec Try.prog 64 [.list (.ints a0), .int .i64 a1] [] (.int .i64 r) [] := by
  refine spec_of (E := E64_laws_szIntS) Try.func64 rfl rfl rfl rfl ?_
  refine Tri.run 3 [] [.keep [1, 10] []] (K' := [.code [(2, 0)] 1, .code [] 3]) (σ' := ⟨[(1, .int .i64 (IntKind.i64.wrap (a1 - (a0.length : Int)))), (10, .bool (decide ((IntKind.i64.wrap (a1 - (a0.length : Int))) < (0 : Int))))], []⟩) rfl trivial rfl ?_
  rcases bif_some h with ⟨hd1, h⟩ | ⟨hd1, h⟩
  · refine Tri.run 2 [.g true] [.keep [4] []] (K' := [.code [(2, 0), (1, 0)] 1, .code [] 3]) (σ' := ⟨[(4, .int .i64 (-1 : Int))], []⟩) rfl ⟨hd1, trivial⟩ rfl ?_
    have h := Option.some.inj h
    subst h
    exact Tri.ret rfl ⟨.inl rfl, rfl, rfl⟩
  · refine Tri.run 2 [.g false] [.keep [4] []] (K' := [.code [] 4]) (σ' := ⟨[(4, .int .i64 (IntKind.i64.wrap (a1 - (a0.length : Int))))], []⟩) rfl ⟨hd1, trivial⟩ rfl ?_
    have h := Option.some.inj h
    subst h
    exact Tri.ret rfl ⟨.inl rfl, rfl, rfl⟩
/-! laws.szTableau -/
noncomputable def E33_laws_szTableau : Env := ⟨Try.prog, tys, (Try.f33.body).getD .skip, 18, tysOk, mixedOk⟩
abbrev q_laws_szTableau (r : Int) (σ' : ASt) : Prop := resAV E33_laws_szTableau.T σ' Try.f33.results.toList = some (.int .i64 r) ∧ keepO σ'.ob (namesO []) = []
noncomputable def m_laws_szTableau (a0 : List (List Q)) (a1 : List Int) (_a2 : Int) (a3 : Int) : Option Int :=
(m_laws_szRatSS a0 a3).bind fun v1 =>
bif decide (v1 < (0 : Int)) then
(some (-1 : Int))
else
((m_laws_szIntS a1 v1).bind fun v2 =>
bif decide (v2 < (0 : Int)) then
(some (-1 : Int))
else
(some v2))
theorem w_laws_szTableau (a0 : List (List Q)) (a1 : List Int) (a2 : Int) (a3 : Int) (r : Int) (h : m_laws_szTableau a0 a1 a2 a3 = some r) : AM.Spec Try.prog 33 [.agg [.list (.ratss a0), .list (.ints a1), .int .i64 a2], .int .i64 a3] [] (.int .i64 r) [] := by
  refine spec_of (E := E33_laws_szTableau) Try.func33 rfl rfl rfl rfl ?_
  refine Tri.run 1 [] [.keep [1, 2] [2]] (K' := [.code [(1, 0)] 0, .code [] 2]) (σ' := ⟨[(1, .int .i64 a3), (2, .ptr 2 0)], [(2, .box [.list (.ratss a0), .list (.ints a1), .int .i64 a2])]⟩) rfl trivial rfl ?_
  obtain ⟨v1, hk1, h⟩ := bind_some h
  refine Tri.run 2 [.r ⟨[], .int .i64 v1, []⟩] [.keep [1, 2, 10] [2]] (K' := [.code [(2, 0)] 1, .code [] 3]) (σ' := ⟨[(1, .int .i64 v1), (2, .ptr 2 0), (10, .bool (decide (v1 < (0 : Int))))], [(2, .box [.list (.ratss a0), .list (.ints a1), .int .i64 a2])]⟩) rfl ⟨(w_laws_szRatSS a0 a3 v1 hk1), trivial⟩ rfl ?_
  rcases bif_some h with ⟨hd2, h⟩ | ⟨hd2, h⟩
  · refine Tri.run 2 [.g true] [.keep [4] []] (K' := [.code [(2, 0), (1, 0)] 1, .code [] 3]) (σ' := ⟨[(4, .int .i64 (-1 : Int))], []⟩) rfl ⟨hd2, trivial⟩ rfl ?_
    have h := Option.some.inj h
    subst h
    exact Tri.ret rfl ⟨.inl rfl, rfl, rfl⟩
  · obtain ⟨v2, hk3, h⟩ := bind_some h
    refine Tri.run 3 [.g false, .r ⟨[], .int .i64 v2, []⟩] [.keep [1, 16] []] (K' := [.code [(4, 0)] 1, .code [] 5]) (σ' := ⟨[(1, .int .i64 v2), (16, .bool (decide (v2 < (0 : Int))))], []⟩) rfl ⟨(w_laws_szIntS a1 v1 v2 hk3), hd2, trivial⟩ rfl ?_
    rcases bif_some h with ⟨hd4, h⟩ | ⟨hd4, h⟩
    · refine Tri.run 2 [.g true] [.keep [4] []] (K' := [.code [(4, 0), (1, 0)] 1, .code [] 5]) (σ' := ⟨[(4, .int .i64 (-1 : Int))], []⟩) rfl ⟨hd4, trivial⟩ rfl ?_
      have h := Option.some.inj h
      subst h
      exact Tri.ret rfl ⟨.inl rfl, rfl, rfl⟩
    · refine Tri.run 2 [.g false] [.keep [4] []] (K' := [.code [] 6]) (σ' := ⟨[(4, .int .i64 v2)], []⟩) rfl ⟨hd4, trivial⟩ rfl ?_
      have h := Option.some.inj h
      subst h
      exact Tri.ret rfl ⟨.inl rfl, rfl, rfl⟩
/-! laws.toRat -/
noncomputable def E71_laws_toRat : Env := ⟨Try.prog, tys, (Try.f71.body).getD .skip, 11, tysOk, mixedOk⟩
abbrev q_laws_toRat (r : Int × Int) (σ' : ASt) : Prop := resAV E71_laws_toRat.T σ' Try.f71.results.toList = some (.agg [.int .i64 r.1, .int .i64 r.2]) ∧ keepO σ'.ob (namesO []) = []
noncomputable def m_laws_toRat (a0 : Int) (a1 : Int) : Option (Int × Int) :=
some (a0, a1)
theorem w_laws_toRat (a0 : Int) (a1 : Int) (r : Int × Int) (h : m_laws_toRat a0 a1 = some r) : AM.Spec Try.prog 71 [.agg [.int .i64 a0, .int .i64 a1]] [] (.agg [.int .i64 r.1, .int .i64 r.2]) [] := by
  refine spec_of (E := E71_laws_toRat) Try.func71 rfl rfl rfl rfl ?_
  refine Tri.run 3 [] [.keep [1, 2, 3] [1, 2, 3]] (K' := [.code [(3, 0)] 0, .code [] 4]) (σ' := ⟨[(1, .ptr 1 0), (2, .ptr 2 0), (3, .ptr 3 0)], [(1, .box [.int .i64 a0, .int .i64 a1]), (2, .box [.int .i64 0, .int .i64 0]), (3, .box [.int .i64 a0, .int .i64 0])]⟩) rfl trivial rfl ?_
  refine Tri.run 2 [] [.keep [2] [2]] (K' := [.code [] 5]) (σ' := ⟨[(2, .ptr 2 0)], [(2, .box [.int .i64 a0, .int .i64 a1])]⟩) rfl trivial rfl ?_
  have h := Option.some.inj h
  subst h
  exact Tri.ret rfl ⟨.inl rfl, rfl, rfl⟩
/-! laws.toRatS -/
noncomputable def E19_laws_toRatS : Env := ⟨Try.prog, tys, (Try.f19.body).getD .skip, 23, tysOk, mixedOk⟩
abbrev q_laws_toRatS (r : List Q) (σ' : ASt) : Prop := resAV E19_laws_toRatS.T σ' Try.f19.results.toList = some (.sl 1000 0) ∧ keepO σ'.ob (namesO [(1000, .arr 29 0 0 (.rats r))]) = [(1000, .arr 29 0 0 (.rats r))]
noncomputable def l_laws_toRatS_0 (a0 : List Q) : (Int × (List Q)) → Option ((Int × (List Q)) ⊕ ((List Q)))
  | (v1, v2) => (
bif decide (v1 < (a0.length : Int)) then
(grd ((0 : Int) ≤ v1 ∧ v1 < (a0.length : Int)) <|
(m_laws_toRat ((a0.getD v1.toNat ⟨0, 0⟩).num) ((a0.getD v1.toNat ⟨0, 0⟩).den)).bind fun (v3, v4) =>
grd ((0 : Int) ≤ v1 ∧ v1 < (v2.length : Int)) <|
some (.inl (IntKind.i64.wrap (v1 + (1 : Int)), v2.set v1.toNat ⟨v3, v4⟩)))
else
(some (.inr v2)))
noncomputable def m_laws_toRatS (a0 : List Q) : Option (List Q) :=
grd ((0 : Int) ≤ (a0.length : Int) ∧ (a0.length : Int) = (a0.length : Int) ∧ (a0.length : Int) ≤ (room : Int)) <|
(iter (l_laws_toRatS_0 a0) ((0 : Int), List.replicate (a0.length : Int).toNat (⟨0, 0⟩ : Q))).bind fun
| v5 => (
some v5)
theorem w_laws_toRatS (a0 : List Q) (r : List Q) (h : m_laws_toRatS a0 = some r) : AM.Spec Try.prog 19 [.list (.rats a0)] [] (.sl 1000 0) [(1000, .arr 29 0 0 (.rats r))] := by
  refine spec_of (E := E19_laws_toRatS) Try.func19 rfl rfl rfl rfl ?_
  obtain ⟨hg1, h⟩ := grd_some h
  refine Tri.run 3 [] [.keep [0, 3, 4] [7]] (K' := [.code [(2, 0), (1, 0)] 0, .blk 0, .code [] 3]) (σ' := ⟨[(0, .list (.rats a0)), (3, .sl 7 0), (4, .int .i64 (0 : Int))], [(7, .arr 29 0 0 (.rats (List.replicate (a0.length : Int).toNat (⟨0, 0⟩ : Q))))]⟩) rfl ⟨hg1, trivial⟩ rfl ?_
  obtain ⟨v5, hk6, h⟩ := bind_some h
  refine Tri.loop (K1 := [.code [(2, 0), (1, 0), (0, 0)] 0]) (K2 := [.blk 0, .code [] 3]) (fun (v1, v2) => ⟨[(0, .list (.rats a0)), (3, .sl 7 0), (4, .int .i64 v1)], [(7, .arr 29 0 0 (.rats v2))]⟩) (fun x e σ' => match x with | v5 => e = .exit 0 ∧ σ' = ⟨[(3, .sl 7 0)], [(7, .arr 29 0 0 (.rats v5))]⟩) hk6 rfl rfl ?_ ?_
  · intro s x hs
    clear h
    have h := hs
    clear hs
    obtain ⟨v1, v2⟩ := s
    refine Tri.run 1 [] [.keep [0, 3, 4, 11] [7]] (K' := [.code [(2, 0), (1, 0), (0, 0), (0, 0)] 1, .code [(2, 0), (1, 0), (0, 0)] 1]) (σ' := ⟨[(0, .list (.rats a0)), (3, .sl 7 0), (4, .int .i64 v1), (11, .bool (decide (v1 < (a0.length : Int))))], [(7, .arr 29 0 0 (.rats v2))]⟩) rfl trivial rfl ?_
    rcases bif_some h with ⟨hd2, h⟩ | ⟨hd2, h⟩
    · obtain ⟨hg3, h⟩ := grd_some h
      obtain ⟨⟨v3, v4⟩, hk4, h⟩ := bind_some h
      obtain ⟨hg5, h⟩ := grd_some h
      refine Tri.run 3 [.g true, .r ⟨[], .agg [.int .i64 v3, .int .i64 v4], []⟩] [.keep [0, 3, 4] [7]] (K' := []) (σ' := ⟨[(0, .list (.rats a0)), (3, .sl 7 0), (4, .int .i64 (IntKind.i64.wrap (v1 + (1 : Int))))], [(7, .arr 29 0 0 (.rats (v2.set v1.toNat ⟨v3, v4⟩)))]⟩) rfl ⟨hg5, (w_laws_toRat ((a0.getD v1.toNat ⟨0, 0⟩).num) ((a0.getD v1.toNat ⟨0, 0⟩).den) (v3, v4) hk4), hg3, hd2, trivial⟩ rfl ?_
      have h := Option.some.inj h
      subst h
      exact Tri.nil ⟨rfl, rfl⟩
    · refine Tri.run 1 [.g false] [.keep [3] [7]] (K' := [.code [(2, 0), (1, 0), (0, 0), (0, 0), (1, 1)] 0, .code [(2, 0), (1, 0), (0, 0)] 1]) (σ' := ⟨[(3, .sl 7 0)], [(7, .arr 29 0 0 (.rats v2))]⟩) rfl ⟨hd2, trivial⟩ rfl ?_
      have h := Option.some.inj h
      subst h
      exact Tri.out 0 rfl ⟨nofun, rfl, rfl⟩
  · intro e σ' hne hq
    obtain ⟨rfl, rfl⟩ := hq
    refine TriX.exit (K' := [.code [] 3]) rfl ?_
    refine Tri.run 1 [] [.swap 7 1000, .keep [2] [1000]] (K' := [.code [] 4]) (σ' := ⟨[(2, .sl 1000 0)], [(1000, .arr 29 0 0 (.rats v5))]⟩) rfl trivial rfl ?_
    have h := Option.some.inj h
    subst h
    exact Tri.ret rfl ⟨.inl rfl, rfl, rfl⟩
/-! laws.toRatSS -/
noncomputable def E100_laws_toRatSS : Env := ⟨Try.prog, tys, (Try.f100.body).getD .skip, 23, tysOk, mixedOk⟩
abbrev q_laws_toRatSS (r : List (List Q)) (σ' : ASt) : Prop := resAV E100_laws_toRatSS.T σ' Try.f100.results.toList = some (.sl 1000 0) ∧ keepO σ'.ob (namesO [(1000, .arr 34 0 0 (.ratss r))]) = [(1000, .arr 34 0 0 (.ratss r))]
noncomputable def l_laws_toRatSS_0 (a0 : List (List Q)) : (Int × (List (List Q))) → Option ((Int × (List (List Q))) ⊕ ((List (List Q))))
  | (v1, v2) => (
bif decide (v1 < (a0.length : Int)) then
(grd ((0 : Int) ≤ v1 ∧ v1 < (a0.length : Int)) <|
(m_laws_toRatS (a0.getD v1.toNat [])).bind fun v3 =>
grd ((0 : Int) ≤ v1 ∧ v1 < (v2.length : Int)) <|
some (.inl (IntKind.i64.wrap (v1 + (1 : Int)), v2.set v1.toNat v3)))
else
(some (.inr v2)))
noncomputable def m_laws_toRatSS (a0 : List (List Q)) : Option (List (List Q)) :=
grd ((0 : Int) ≤ (a0.length : Int) ∧ (a0.length : Int) = (a0.length : Int) ∧ (a0.length : Int) ≤ (room : Int)) <|
(iter (l_laws_toRatSS_0 a0) ((0 : Int), List.replicate (a0.length : Int).toNat ([] : List Q))).bind fun
| v4 => (
some v4)
theorem w_laws_toRatSS (a0 : List (List Q)) (r : List (List Q)) (h : m_laws_toRatSS a0 = some r) : AM.Spec Try.prog 100 [.list (.ratss a0)] [] (.sl 1000 0) [(1000, .arr 34 0 0 (.ratss r))] := by
  refine spec_of (E := E100_laws_toRatSS) Try.func100 rfl rfl rfl rfl ?_
  obtain ⟨hg1, h⟩ := grd_some h
  refine Tri.run 3 [] [.keep [0, 3, 4] [7]] (K' := [.code [(2, 0), (1, 0)] 0, .blk 0, .code [] 3]) (σ' := ⟨[(0, .list (.ratss a0)), (3, .sl 7 0), (4, .int .i64 (0 : Int))], [(7, .arr 34 0 0 (.ratss (List.replicate (a0.length : Int).toNat ([] : List Q))))]⟩) rfl ⟨hg1, trivial⟩ rfl ?_
  obtain ⟨v4, hk6, h⟩ := bind_some h
  refine Tri.loop (K1 := [.code [(2, 0), (1, 0), (0, 0)] 0]) (K2 := [.blk 0, .code [] 3]) (fun (v1, v2) => ⟨[(0, .list (.ratss a0)), (3, .sl 7 0), (4, .int .i64 v1)], [(7, .arr 34 0 0 (.ratss v2))]⟩) (fun x e σ' => match x with | v4 => e = .exit 0 ∧ σ' = ⟨[(3, .sl 7 0)], [(7, .arr 34 0 0 (.ratss v4))]⟩) hk6 rfl rfl ?_ ?_
  · intro s x hs
    clear h
    have h := hs
    clear hs
    obtain ⟨v1, v2⟩ := s
    refine Tri.run 1 [] [.keep [0, 3, 4, 11] [7]] (K' := [.code [(2, 0), (1, 0), (0, 0), (0, 0)] 1, .code [(2, 0), (1, 0), (0, 0)] 1]) (σ' := ⟨[(0, .list (.ratss a0)), (3, .sl 7 0), (4, .int .i64 v1), (11, .bool (decide (v1 < (a0.length : Int))))], [(7, .arr 34 0 0 (.ratss v2))]⟩) rfl trivial rfl ?_
    rcases bif_some h with ⟨hd2, h⟩ | ⟨hd2, h⟩
    · obtain ⟨hg3, h⟩ := grd_some h
      obtain ⟨v3, hk4, h⟩ := bind_some h
      obtain ⟨hg5, h⟩ := grd_some h
      refine Tri.run 3 [.g true, .r ⟨[], .sl 1100 0, [(1100, .arr 29 0 0 (.rats v3))]⟩] [.rever 7, .keep [0, 3, 4] [7]] (K' := []) (σ' := ⟨[(0, .list (.ratss a0)), (3, .sl 7 0), (4, .int .i64 (IntKind.i64.wrap (v1 + (1 : Int))))], [(7, .arr 34 0 0 (.ratss (v2.set v1.toNat v3)))]⟩) rfl ⟨hg5, ((w_laws_toRatS (a0.getD v1.toNat []) v3 hk4).swap 1000 1100), hg3, hd2, trivial⟩ rfl ?_
      have h := Option.some.inj h
      subst h
      exact Tri.nil ⟨rfl, rfl⟩
    · refine Tri.run 1 [.g false] [.keep [3] [7]] (K' := [.code [(2, 0), (1, 0), (0, 0), (0, 0), (1, 1)] 0, .code [(2, 0), (1, 0), (0, 0)] 1]) (σ' := ⟨[(3, .sl 7 0)], [(7, .arr 34 0 0 (.ratss v2))]⟩) rfl ⟨hd2, trivial⟩ rfl ?_
      have h := Option.some.inj h
      subst h
      exact Tri.out 0 rfl ⟨nofun, rfl, rfl⟩
  · intro e σ' hne hq
    obtain ⟨rfl, rfl⟩ := hq
    refine TriX.exit (K' := [.code [] 3]) rfl ?_
    refine Tri.run 1 [] [.swap 7 1000, .keep [2] [1000]] (K' := [.code [] 4]) (σ' := ⟨[(2, .sl 1000 0)], [(1000, .arr 34 0 0 (.ratss v4))]⟩) rfl trivial rfl ?_
    have h := Option.some.inj h
    subst h
    exact Tri.ret rfl ⟨.inl rfl, rfl, rfl⟩
/-! laws.toIntS -/
noncomputable def E70_laws_toIntS : Env := ⟨Try.prog, tys, (Try.f70.body).getD .skip, 22, tysOk, mixedOk⟩
abbrev q_laws_toIntS (r : List Int) (σ' : ASt) : Prop := resAV E70_laws_toIntS.T σ' Try.f70.results.toList = some (.sl 1000 0) ∧ keepO σ'.ob (namesO [(1000, .arr 3 0 0 (.ints r))]) = [(1000, .arr 3 0 0 (.ints r))]
noncomputable def l_laws_toIntS_0 (a0 : List Int) : (Int × (List Int)) → Option ((Int × (List Int)) ⊕ ((List Int)))
  | (v1, v2) => (
bif decide (v1 < (a0.length : Int)) then
(grd ((0 : Int) ≤ v1 ∧ v1 < (a0.length : Int)) <|
grd ((0 : Int) ≤ v1 ∧ v1 < (v2.length : Int)) <|
some (.inl (IntKind.i64.wrap (v1 + (1 : Int)), v2.set v1.toNat (a0.getD v1.toNat 0))))
else
(some (.inr v2)))
noncomputable def m_laws_toIntS (a0 : List Int) : Option (List Int) :=
grd ((0 : Int) ≤ (a0.length : Int) ∧ (a0.length : Int) = (a0.length : Int) ∧ (a0.length : Int) ≤ (room : Int)) <|
(iter (l_laws_toIntS_0 a0) ((0 : Int), List.replicate (a0.length : Int).toNat (0 : Int))).bind fun
| v3 => (
some v3)
theorem w_laws_toIntS (a0 : List Int) (r : List Int) (h : m_laws_toIntS a0 = some r) : AM.Spec Try.prog 70 [.list (.ints a0)] [] (.sl 1000 0) [(1000, .arr 3 0 0 (.ints r))] := by
  refine spec_of (E := E70_laws_toIntS) Try.func70 rfl rfl rfl rfl ?_
  obtain ⟨hg1, h⟩ := grd_some h
  refine Tri.run 3 [] [.keep [0, 3, 4] [7]] (K' := [.code [(2, 0), (1, 0)] 0, .blk 0, .code [] 3]) (σ' := ⟨[(0, .list (.ints a0)), (3, .sl 7 0), (4, .int .i64 (0 : Int))], [(7, .arr 3 0 0 (.ints (List.replicate (a0.length : Int).toNat (0 : Int))))]⟩) rfl ⟨hg1, trivial⟩ rfl ?_
  obtain ⟨v3, hk5, h⟩ := bind_some h
  refine Tri.loop (K1 := [.code [(2, 0), (1, 0), (0, 0)] 0]) (K2 := [.blk 0, .code [] 3]) (fun (v1, v2) => ⟨[(0, .list (.ints a0)), (3, .sl 7 0), (4, .int .i64 v1)], [(7, .arr 3 0 0 (.ints v2))]⟩) (fun x e σ' => match x with | v3 => e = .exit 0 ∧ σ' = ⟨[(3, .sl 7 0)], [(7, .arr 3 0 0 (.ints v3))]⟩) hk5 rfl rfl ?_ ?_
  · intro s x hs
    clear h
    have h := hs
    clear hs
    obtain ⟨v1, v2⟩ := s
    refine Tri.run 1 [] [.keep [0, 3, 4, 11] [7]] (K' := [.code [(2, 0), (1, 0), (0, 0), (0, 0)] 1, .code [(2, 0), (1, 0), (0, 0)] 1]) (σ' := ⟨[(0, .list (.ints a0)), (3, .sl 7 0), (4, .int .i64 v1), (11, .bool (decide (v1 < (a0.length : Int))))], [(7, .arr 3 0 0 (.ints v2))]⟩) rfl trivial rfl ?_
    rcases bif_some h with ⟨hd2, h⟩ | ⟨hd2, h⟩
    · obtain ⟨hg3, h⟩ := grd_some h
      obtain ⟨hg4, h⟩ := grd_some h
      refine Tri.run 3 [.g true] [.keep [0, 3, 4] [7]] (K' := []) (σ' := ⟨[(0, .list (.ints a0)), (3, .sl 7 0), (4, .int .i64 (IntKind.i64.wrap (v1 + (1 : Int))))], [(7, .arr 3 0 0 (.ints (v2.set v1.toNat (a0.getD v1.toNat 0))))]⟩) rfl ⟨hg4, hg3, hd2, trivial⟩ rfl ?_
      have h := Option.some.inj h
      subst h
      exact Tri.nil ⟨rfl, rfl⟩
    · refine Tri.run 1 [.g false] [.keep [3] [7]] (K' := [.code [(2, 0), (1, 0), (0, 0), (0, 0), (1, 1)] 0, .code [(2, 0), (1, 0), (0, 0)] 1]) (σ' := ⟨[(3, .sl 7 0)], [(7, .arr 3 0 0 (.ints v2))]⟩) rfl ⟨hd2, trivial⟩ rfl ?_
      have h := Option.some.inj h
      subst h
      exact Tri.out 0 rfl ⟨nofun, rfl, rfl⟩
  · intro e σ' hne hq
    obtain ⟨rfl, rfl⟩ := hq
    refine TriX.exit (K' := [.code [] 3]) rfl ?_
    refine Tri.run 1 [] [.swap 7 1000, .keep [2] [1000]] (K' := [.code [] 4]) (σ' := ⟨[(2, .sl 1000 0)], [(1000, .arr 3 0 0 (.ints v3))]⟩) rfl trivial rfl ?_
    have h := Option.some.inj h
    subst h
    exact Tri.ret rfl ⟨.inl rfl, rfl, rfl⟩
/-! laws.toTableau -/
noncomputable def E35_laws_toTableau : Env := ⟨Try.prog, tys, (Try.f35.body).getD .skip, 16, tysOk, mixedOk⟩
abbrev q_laws_toTableau (r : Int × (List (List Q)) × (List Int)) (σ' : ASt) : Prop := resAV E35_laws_toTableau.T σ' Try.f35.results.toList = some (.agg [.sl 1000 0, .sl 1001 0, .int .i64 r.1]) ∧ keepO σ'.ob (namesO [(1000, .arr 34 0 0 (.ratss r.2.1)), (1001, .arr 3 0 0 (.ints r.2.2))]) = [(1000, .arr 34 0 0 (.ratss r.2.1)), (1001, .arr 3 0 0 (.ints r.2.2))]
noncomputable def m_laws_toTableau (a0 : List (List Q)) (a1 : List Int) (a2 : Int) : Option (Int × (List (List Q)) × (List Int)) :=
(m_laws_toRatSS a0).bind fun v1 =>
(m_laws_toIntS a1).bind fun v2 =>
some (a2, v1, v2)
theorem w_laws_toTableau (a0 : List (List Q)) (a1 : List Int) (a2 : Int) (r : Int × (List (List Q)) × (List Int)) (h : m_laws_toTableau a0 a1 a2 = some r) : AM.Spec Try.prog 35 [.agg [.list (.ratss a0), .list (.ints a1), .int .i64 a2]] [] (.agg [.sl 1000 0, .sl 1001 0, .int .i64 r.1]) [(1000, .arr 34 0 0 (.ratss r.2.1)), (1001, .arr 3 0 0 (.ints r.2.2))] := by
  refine spec_of (E := E35_laws_toTableau) Try.func35 rfl rfl rfl rfl ?_
  refine Tri.run 2 [] [.keep [1, 2, 3] [1, 2, 3]] (K' := [.code [(2, 0)] 0, .code [] 3]) (σ' := ⟨[(1, .ptr 1 0), (2, .ptr 2 0), (3, .ptr 3 0)], [(1, .box [.list (.ratss a0), .list (.ints a1), .int .i64 a2]), (2, .box [.nil (.ratss []), .nil (.ints []), .int .i64 0]), (3, .box [.nil (.ratss []), .nil (.ints []), .int .i64 0])]⟩) rfl trivial rfl ?_
  obtain ⟨v1, hk1, h⟩ := bind_some h
  obtain ⟨v2, hk2, h⟩ := bind_some h
  refine Tri.run 3 [.r ⟨[], .sl 1100 0, [(1100, .arr 34 0 0 (.ratss v1))]⟩, .r ⟨[], .sl 1101 0, [(1101, .arr 3 0 0 (.ints v2))]⟩] [.keep [2, 3] [2, 3, 1100, 1101]] (K' := [.code [(5, 0)] 0, .code [] 6]) (σ' := ⟨[(2, .ptr 2 0), (3, .ptr 3 0)], [(2, .box [.nil (.ratss []), .nil (.ints []), .int .i64 0]), (3, .box [.sl 1100 0, .sl 1101 0, .int .i64 a2]), (1100, .arr 34 0 0 (.ratss v1)), (1101, .arr 3 0 0 (.ints v2))]⟩) rfl ⟨((w_laws_toIntS a1 v2 hk2).swap 1000 1101), ((w_laws_toRatSS a0 v1 hk1).swap 1000 1100), trivial⟩ rfl ?_
  refine Tri.run 1 [] [.swap 1100 1000, .swap 1101 1001, .keep [2] [2, 1000, 1001]] (K' := [.code [] 6]) (σ' := ⟨[(2, .ptr 2 0)], [(2, .box [.sl 1000 0, .sl 1001 0, .int .i64 a2]), (1000, .arr 34 0 0 (.ratss v1)), (1001, .arr 3 0 0 (.ints v2))]⟩) rfl trivial rfl ?_
  have h := Option.some.inj h
  subst h
  exact Tri.ret rfl ⟨.inl rfl, rfl, rfl⟩
/-! spec.l1In -/
noncomputable def E66_spec_l1In : Env := ⟨Try.prog, tys, (Try.f66.body).getD .skip, 15, tysOk, mixedOk⟩
abbrev q_spec_l1In (r : Bool) (σ' : ASt) : Prop := resAV E66_spec_l1In.T σ' Try.f66.results.toList = some (.bool r) ∧ keepO σ'.ob (namesO []) = []
noncomputable def m_spec_l1In (a0 : Int) (a1 : Int) (a2 : Int) : Option Bool :=
bif decide (a0 ≥ a1) then
(some (decide (a0 ≤ a2)))
else
(some false)
theorem w_spec_l1In (a0 : Int) (a1 : Int) (a2 : Int) (r : Bool) (h : m_spec_l1In a0 a1 a2 = some r) : AM.Spec Try.prog 66 [.int .i64 a0, .int .i64 a1, .int .i64 a2] [] (.bool r) [] := by
  refine spec_of (E := E66_spec_l1In) Try.func66 rfl rfl rfl rfl ?_
  refine Tri.run 1 [] [.keep [0, 1, 2] []] (K' := [.code [(1, 0)] 0, .code [] 2]) (σ' := ⟨[(0, .int .i64 a0), (1, .int .i64 a1), (2, .int .i64 a2)], []⟩) rfl trivial rfl ?_
  rcases bif_some h with ⟨hd1, h⟩ | ⟨hd1, h⟩
  · refine Tri.run 1 [.g true] [.keep [6] []] (K' := [.code [] 2]) (σ' := ⟨[(6, .bool (decide (a0 ≤ a2)))], []⟩) rfl ⟨hd1, trivial⟩ rfl ?_
    have h := Option.some.inj h
    subst h
    exact Tri.ret rfl ⟨.inl rfl, rfl, rfl⟩
  · refine Tri.run 1 [.g false] [.keep [6] []] (K' := [.code [] 2]) (σ' := ⟨[(6, .bool false)], []⟩) rfl ⟨hd1, trivial⟩ rfl ?_
    have h := Option.some.inj h
    subst h
    exact Tri.ret rfl ⟨.inl rfl, rfl, rfl⟩
/-! spec.l6Good -/
noncomputable def E97_spec_l6Good : Env := ⟨Try.prog, tys, (Try.f97.body).getD .skip, 54, tysOk, mixedOk⟩
abbrev q_spec_l6Good (r : Bool) (σ' : ASt) : Prop := resAV E97_spec_l6Good.T σ' Try.f97.results.toList = some (.bool r) ∧ keepO σ'.ob (namesO []) = []
noncomputable def l_spec_l6Good_0 (a0 : List (List Q)) (a1 : List Int) (a2 : Int) (v1 : Int) : Option (Int ⊕ (Unit ⊕ Bool)) :=
bif decide (v1 < (a0.length : Int)) then
(grd ((0 : Int) ≤ v1 ∧ v1 < (a0.length : Int)) <|
bif ((a0.getD v1.toNat []).length : Int) != (IntKind.i64.wrap ((IntKind.i64.wrap (a2 + (a0.length : Int))) + (1 : Int))) then
(some (.inr (.inr false)))
else
(grd ((0 : Int) ≤ v1 ∧ v1 < (a1.length : Int)) <|
(m_spec_l1In (a1.getD v1.toNat 0) (0 : Int) (IntKind.i64.wrap ((IntKind.i64.wrap (a2 + (a0.length : Int))) - (1 : Int)))).bind fun v2 =>
bif !v2 then
(some (.inr (.inr false)))
else
(some (.inl (IntKind.i64.wrap (v1 + (1 : Int)))))))
else
(some (.inr (.inl ())))
noncomputable def m_spec_l6Good (a0 : List (List Q)) (a1 : List Int) (a2 : Int) : Option Bool :=
bif decide (a2 < (0 : Int)) then
(some false)
else
(bif decide (a2 > (1000 : Int)) then
(some false)
else
(bif (a1.length : Int) != (a0.length : Int) then
(some false)
else
((iter (l_spec_l6Good_0 a0 a1 a2) (0 : Int)).bind fun
| (.inl _) => (
some true)
| (.inr r) => some r)))
theorem w_spec_l6Good (a0 : List (List Q)) (a1 : List Int) (a2 : Int) (r : Bool) (h : m_spec_l6Good a0 a1 a2 = some r) : AM.Spec Try.prog 97 [.agg [.list (.ratss a0), .list (.ints a1), .int .i64 a2]] [] (.bool r) [] := by
  refine spec_of (E := E97_spec_l6Good) Try.func97 rfl rfl rfl rfl ?_
  refine Tri.run 2 [] [.keep [1, 3] [1]] (K' := [.code [(2, 0), (0, 0)] 0, .code [(2, 0)] 1, .code [] 3]) (σ' := ⟨[(1, .ptr 1 0), (3, .int .i64 (a0.length : Int))], [(1, .box [.list (.ratss a0), .list (.ints a1), .int .i64 a2])]⟩) rfl trivial rfl ?_
  rcases bif_some h with ⟨hd1, h⟩ | ⟨hd1, h⟩
  · refine Tri.run 1 [.g true, .g true] [.keep [1, 3, 22] [1]] (K' := [.code [(2, 0)] 1, .code [] 3]) (σ' := ⟨[(1, .ptr 1 0), (3, .int .i64 (a0.length : Int)), (22, .bool true)], [(1, .box [.list (.ratss a0), .list (.ints a1), .int .i64 a2])]⟩) rfl ⟨rfl, hd1, trivial⟩ rfl ?_
    refine Tri.run 2 [.g true] [.keep [2] []] (K' := [.code [(2, 0), (1, 0)] 1, .code [] 3]) (σ' := ⟨[(2, .bool false)], []⟩) rfl ⟨rfl, trivial⟩ rfl ?_
    have h := Option.some.inj h
    subst h
    exact Tri.ret rfl ⟨.inl rfl, rfl, rfl⟩
  · rcases bif_some h with ⟨hd2, h⟩ | ⟨hd2, h⟩
    · refine Tri.run 1 [.g false, .g true] [.keep [1, 3, 22] [1]] (K' := [.code [(2, 0)] 1, .code [] 3]) (σ' := ⟨[(1, .ptr 1 0), (3, .int .i64 (a0.length : Int)), (22, .bool true)], [(1, .box [.list (.ratss a0), .list (.ints a1), .int .i64 a2])]⟩) rfl ⟨hd2, hd1, trivial⟩ rfl ?_
      refine Tri.run 2 [.g true] [.keep [2] []] (K' := [.code [(2, 0), (1, 0)] 1, .code [] 3]) (σ' := ⟨[(2, .bool false)], []⟩) rfl ⟨rfl, trivial⟩ rfl ?_
      have h := Option.some.inj h
      subst h
      exact Tri.ret rfl ⟨.inl rfl, rfl, rfl⟩
    · refine Tri.run 1 [.g false, .g false] [.keep [1, 3, 22] [1]] (K' := [.code [(2, 0)] 1, .code [] 3]) (σ' := ⟨[(1, .ptr 1 0), (3, .int .i64 (a0.length : Int)), (22, .bool ((a1.length : Int) != (a0.length : Int)))], [(1, .box [.list (.ratss a0), .list (.ints a1), .int .i64 a2])]⟩) rfl ⟨hd2, hd1, trivial⟩ rfl ?_
      rcases bif_some h with ⟨hd3, h⟩ | ⟨hd3, h⟩
      · refine Tri.run 2 [.g true] [.keep [2] []] (K' := [.code [(2, 0), (1, 0)] 1, .code [] 3]) (σ' := ⟨[(2, .bool false)], []⟩) rfl ⟨hd3, trivial⟩ rfl ?_
        have h := Option.some.inj h
        subst h
        exact Tri.ret rfl ⟨.inl rfl, rfl, rfl⟩
      · refine Tri.run 2 [.g false] [.keep [1, 3, 4] [1]] (K' := [.code [(3, 0), (1, 0)] 0, .blk 0, .code [] 4]) (σ' := ⟨[(1, .ptr 1 0), (3, .int .i64 (a0.length : Int)), (4, .int .i64 (0 : Int))], [(1, .box [.list (.ratss a0), .list (.ints a1), .int .i64 a2])]⟩) rfl ⟨hd3, trivial⟩ rfl ?_
        obtain ⟨x1, hk10, h⟩ := bind_some h
        refine Tri.loop (K1 := [.code [(3, 0), (1, 0), (0, 0)] 0]) (K2 := [.blk 0, .code [] 4]) (fun v1 => ⟨[(1, .ptr 1 0), (3, .int .i64 (a0.length : Int)), (4, .int .i64 v1)], [(1, .box [.list (.ratss a0), .list (.ints a1), .int .i64 a2])]⟩) (fun x e σ' => match x with | (.inl _) => e = .exit 0 ∧ σ' = ⟨[], []⟩ | (.inr r) => e = .ret ∧ q_spec_l6Good r σ') hk10 rfl rfl ?_ ?_
        · intro v1 x hs
          clear h
          have h := hs
          clear hs
          refine Tri.run 1 [] [.keep [1, 3, 4, 25] [1]] (K' := [.code [(3, 0), (1, 0), (0, 0), (0, 0)] 1, .code [(3, 0), (1, 0), (0, 0)] 1]) (σ' := ⟨[(1, .ptr 1 0), (3, .int .i64 (a0.length : Int)), (4, .int .i64 v1), (25, .bool (decide (v1 < (a0.length : Int))))], [(1, .box [.list (.ratss a0), .list (.ints a1), .int .i64 a2])]⟩) rfl trivial rfl ?_
          rcases bif_some h with ⟨hd4, h⟩ | ⟨hd4, h⟩
          · obtain ⟨hg5, h⟩ := grd_some h
            rcases bif_some h with ⟨hd6, h⟩ | ⟨hd6, h⟩
            · refine Tri.run 2 [.g true, .g true] [.keep [1, 3, 4, 53] [1]] (K' := [.code [(3, 0), (1, 0), (0, 0), (1, 0), (0, 0)] 1, .blk 1, .code [(3, 0), (1, 0), (0, 0)] 2]) (σ' := ⟨[(1, .ptr 1 0), (3, .int .i64 (a0.length : Int)), (4, .int .i64 v1), (53, .bool true)], [(1, .box [.list (.ratss a0), .list (.ints a1), .int .i64 a2])]⟩) rfl ⟨hd6, hg5, hd4, trivial⟩ rfl ?_
              refine Tri.run 2 [.g true] [.keep [2] []] (K' := [.code [(3, 0), (1, 0), (0, 0), (1, 0), (0, 0), (1, 0)] 1, .blk 1, .code [(3, 0), (1, 0), (0, 0)] 2]) (σ' := ⟨[(2, .bool false)], []⟩) rfl ⟨rfl, trivial⟩ rfl ?_
              have h := Option.some.inj h
              subst h
              exact Tri.ret rfl ⟨nofun, rfl, rfl, rfl⟩
            · obtain ⟨hg7, h⟩ := grd_some h
              obtain ⟨v2, hk8, h⟩ := bind_some h
              refine Tri.run 2 [.g true, .g false, .r ⟨[], .bool v2, []⟩] [.keep [1, 3, 4, 53] [1]] (K' := [.code [(3, 0), (1, 0), (0, 0), (1, 0), (0, 0)] 1, .blk 1, .code [(3, 0), (1, 0), (0, 0)] 2]) (σ' := ⟨[(1, .ptr 1 0), (3, .int .i64 (a0.length : Int)), (4, .int .i64 v1), (53, .bool (!v2))], [(1, .box [.list (.ratss a0), .list (.ints a1), .int .i64 a2])]⟩) rfl ⟨(w_spec_l1In (a1.getD v1.toNat 0) (0 : Int) (IntKind.i64.wrap ((IntKind.i64.wrap (a2 + (a0.length : Int))) - (1 : Int))) v2 hk8), hg7, hd6, hg5, hd4, trivial⟩ rfl ?_
              rcases bif_some h with ⟨hd9, h⟩ | ⟨hd9, h⟩
              · refine Tri.run 2 [.g true] [.keep [2] []] (K' := [.code [(3, 0), (1, 0), (0, 0), (1, 0), (0, 0), (1, 0)] 1, .blk 1, .code [(3, 0), (1, 0), (0, 0)] 2]) (σ' := ⟨[(2, .bool false)], []⟩) rfl ⟨hd9, trivial⟩ rfl ?_
                have h := Option.some.inj h
                subst h
                exact Tri.ret rfl ⟨nofun, rfl, rfl, rfl⟩
              · refine Tri.run 2 [.g false] [.keep [1, 3, 4] [1]] (K' := []) (σ' := ⟨[(1, .ptr 1 0), (3, .int .i64 (a0.length : Int)), (4, .int .i64 (IntKind.i64.wrap (v1 + (1 : Int))))], [(1, .box [.list (.ratss a0), .list (.ints a1), .int .i64 a2])]⟩) rfl ⟨hd9, trivial⟩ rfl ?_
                have h := Option.some.inj h
                subst h
                exact Tri.nil ⟨rfl, rfl⟩
          · refine Tri.run 1 [.g false] [.keep [] []] (K' := [.code [(3, 0), (1, 0), (0, 0), (0, 0), (1, 1)] 0, .code [(3, 0), (1, 0), (0, 0)] 1]) (σ' := ⟨[], []⟩) rfl ⟨hd4, trivial⟩ rfl ?_
            have h := Option.some.inj h
            subst h
            exact Tri.out 0 rfl ⟨nofun, rfl, rfl⟩
        · intro e σ' hne hq
          rcases x1 with _ | r
          · obtain ⟨rfl, rfl⟩ := hq
            refine TriX.exit (K' := [.code [] 4]) rfl ?_
            refine Tri.run 1 [] [.keep [2] []] (K' := [.code [] 5]) (σ' := ⟨[(2, .bool true)], []⟩) rfl trivial rfl ?_
            have h := Option.some.inj h
            subst h
            exact Tri.ret rfl ⟨.inl rfl, rfl, rfl⟩
          · obtain ⟨rfl, hq⟩ := hq
            have h := Option.some.inj h
            subst h
            exact TriX.ret ⟨.inl rfl, hq⟩
/-! spec.l3Gcd -/
noncomputable def E140_spec_l3Gcd : Env := ⟨Try.prog, tys, (Try.f140.body).getD .skip, 22, tysOk, mixedOk⟩
abbrev q_spec_l3Gcd (r : Int) (σ' : ASt) : Prop := resAV E140_spec_l3Gcd.T σ' Try.f140.results.toList = some (.int .i64 r) ∧ keepO σ'.ob (namesO []) = []
noncomputable def l_spec_l3Gcd_0 : (Int × Int) → Option ((Int × Int) ⊕ Int)
  | (v1, v2) => (
bif decide (v2 > (0 : Int)) then
(grd (v2 ≠ 0) <|
some (.inl (v2, v1.tmod v2)))
else
(some (.inr v1)))
noncomputable def l_spec_l3Gcd_1 : (Int × Int) → Option ((Int × Int) ⊕ Int)
  | (v4, v5) => (
bif decide (v5 > (0 : Int)) then
(grd (v5 ≠ 0) <|
some (.inl (v5, v4.tmod v5)))
else
(some (.inr v4)))
noncomputable def l_spec_l3Gcd_2 : (Int × Int) → Option ((Int × Int) ⊕ Int)
  | (v7, v8) => (
bif decide (v8 > (0 : Int)) then
(grd (v8 ≠ 0) <|
some (.inl (v8, v7.tmod v8)))
else
(some (.inr v7)))
noncomputable def l_spec_l3Gcd_3 : (Int × Int) → Option ((Int × Int) ⊕ Int)
  | (v10, v11) => (
bif decide (v11 > (0 : Int)) then
(grd (v11 ≠ 0) <|
some (.inl (v11, v10.tmod v11)))
else
(some (.inr v10)))
noncomputable def m_spec_l3Gcd (a0 : Int) (a1 : Int) : Option Int :=
bif decide (a0 < (0 : Int)) then
(bif decide (a1 < (0 : Int)) then
((iter (l_spec_l3Gcd_0) (IntKind.i64.wrap (0 - a0), IntKind.i64.wrap (0 - a1))).bind fun
| v3 => (
some v3))
else
((iter (l_spec_l3Gcd_1) (IntKind.i64.wrap (0 - a0), a1)).bind fun
| v6 => (
some v6)))
else
(bif decide (a1 < (0 : Int)) then
((iter (l_spec_l3Gcd_2) (a0, IntKind.i64.wrap (0 - a1))).bind fun
| v9 => (
some v9))
else
((iter (l_spec_l3Gcd_3) (a0, a1)).bind fun
| v12 => (
some v12)))
theorem w_spec_l3Gcd (a0 : Int) (a1 : Int) (r : Int) (h : m_spec_l3Gcd a0 a1 = some r) : AM.Spec Try.prog 140 [.int .i64 a0, .int .i64 a1] [] (.int .i64 r) [] := by
  refine spec_of (E := E140_spec_l3Gcd) Try.func140 rfl rfl rfl rfl ?_
  refine Tri.run 2 [] [.keep [0, 1, 7] []] (K' := [.code [(1, 0)] 1, .code [] 2]) (σ' := ⟨[(0, .int .i64 a0), (1, .int .i64 a1), (7, .bool (decide (a0 < (0 : Int))))], []⟩) rfl trivial rfl ?_
  rcases bif_some h with ⟨hd1, h⟩ | ⟨hd1, h⟩
  · refine Tri.run 3 [.g true] [.keep [0, 1, 11] []] (K' := [.code [(2, 0)] 1, .code [] 3]) (σ' := ⟨[(0, .int .i64 (IntKind.i64.wrap (0 - a0))), (1, .int .i64 a1), (11, .bool (decide (a1 < (0 : Int))))], []⟩) rfl ⟨hd1, trivial⟩ rfl ?_
    rcases bif_some h with ⟨hd2, h⟩ | ⟨hd2, h⟩
    · refine Tri.run 2 [.g true] [.keep [0, 1] []] (K' := [.code [(3, 0), (0, 0)] 0, .blk 0, .code [] 4]) (σ' := ⟨[(0, .int .i64 (IntKind.i64.wrap (0 - a0))), (1, .int .i64 (IntKind.i64.wrap (0 - a1)))], []⟩) rfl ⟨hd2, trivial⟩ rfl ?_
      obtain ⟨v3, hk5, h⟩ := bind_some h
      refine Tri.loop (K1 := [.code [(3, 0), (0, 0), (0, 0)] 0]) (K2 := [.blk 0, .code [] 4]) (fun (v1, v2) => ⟨[(0, .int .i64 v1), (1, .int .i64 v2)], []⟩) (fun x e σ' => match x with | v3 => e = .exit 0 ∧ σ' = ⟨[(0, .int .i64 v3)], []⟩) hk5 rfl rfl ?_ ?_
      · intro s x hs
        clear h
        have h := hs
        clear hs
        obtain ⟨v1, v2⟩ := s
        refine Tri.run 1 [] [.keep [0, 1, 15] []] (K' := [.code [(3, 0), (0, 0), (0, 0), (0, 0)] 1, .code [(3, 0), (0, 0), (0, 0)] 1]) (σ' := ⟨[(0, .int .i64 v1), (1, .int .i64 v2), (15, .bool (decide (v2 > (0 : Int))))], []⟩) rfl trivial rfl ?_
        rcases bif_some h with ⟨hd3, h⟩ | ⟨hd3, h⟩
        · obtain ⟨hg4, h⟩ := grd_some h
          refine Tri.run 3 [.g true] [.keep [0, 5] []] (K' := [.code [(3, 0), (0, 0), (0, 0), (1, 0)] 2, .blk 1]) (σ' := ⟨[(0, .int .i64 v2), (5, .int .i64 (v1.tmod v2))], []⟩) rfl ⟨hg4, hd3, trivial⟩ rfl ?_
          refine Tri.run 1 [] [.keep [0, 1] []] (K' := []) (σ' := ⟨[(0, .int .i64 v2), (1, .int .i64 (v1.tmod v2))], []⟩) rfl trivial rfl ?_
          have h := Option.some.inj h
          subst h
          exact Tri.nil ⟨rfl, rfl⟩
        · refine Tri.run 1 [.g false] [.keep [0] []] (K' := [.code [(3, 0), (0, 0), (0, 0), (0, 0), (1, 1)] 0, .code [(3, 0), (0, 0), (0, 0)] 1]) (σ' := ⟨[(0, .int .i64 v1)], []⟩) rfl ⟨hd3, trivial⟩ rfl ?_
          have h := Option.some.inj h
          subst h
          exact Tri.out 0 rfl ⟨nofun, rfl, rfl⟩
      · intro e σ' hne hq
        obtain ⟨rfl, rfl⟩ := hq
        refine TriX.exit (K' := [.code [] 4]) rfl ?_
        refine Tri.run 1 [] [.keep [4] []] (K' := [.code [] 5]) (σ' := ⟨[(4, .int .i64 v3)], []⟩) rfl trivial rfl ?_
        have h := Option.some.inj h
        subst h
        exact Tri.ret rfl ⟨.inl rfl, rfl, rfl⟩
    · refine Tri.run 1 [.g false] [.keep [0, 1] []] (K' := [.code [(3, 0), (0, 0)] 0, .blk 0, .code [] 4]) (σ' := ⟨[(0, .int .i64 (IntKind.i64.wrap (0 - a0))), (1, .int .i64 a1)], []⟩) rfl ⟨hd2, trivial⟩ rfl ?_
      obtain ⟨v6, hk8, h⟩ := bind_some h
      refine Tri.loop (K1 := [.code [(3, 0), (0, 0), (0, 0)] 0]) (K2 := [.blk 0, .code [] 4]) (fun (v4, v5) => ⟨[(0, .int .i64 v4), (1, .int .i64 v5)], []⟩) (fun x e σ' => match x with | v6 => e = .exit 0 ∧ σ' = ⟨[(0, .int .i64 v6)], []⟩) hk8 rfl rfl ?_ ?_
      · intro s x hs
        clear h
        have h := hs
        clear hs
        obtain ⟨v4, v5⟩ := s
        refine Tri.run 1 [] [.keep [0, 1, 15] []] (K' := [.code [(3, 0), (0, 0), (0, 0), (0, 0)] 1, .code [(3, 0), (0, 0), (0, 0)] 1]) (σ' := ⟨[(0, .int .i64 v4), (1, .int .i64 v5), (15, .bool (decide (v5 > (0 : Int))))], []⟩) rfl trivial rfl ?_
        rcases bif_some h with ⟨hd6, h⟩ | ⟨hd6, h⟩
        · obtain ⟨hg7, h⟩ := grd_some h
          refine Tri.run 3 [.g true] [.keep [0, 5] []] (K' := [.code [(3, 0), (0, 0), (0, 0), (1, 0)] 2, .blk 1]) (σ' := ⟨[(0, .int .i64 v5), (5, .int .i64 (v4.tmod v5))], []⟩) rfl ⟨hg7, hd6, trivial⟩ rfl ?_
          refine Tri.run 1 [] [.keep [0, 1] []] (K' := []) (σ' := ⟨[(0, .int .i64 v5), (1, .int .i64 (v4.tmod v5))], []⟩) rfl trivial rfl ?_
          have h := Option.some.inj h
          subst h
          exact Tri.nil ⟨rfl, rfl⟩
        · refine Tri.run 1 [.g false] [.keep [0] []] (K' := [.code [(3, 0), (0, 0), (0, 0), (0, 0), (1, 1)] 0, .code [(3, 0), (0, 0), (0, 0)] 1]) (σ' := ⟨[(0, .int .i64 v4)], []⟩) rfl ⟨hd6, trivial⟩ rfl ?_
          have h := Option.some.inj h
          subst h
          exact Tri.out 0 rfl ⟨nofun, rfl, rfl⟩
      · intro e σ' hne hq
        obtain ⟨rfl, rfl⟩ := hq
        refine TriX.exit (K' := [.code [] 4]) rfl ?_
        refine Tri.run 1 [] [.keep [4] []] (K' := [.code [] 5]) (σ' := ⟨[(4, .int .i64 v6)], []⟩) rfl trivial rfl ?_
        have h := Option.some.inj h
        subst h
        exact Tri.ret rfl ⟨.inl rfl, rfl, rfl⟩
  · refine Tri.run 2 [.g false] [.keep [0, 1, 11] []] (K' := [.code [(2, 0)] 1, .code [] 3]) (σ' := ⟨[(0, .int .i64 a0), (1, .int .i64 a1), (11, .bool (decide (a1 < (0 : Int))))], []⟩) rfl ⟨hd1, trivial⟩ rfl ?_
    rcases bif_some h with ⟨hd9, h⟩ | ⟨hd9, h⟩
    · refine Tri.run 2 [.g true] [.keep [0, 1] []] (K' := [.code [(3, 0), (0, 0)] 0, .blk 0, .code [] 4]) (σ' := ⟨[(0, .int .i64 a0), (1, .int .i64 (IntKind.i64.wrap (0 - a1)))], []⟩) rfl ⟨hd9, trivial⟩ rfl ?_
      obtain ⟨v9, hk12, h⟩ := bind_some h
      refine Tri.loop (K1 := [.code [(3, 0), (0, 0), (0, 0)] 0]) (K2 := [.blk 0, .code [] 4]) (fun (v7, v8) => ⟨[(0, .int .i64 v7), (1, .int .i64 v8)], []⟩) (fun x e σ' => match x with | v9 => e = .exit 0 ∧ σ' = ⟨[(0, .int .i64 v9)], []⟩) hk12 rfl rfl ?_ ?_
      · intro s x hs
        clear h
        have h := hs
        clear hs
        obtain ⟨v7, v8⟩ := s
        refine Tri.run 1 [] [.keep [0, 1, 15] []] (K' := [.code [(3, 0), (0, 0), (0, 0), (0, 0)] 1, .code [(3, 0), (0, 0), (0, 0)] 1]) (σ' := ⟨[(0, .int .i64 v7), (1, .int .i64 v8), (15, .bool (decide (v8 > (0 : Int))))], []⟩) rfl trivial rfl ?_
        rcases bif_some h with ⟨hd10, h⟩ | ⟨hd10, h⟩
        · obtain ⟨hg11, h⟩ := grd_some h
          refine Tri.run 3 [.g true] [.keep [0, 5] []] (K' := [.code [(3, 0), (0, 0), (0, 0), (1, 0)] 2, .blk 1]) (σ' := ⟨[(0, .int .i64 v8), (5, .int .i64 (v7.tmod v8))], []⟩) rfl ⟨hg11, hd10, trivial⟩ rfl ?_
          refine Tri.run 1 [] [.keep [0, 1] []] (K' := []) (σ' := ⟨[(0, .int .i64 v8), (1, .int .i64 (v7.tmod v8))], []⟩) rfl trivial rfl ?_
          have h := Option.some.inj h
          subst h
          exact Tri.nil ⟨rfl, rfl⟩
        · refine Tri.run 1 [.g false] [.keep [0] []] (K' := [.code [(3, 0), (0, 0), (0, 0), (0, 0), (1, 1)] 0, .code [(3, 0), (0, 0), (0, 0)] 1]) (σ' := ⟨[(0, .int .i64 v7)], []⟩) rfl ⟨hd10, trivial⟩ rfl ?_
          have h := Option.some.inj h
          subst h
          exact Tri.out 0 rfl ⟨nofun, rfl, rfl⟩
      · intro e σ' hne hq
        obtain ⟨rfl, rfl⟩ := hq
        refine TriX.exit (K' := [.code [] 4]) rfl ?_
        refine Tri.run 1 [] [.keep [4] []] (K' := [.code [] 5]) (σ' := ⟨[(4, .int .i64 v9)], []⟩) rfl trivial rfl ?_
        have h := Option.some.inj h
        subst h
        exact Tri.ret rfl ⟨.inl rfl, rfl, rfl⟩
    · refine Tri.run 1 [.g false] [.keep [0, 1] []] (K' := [.code [(3, 0), (0, 0)] 0, .blk 0, .code [] 4]) (σ' := ⟨[(0, .int .i64 a0), (1, .int .i64 a1)], []⟩) rfl ⟨hd9, trivial⟩ rfl ?_
      obtain ⟨v12, hk15, h⟩ := bind_some h
      refine Tri.loop (K1 := [.code [(3, 0), (0, 0), (0, 0)] 0]) (K2 := [.blk 0, .code [] 4]) (fun (v10, v11) => ⟨[(0, .int .i64 v10), (1, .int .i64 v11)], []⟩) (fun x e σ' => match x with | v12 => e = .exit 0 ∧ σ' = ⟨[(0, .int .i64 v12)], []⟩) hk15 rfl rfl ?_ ?_
      · intro s x hs
        clear h
        have h := hs
        clear hs
        obtain ⟨v10, v11⟩ := s
        refine Tri.run 1 [] [.keep [0, 1, 15] []] (K' := [.code [(3, 0), (0, 0), (0, 0), (0, 0)] 1, .code [(3, 0), (0, 0), (0, 0)] 1]) (σ' := ⟨[(0, .int .i64 v10), (1, .int .i64 v11), (15, .bool (decide (v11 > (0 : Int))))], []⟩) rfl trivial rfl ?_
        rcases bif_some h with ⟨hd13, h⟩ | ⟨hd13, h⟩
        · obtain ⟨hg14, h⟩ := grd_some h
          refine Tri.run 3 [.g true] [.keep [0, 5] []] (K' := [.code [(3, 0), (0, 0), (0, 0), (1, 0)] 2, .blk 1]) (σ' := ⟨[(0, .int .i64 v11), (5, .int .i64 (v10.tmod v11))], []⟩) rfl ⟨hg14, hd13, trivial⟩ rfl ?_
          refine Tri.run 1 [] [.keep [0, 1] []] (K' := []) (σ' := ⟨[(0, .int .i64 v11), (1, .int .i64 (v10.tmod v11))], []⟩) rfl trivial rfl ?_
          have h := Option.some.inj h
          subst h
          exact Tri.nil ⟨rfl, rfl⟩
        · refine Tri.run 1 [.g false] [.keep [0] []] (K' := [.code [(3, 0), (0, 0), (0, 0), (0, 0), (1, 1)] 0, .code [(3, 0), (0, 0), (0, 0)] 1]) (σ' := ⟨[(0, .int .i64 v10)], []⟩) rfl ⟨hd13, trivial⟩ rfl ?_
          have h := Option.some.inj h
          subst h
          exact Tri.out 0 rfl ⟨nofun, rfl, rfl⟩
      · intro e σ' hne hq
        obtain ⟨rfl, rfl⟩ := hq
        refine TriX.exit (K' := [.code [] 4]) rfl ?_
        refine Tri.run 1 [] [.keep [4] []] (K' := [.code [] 5]) (σ' := ⟨[(4, .int .i64 v12)], []⟩) rfl trivial rfl ?_
        have h := Option.some.inj h
        subst h
        exact Tri.ret rfl ⟨.inl rfl, rfl, rfl⟩
/-! spec.IsValidRat -/
noncomputable def E132_spec_IsValidRat : Env := ⟨Try.prog, tys, (Try.f132.body).getD .skip, 19, tysOk, mixedOk⟩
abbrev q_spec_IsValidRat (r : Bool) (σ' : ASt) : Prop := resAV E132_spec_IsValidRat.T σ' Try.f132.results.toList = some (.bool r) ∧ keepO σ'.ob (namesO []) = []
noncomputable def m_spec_IsValidRat (a0 : Int) (a1 : Int) : Option Bool :=
(m_spec_l1In a1 (1 : Int) (1000000000 : Int)).bind fun v1 =>
bif v1 then
((m_spec_l1In a0 (-1000000000 : Int) (1000000000 : Int)).bind fun v2 =>
bif v2 then
((m_spec_l3Gcd a0 a1).bind fun v3 =>
some (v3 == (1 : Int)))
else
(some false))
else
(some false)
theorem w_spec_IsValidRat (a0 : Int) (a1 : Int) (r : Bool) (h : m_spec_IsValidRat a0 a1 = some r) : AM.Spec Try.prog 132 [.agg [.int .i64 a0, .int .i64 a1]] [] (.bool r) [] := by
  refine spec_of (E := E132_spec_IsValidRat) Try.func132 rfl rfl rfl rfl ?_
  refine Tri.run 1 [] [.keep [1] [1]] (K' := [.code [(1, 0)] 0, .code [] 2]) (σ' := ⟨[(1, .ptr 1 0)], [(1, .box [.int .i64 a0, .int .i64 a1])]⟩) rfl trivial rfl ?_
  obtain ⟨v1, hk1, h⟩ := bind_some h
  rcases bif_some h with ⟨hd2, h⟩ | ⟨hd2, h⟩
  · obtain ⟨v2, hk3, h⟩ := bind_some h
    rcases bif_some h with ⟨hd4, h⟩ | ⟨hd4, h⟩
    · obtain ⟨v3, hk5, h⟩ := bind_some h
      refine Tri.run 1 [.r ⟨[], .bool v1, []⟩, .g true, .r ⟨[], .bool v2, []⟩, .g true, .r ⟨[], .int .i64 v3, []⟩] [.keep [2] []] (K' := [.code [] 2]) (σ' := ⟨[(2, .bool (v3 == (1 : Int)))], []⟩) rfl ⟨(w_spec_l3Gcd a0 a1 v3 hk5), hd4, (w_spec_l1In a0 (-1000000000 : Int) (1000000000 : Int) v2 hk3), hd2, (w_spec_l1In a1 (1 : Int) (1000000000 : Int) v1 hk1), trivial⟩ rfl ?_
      have h := Option.some.inj h
      subst h
      exact Tri.ret rfl ⟨.inl rfl, rfl, rfl⟩
    · refine Tri.run 1 [.r ⟨[], .bool v1, []⟩, .g true, .r ⟨[], .bool v2, []⟩, .g false] [.keep [2] []] (K' := [.code [] 2]) (σ' := ⟨[(2, .bool false)], []⟩) rfl ⟨hd4, (w_spec_l1In a0 (-1000000000 : Int) (1000000000 : Int) v2 hk3), hd2, (w_spec_l1In a1 (1 : Int) (1000000000 : Int) v1 hk1), trivial⟩ rfl ?_
      have h := Option.some.inj h
      subst h
      exact Tri.ret rfl ⟨.inl rfl, rfl, rfl⟩
  · refine Tri.run 1 [.r ⟨[], .bool v1, []⟩, .g false, .g false] [.keep [2] []] (K' := [.code [] 2]) (σ' := ⟨[(2, .bool false)], []⟩) rfl ⟨rfl, hd2, (w_spec_l1In a1 (1 : Int) (1000000000 : Int) v1 hk1), trivial⟩ rfl ?_
    have h := Option.some.inj h
    subst h
    exact Tri.ret rfl ⟨.inl rfl, rfl, rfl⟩
/-! spec.RatOf -/
noncomputable def E92_spec_RatOf : Env := ⟨Try.prog, tys, (Try.f92.body).getD .skip, 42, tysOk, mixedOk⟩
abbrev q_spec_RatOf (r : Int × Int × Bool) (σ' : ASt) : Prop := resAV E92_spec_RatOf.T σ' Try.f92.results.toList = some (.tuple [.agg [.int .i64 r.1, .int .i64 r.2.1], .bool r.2.2]) ∧ keepO σ'.ob (namesO []) = []
noncomputable def m_spec_RatOf (a0 : Int) (a1 : Int) : Option (Int × Int × Bool) :=
bif a1 == (0 : Int) then
(some (0, 0, false))
else
((m_spec_l1In a0 (-1000000000000000000 : Int) (1000000000000000000 : Int)).bind fun v1 =>
bif !v1 then
(some (0, 0, false))
else
((m_spec_l1In a1 (-1000000000000000000 : Int) (1000000000000000000 : Int)).bind fun v2 =>
bif !v2 then
(some (0, 0, false))
else
(bif decide (a1 < (0 : Int)) then
((m_spec_l3Gcd (IntKind.i64.wrap (0 - a0)) (IntKind.i64.wrap (0 - a1))).bind fun v3 =>
grd (v3 ≠ 0) <|
grd (v3 ≠ 0) <|
(m_spec_IsValidRat (IntKind.i64.wrap ((IntKind.i64.wrap (0 - a0)).tdiv v3)) (IntKind.i64.wrap ((IntKind.i64.wrap (0 - a1)).tdiv v3))).bind fun v4 =>
bif !v4 then
(some (0, 0, false))
else
(some (IntKind.i64.wrap ((IntKind.i64.wrap (0 - a0)).tdiv v3), IntKind.i64.wrap ((IntKind.i64.wrap (0 - a1)).tdiv v3), true)))
else
((m_spec_l3Gcd a0 a1).bind fun v5 =>
grd (v5 ≠ 0) <|
grd (v5 ≠ 0) <|
(m_spec_IsValidRat (IntKind.i64.wrap (a0.tdiv v5)) (IntKind.i64.wrap (a1.tdiv v5))).bind fun v6 =>
bif !v6 then
(some (0, 0, false))
else
(some (IntKind.i64.wrap (a0.tdiv v5), IntKind.i64.wrap (a1.tdiv v5), true))))))
theorem w_spec_RatOf (a0 : Int) (a1 : Int) (r : Int × Int × Bool) (h : m_spec_RatOf a0 a1 = some r) : AM.Spec Try.prog 92 [.int .i64 a0, .int .i64 a1] [] (.tuple [.agg [.int .i64 r.1, .int .i64 r.2.1], .bool r.2.2]) [] := by
  refine spec_of (E := E92_spec_RatOf) Try.func92 rfl rfl rfl rfl ?_
  refine Tri.run 1 [] [.keep [0, 1, 4] [4]] (K' := [.code [(1, 0), (0, 0)] 0, .code [(1, 0)] 1, .code [] 2]) (σ' := ⟨[(0, .int .i64 a0), (1, .int .i64 a1), (4, .ptr 4 0)], [(4, .box [.int .i64 0, .int .i64 0])]⟩) rfl trivial rfl ?_
  rcases bif_some h with ⟨hd1, h⟩ | ⟨hd1, h⟩
  · refine Tri.run 1 [.g true, .g true] [.keep [0, 1, 4, 19] [4]] (K' := [.code [(1, 0)] 1, .code [] 2]) (σ' := ⟨[(0, .int .i64 a0), (1, .int .i64 a1), (4, .ptr 4 0), (19, .bool true)], [(4, .box [.int .i64 0, .int .i64 0])]⟩) rfl ⟨rfl, hd1, trivial⟩ rfl ?_
    refine Tri.run 2 [.g true] [.keep [4, 5] [4]] (K' := [.code [(1, 0), (1, 0)] 1, .code [] 2]) (σ' := ⟨[(4, .ptr 4 0), (5, .bool false)], [(4, .box [.int .i64 0, .int .i64 0])]⟩) rfl ⟨rfl, trivial⟩ rfl ?_
    have h := Option.some.inj h
    subst h
    exact Tri.ret rfl ⟨.inl rfl, rfl, rfl⟩
  · obtain ⟨v1, hk2, h⟩ := bind_some h
    rcases bif_some h with ⟨hd3, h⟩ | ⟨hd3, h⟩
    · refine Tri.run 1 [.g false, .r ⟨[], .bool v1, []⟩, .g true] [.keep [0, 1, 4, 19] [4]] (K' := [.code [(1, 0)] 1, .code [] 2]) (σ' := ⟨[(0, .int .i64 a0), (1, .int .i64 a1), (4, .ptr 4 0), (19, .bool true)], [(4, .box [.int .i64 0, .int .i64 0])]⟩) rfl ⟨hd3, (w_spec_l1In a0 (-1000000000000000000 : Int) (1000000000000000000 : Int) v1 hk2), hd1, trivial⟩ rfl ?_
      refine Tri.run 2 [.g true] [.keep [4, 5] [4]] (K' := [.code [(1, 0), (1, 0)] 1, .code [] 2]) (σ' := ⟨[(4, .ptr 4 0), (5, .bool false)], [(4, .box [.int .i64 0, .int .i64 0])]⟩) rfl ⟨rfl, trivial⟩ rfl ?_
      have h := Option.some.inj h
      subst h
      exact Tri.ret rfl ⟨.inl rfl, rfl, rfl⟩
    · obtain ⟨v2, hk4, h⟩ := bind_some h
      refine Tri.run 1 [.g false, .r ⟨[], .bool v1, []⟩, .g false, .r ⟨[], .bool v2, []⟩] [.keep [0, 1, 4, 19] [4]] (K' := [.code [(1, 0)] 1, .code [] 2]) (σ' := ⟨[(0, .int .i64 a0), (1, .int .i64 a1), (4, .ptr 4 0), (19, .bool (!v2))], [(4, .box [.int .i64 0, .int .i64 0])]⟩) rfl ⟨(w_spec_l1In a1 (-1000000000000000000 : Int) (1000000000000000000 : Int) v2 hk4), hd3, (w_spec_l1In a0 (-1000000000000000000 : Int) (1000000000000000000 : Int) v1 hk2), hd1, trivial⟩ rfl ?_
      rcases bif_some h with ⟨hd5, h⟩ | ⟨hd5, h⟩
      · refine Tri.run 2 [.g true] [.keep [4, 5] [4]] (K' := [.code [(1, 0), (1, 0)] 1, .code [] 2]) (σ' := ⟨[(4, .ptr 4 0), (5, .bool false)], [(4, .box [.int .i64 0, .int .i64 0])]⟩) rfl ⟨hd5, trivial⟩ rfl ?_
        have h := Option.some.inj h
        subst h
        exact Tri.ret rfl ⟨.inl rfl, rfl, rfl⟩
      · refine Tri.run 2 [.g false] [.keep [0, 1, 4, 22] [4]] (K' := [.code [(2, 0)] 1, .code [] 3]) (σ' := ⟨[(0, .int .i64 a0), (1, .int .i64 a1), (4, .ptr 4 0), (22, .bool (decide (a1 < (0 : Int))))], [(4, .box [.int .i64 0, .int .i64 0])]⟩) rfl ⟨hd5, trivial⟩ rfl ?_
        rcases bif_some h with ⟨hd6, h⟩ | ⟨hd6, h⟩
        · refine Tri.run 3 [.g true] [.keep [0, 1, 4] [4]] (K' := [.code [(3, 0)] 0, .code [] 4]) (σ' := ⟨[(0, .int .i64 (IntKind.i64.wrap (0 - a0))), (1, .int .i64 (IntKind.i64.wrap (0 - a1))), (4, .ptr 4 0)], [(4, .box [.int .i64 0, .int .i64 0])]⟩) rfl ⟨hd6, trivial⟩ rfl ?_
          obtain ⟨v3, hk7, h⟩ := bind_some h
          obtain ⟨hg8, h⟩ := grd_some h
          obtain ⟨hg9, h⟩ := grd_some h
          refine Tri.run 2 [.r ⟨[], .int .i64 v3, []⟩] [.keep [4, 7] [4, 7]] (K' := [.code [(5, 0), (0, 0)] 0, .code [(5, 0)] 1, .code [] 6]) (σ' := ⟨[(4, .ptr 4 0), (7, .ptr 7 0)], [(4, .box [.int .i64 0, .int .i64 0]), (7, .box [.int .i64 (IntKind.i64.wrap ((IntKind.i64.wrap (0 - a0)).tdiv v3)), .int .i64 (IntKind.i64.wrap ((IntKind.i64.wrap (0 - a1)).tdiv v3))])]⟩) rfl ⟨hg9, hg8, (w_spec_l3Gcd (IntKind.i64.wrap (0 - a0)) (IntKind.i64.wrap (0 - a1)) v3 hk7), trivial⟩ rfl ?_
          obtain ⟨v4, hk10, h⟩ := bind_some h
          refine Tri.run 1 [.r ⟨[], .bool v4, []⟩] [.keep [4, 7, 39] [4, 7]] (K' := [.code [(5, 0)] 1, .code [] 6]) (σ' := ⟨[(4, .ptr 4 0), (7, .ptr 7 0), (39, .bool (!v4))], [(4, .box [.int .i64 0, .int .i64 0]), (7, .box [.int .i64 (IntKind.i64.wrap ((IntKind.i64.wrap (0 - a0)).tdiv v3)), .int .i64 (IntKind.i64.wrap ((IntKind.i64.wrap (0 - a1)).tdiv v3))])]⟩) rfl ⟨(w_spec_IsValidRat (IntKind.i64.wrap ((IntKind.i64.wrap (0 - a0)).tdiv v3)) (IntKind.i64.wrap ((IntKind.i64.wrap (0 - a1)).tdiv v3)) v4 hk10), trivial⟩ rfl ?_
          rcases bif_some h with ⟨hd11, h⟩ | ⟨hd11, h⟩
          · refine Tri.run 2 [.g true] [.keep [4, 5] [4]] (K' := [.code [(5, 0), (1, 0)] 1, .code [] 6]) (σ' := ⟨[(4, .ptr 4 0), (5, .bool false)], [(4, .box [.int .i64 0, .int .i64 0])]⟩) rfl ⟨hd11, trivial⟩ rfl ?_
            have h := Option.some.inj h
            subst h
            exact Tri.ret rfl ⟨.inl rfl, rfl, rfl⟩
          · refine Tri.run 2 [.g false] [.keep [4, 5] [4]] (K' := [.code [] 7]) (σ' := ⟨[(4, .ptr 4 0), (5, .bool true)], [(4, .box [.int .i64 (IntKind.i64.wrap ((IntKind.i64.wrap (0 - a0)).tdiv v3)), .int .i64 (IntKind.i64.wrap ((IntKind.i64.wrap (0 - a1)).tdiv v3))])]⟩) rfl ⟨hd11, trivial⟩ rfl ?_
            have h := Option.some.inj h
            subst h
            exact Tri.ret rfl ⟨.inl rfl, rfl, rfl⟩
        · obtain ⟨v5, hk12, h⟩ := bind_some h
          obtain ⟨hg13, h⟩ := grd_some h
          obtain ⟨hg14, h⟩ := grd_some h
          refine Tri.run 3 [.g false, .r ⟨[], .int .i64 v5, []⟩] [.keep [4, 7] [4, 7]] (K' := [.code [(5, 0), (0, 0)] 0, .code [(5, 0)] 1, .code [] 6]) (σ' := ⟨[(4, .ptr 4 0), (7, .ptr 7 0)], [(4, .box [.int .i64 0, .int .i64 0]), (7, .box [.int .i64 (IntKind.i64.wrap (a0.tdiv v5)), .int .i64 (IntKind.i64.wrap (a1.tdiv v5))])]⟩) rfl ⟨hg14, hg13, (w_spec_l3Gcd a0 a1 v5 hk12), hd6, trivial⟩ rfl ?_
          obtain ⟨v6, hk15, h⟩ := bind_some h
          refine Tri.run 1 [.r ⟨[], .bool v6, []⟩] [.keep [4, 7, 39] [4, 7]] (K' := [.code [(5, 0)] 1, .code [] 6]) (σ' := ⟨[(4, .ptr 4 0), (7, .ptr 7 0), (39, .bool (!v6))], [(4, .box [.int .i64 0, .int .i64 0]), (7, .box [.int .i64 (IntKind.i64.wrap (a0.tdiv v5)), .int .i64 (IntKind.i64.wrap (a1.tdiv v5))])]⟩) rfl ⟨(w_spec_IsValidRat (IntKind.i64.wrap (a0.tdiv v5)) (IntKind.i64.wrap (a1.tdiv v5)) v6 hk15), trivial⟩ rfl ?_
          rcases bif_some h with ⟨hd16, h⟩ | ⟨hd16, h⟩
          · refine Tri.run 2 [.g true] [.keep [4, 5] [4]] (K' := [.code [(5, 0), (1, 0)] 1, .code [] 6]) (σ' := ⟨[(4, .ptr 4 0), (5, .bool false)], [(4, .box [.int .i64 0, .int .i64 0])]⟩) rfl ⟨hd16, trivial⟩ rfl ?_
            have h := Option.some.inj h
            subst h
            exact Tri.ret rfl ⟨.inl rfl, rfl, rfl⟩
          · refine Tri.run 2 [.g false] [.keep [4, 5] [4]] (K' := [.code [] 7]) (σ' := ⟨[(4, .ptr 4 0), (5, .bool true)], [(4, .box [.int .i64 (IntKind.i64.wrap (a0.tdiv v5)), .int .i64 (IntKind.i64.wrap (a1.tdiv v5))])]⟩) rfl ⟨hd16, trivial⟩ rfl ?_
            have h := Option.some.inj h
            subst h
            exact Tri.ret rfl ⟨.inl rfl, rfl, rfl⟩
/-! spec.DivRat -/
noncomputable def E84_spec_DivRat : Env := ⟨Try.prog, tys, (Try.f84.body).getD .skip, 28, tysOk, mixedOk⟩
abbrev q_spec_DivRat (r : Int × Int × Bool) (σ' : ASt) : Prop := resAV E84_spec_DivRat.T σ' Try.f84.results.toList = some (.tuple [.agg [.int .i64 r.1, .int .i64 r.2.1], .bool r.2.2]) ∧ keepO σ'.ob (namesO []) = []
noncomputable def m_spec_DivRat (a0 : Int) (a1 : Int) (a2 : Int) (a3 : Int) : Option (Int × Int × Bool) :=
(m_spec_IsValidRat a0 a1).bind fun v1 =>
bif !v1 then
(some (0, 0, false))
else
((m_spec_IsValidRat a2 a3).bind fun v2 =>
bif !v2 then
(some (0, 0, false))
else
((m_spec_RatOf (IntKind.i64.wrap (a0 * a3)) (IntKind.i64.wrap (a1 * a2))).bind fun (v3, v4, v5) =>
some (v3, v4, v5)))
theorem w_spec_DivRat (a0 : Int) (a1 : Int) (a2 : Int) (a3 : Int) (r : Int × Int × Bool) (h : m_spec_DivRat a0 a1 a2 a3 = some r) : AM.Spec Try.prog 84 [.agg [.int .i64 a0, .int .i64 a1], .agg [.int .i64 a2, .int .i64 a3]] [] (.tuple [.agg [.int .i64 r.1, .int .i64 r.2.1], .bool r.2.2]) [] := by
  refine spec_of (E := E84_spec_DivRat) Try.func84 rfl rfl rfl rfl ?_
  refine Tri.run 1 [] [.keep [2, 3, 4] [2, 3, 4]] (K' := [.code [(1, 0), (0, 0)] 0, .code [(1, 0)] 1, .code [] 2]) (σ' := ⟨[(2, .ptr 2 0), (3, .ptr 3 0), (4, .ptr 4 0)], [(2, .box [.int .i64 a0, .int .i64 a1]), (3, .box [.int .i64 a2, .int .i64 a3]), (4, .box [.int .i64 0, .int .i64 0])]⟩) rfl trivial rfl ?_
  obtain ⟨v1, hk1, h⟩ := bind_some h
  rcases bif_some h with ⟨hd2, h⟩ | ⟨hd2, h⟩
  · refine Tri.run 1 [.r ⟨[], .bool v1, []⟩, .g true] [.keep [2, 3, 4, 13] [2, 3, 4]] (K' := [.code [(1, 0)] 1, .code [] 2]) (σ' := ⟨[(2, .ptr 2 0), (3, .ptr 3 0), (4, .ptr 4 0), (13, .bool true)], [(2, .box [.int .i64 a0, .int .i64 a1]), (3, .box [.int .i64 a2, .int .i64 a3]), (4, .box [.int .i64 0, .int .i64 0])]⟩) rfl ⟨hd2, (w_spec_IsValidRat a0 a1 v1 hk1), trivial⟩ rfl ?_
    refine Tri.run 2 [.g true] [.keep [4, 5] [4]] (K' := [.code [(1, 0), (1, 0)] 1, .code [] 2]) (σ' := ⟨[(4, .ptr 4 0), (5, .bool false)], [(4, .box [.int .i64 0, .int .i64 0])]⟩) rfl ⟨rfl, trivial⟩ rfl ?_
    have h := Option.some.inj h
    subst h
    exact Tri.ret rfl ⟨.inl rfl, rfl, rfl⟩
  · obtain ⟨v2, hk3, h⟩ := bind_some h
    refine Tri.run 1 [.r ⟨[], .bool v1, []⟩, .g false, .r ⟨[], .bool v2, []⟩] [.keep [2, 3, 4, 13] [2, 3, 4]] (K' := [.code [(1, 0)] 1, .code [] 2]) (σ' := ⟨[(2, .ptr 2 0), (3, .ptr 3 0), (4, .ptr 4 0), (13, .bool (!v2))], [(2, .box [.int .i64 a0, .int .i64 a1]), (3, .box [.int .i64 a2, .int .i64 a3]), (4, .box [.int .i64 0, .int .i64 0])]⟩) rfl ⟨(w_spec_IsValidRat a2 a3 v2 hk3), hd2, (w_spec_IsValidRat a0 a1 v1 hk1), trivial⟩ rfl ?_
    rcases bif_some h with ⟨hd4, h⟩ | ⟨hd4, h⟩
    · refine Tri.run 2 [.g true] [.keep [4, 5] [4]] (K' := [.code [(1, 0), (1, 0)] 1, .code [] 2]) (σ' := ⟨[(4, .ptr 4 0), (5, .bool false)], [(4, .box [.int .i64 0, .int .i64 0])]⟩) rfl ⟨hd4, trivial⟩ rfl ?_
      have h := Option.some.inj h
      subst h
      exact Tri.ret rfl ⟨.inl rfl, rfl, rfl⟩
    · obtain ⟨⟨v3, v4, v5⟩, hk5, h⟩ := bind_some h
      refine Tri.run 2 [.g false, .r ⟨[], .tuple [.agg [.int .i64 v3, .int .i64 v4], .bool v5], []⟩] [.keep [4, 5] [4]] (K' := [.code [] 3]) (σ' := ⟨[(4, .ptr 4 0), (5, .bool v5)], [(4, .box [.int .i64 v3, .int .i64 v4])]⟩) rfl ⟨(w_spec_RatOf (IntKind.i64.wrap (a0 * a3)) (IntKind.i64.wrap (a1 * a2)) (v3, v4, v5) hk5), hd4, trivial⟩ rfl ?_
      have h := Option.some.inj h
      subst h
      exact Tri.ret rfl ⟨.inl rfl, rfl, rfl⟩
/-! spec.l3Int -/
noncomputable def E69_spec_l3Int : Env := ⟨Try.prog, tys, (Try.f69.body).getD .skip, 5, tysOk, mixedOk⟩
abbrev q_spec_l3Int (r : Int × Int) (σ' : ASt) : Prop := resAV E69_spec_l3Int.T σ' Try.f69.results.toList = some (.agg [.int .i64 r.1, .int .i64 r.2]) ∧ keepO σ'.ob (namesO []) = []
noncomputable def m_spec_l3Int (a0 : Int) : Option (Int × Int) :=
some (a0, (1 : Int))
theorem w_spec_l3Int (a0 : Int) (r : Int × Int) (h : m_spec_l3Int a0 = some r) : AM.Spec Try.prog 69 [.int .i64 a0] [] (.agg [.int .i64 r.1, .int .i64 r.2]) [] := by
  refine spec_of (E := E69_spec_l3Int) Try.func69 rfl rfl rfl rfl ?_
  refine Tri.run 2 [] [.keep [2] [2]] (K' := [.code [] 2]) (σ' := ⟨[(2, .ptr 2 0)], [(2, .box [.int .i64 a0, .int .i64 (1 : Int)])]⟩) rfl trivial rfl ?_
  have h := Option.some.inj h
  subst h
  exact Tri.ret rfl ⟨.inl rfl, rfl, rfl⟩
/-! spec.CompareRat -/
noncomputable def E99_spec_CompareRat : Env := ⟨Try.prog, tys, (Try.f99.body).getD .skip, 33, tysOk, mixedOk⟩
abbrev q_spec_CompareRat (r : Int) (σ' : ASt) : Prop := resAV E99_spec_CompareRat.T σ' Try.f99.results.toList = some (.int .i64 r) ∧ keepO σ'.ob (namesO []) = []
noncomputable def m_spec_CompareRat (a0 : Int) (a1 : Int) (a2 : Int) (a3 : Int) : Option Int :=
(m_spec_IsValidRat a0 a1).bind fun v1 =>
bif !v1 then
(some (0 : Int))
else
((m_spec_IsValidRat a2 a3).bind fun v2 =>
bif !v2 then
(some (0 : Int))
else
(bif decide ((IntKind.i64.wrap (a0 * a3)) < (IntKind.i64.wrap (a2 * a1))) then
(some (-1 : Int))
else
(bif decide ((IntKind.i64.wrap (a0 * a3)) > (IntKind.i64.wrap (a2 * a1))) then
(some (1 : Int))
else
(some (0 : Int)))))
theorem w_spec_CompareRat (a0 : Int) (a1 : Int) (a2 : Int) (a3 : Int) (r : Int) (h : m_spec_CompareRat a0 a1 a2 a3 = some r) : AM.Spec Try.prog 99 [.agg [.int .i64 a0, .int .i64 a1], .agg [.int .i64 a2, .int .i64 a3]] [] (.int .i64 r) [] := by
  refine spec_of (E := E99_spec_CompareRat) Try.func99 rfl rfl rfl rfl ?_
  refine Tri.run 1 [] [.keep [2, 3] [2, 3]] (K' := [.code [(1, 0), (0, 0)] 0, .code [(1, 0)] 1, .code [] 2]) (σ' := ⟨[(2, .ptr 2 0), (3, .ptr 3 0)], [(2, .box [.int .i64 a0, .int .i64 a1]), (3, .box [.int .i64 a2, .int .i64 a3])]⟩) rfl trivial rfl ?_
  obtain ⟨v1, hk1, h⟩ := bind_some h
  rcases bif_some h with ⟨hd2, h⟩ | ⟨hd2, h⟩
  · refine Tri.run 1 [.r ⟨[], .bool v1, []⟩, .g true] [.keep [2, 3, 14] [2, 3]] (K' := [.code [(1, 0)] 1, .code [] 2]) (σ' := ⟨[(2, .ptr 2 0), (3, .ptr 3 0), (14, .bool true)], [(2, .box [.int .i64 a0, .int .i64 a1]), (3, .box [.int .i64 a2, .int .i64 a3])]⟩) rfl ⟨hd2, (w_spec_IsValidRat a0 a1 v1 hk1), trivial⟩ rfl ?_
    refine Tri.run 2 [.g true] [.keep [4] []] (K' := [.code [(1, 0), (1, 0)] 1, .code [] 2]) (σ' := ⟨[(4, .int .i64 (0 : Int))], []⟩) rfl ⟨rfl, trivial⟩ rfl ?_
    have h := Option.some.inj h
    subst h
    exact Tri.ret rfl ⟨.inl rfl, rfl, rfl⟩
  · obtain ⟨v2, hk3, h⟩ := bind_some h
    refine Tri.run 1 [.r ⟨[], .bool v1, []⟩, .g false, .r ⟨[], .bool v2, []⟩] [.keep [2, 3, 14] [2, 3]] (K' := [.code [(1, 0)] 1, .code [] 2]) (σ' := ⟨[(2, .ptr 2 0), (3, .ptr 3 0), (14, .bool (!v2))], [(2, .box [.int .i64 a0, .int .i64 a1]), (3, .box [.int .i64 a2, .int .i64 a3])]⟩) rfl ⟨(w_spec_IsValidRat a2 a3 v2 hk3), hd2, (w_spec_IsValidRat a0 a1 v1 hk1), trivial⟩ rfl ?_
    rcases bif_some h with ⟨hd4, h⟩ | ⟨hd4, h⟩
    · refine Tri.run 2 [.g true] [.keep [4] []] (K' := [.code [(1, 0), (1, 0)] 1, .code [] 2]) (σ' := ⟨[(4, .int .i64 (0 : Int))], []⟩) rfl ⟨hd4, trivial⟩ rfl ?_
      have h := Option.some.inj h
      subst h
      exact Tri.ret rfl ⟨.inl rfl, rfl, rfl⟩
    · refine Tri.run 3 [.g false] [.keep [5, 6] []] (K' := [.code [(4, 0), (0, 0), (0, 0)] 0, .code [(4, 0), (0, 0)] 1, .blk 0, .code [] 5]) (σ' := ⟨[(5, .int .i64 (IntKind.i64.wrap (a0 * a3))), (6, .int .i64 (IntKind.i64.wrap (a2 * a1)))], []⟩) rfl ⟨hd4, trivial⟩ rfl ?_
      refine Tri.run 1 [] [.keep [5, 6, 25] []] (K' := [.code [(4, 0), (0, 0)] 1, .blk 0, .code [] 5]) (σ' := ⟨[(5, .int .i64 (IntKind.i64.wrap (a0 * a3))), (6, .int .i64 (IntKind.i64.wrap (a2 * a1))), (25, .bool (decide ((IntKind.i64.wrap (a0 * a3)) < (IntKind.i64.wrap (a2 * a1)))))], []⟩) rfl trivial rfl ?_
      rcases bif_some h with ⟨hd5, h⟩ | ⟨hd5, h⟩
      · refine Tri.run 2 [.g true] [.keep [4] []] (K' := [.code [(4, 0), (0, 0), (1, 0)] 1, .blk 0, .code [] 5]) (σ' := ⟨[(4, .int .i64 (-1 : Int))], []⟩) rfl ⟨hd5, trivial⟩ rfl ?_
        have h := Option.some.inj h
        subst h
        exact Tri.ret rfl ⟨.inl rfl, rfl, rfl⟩
      · refine Tri.run 2 [.g false] [.keep [29] []] (K' := [.code [(4, 0), (0, 0), (1, 1)] 1, .blk 0, .code [] 5]) (σ' := ⟨[(29, .bool (decide ((IntKind.i64.wrap (a0 * a3)) > (IntKind.i64.wrap (a2 * a1)))))], []⟩) rfl ⟨hd5, trivial⟩ rfl ?_
        rcases bif_some h with ⟨hd6, h⟩ | ⟨hd6, h⟩
        · refine Tri.run 2 [.g true] [.keep [4] []] (K' := [.code [(4, 0), (0, 0), (1, 1), (1, 0)] 1, .blk 0, .code [] 5]) (σ' := ⟨[(4, .int .i64 (1 : Int))], []⟩) rfl ⟨hd6, trivial⟩ rfl ?_
          have h := Option.some.inj h
          subst h
          exact Tri.ret rfl ⟨.inl rfl, rfl, rfl⟩
        · refine Tri.run 2 [.g false] [.keep [4] []] (K' := [.code [] 6]) (σ' := ⟨[(4, .int .i64 (0 : Int))], []⟩) rfl ⟨hd6, trivial⟩ rfl ?_
          have h := Option.some.inj h
          subst h
          exact Tri.ret rfl ⟨.inl rfl, rfl, rfl⟩
/-! spec.l3Sign -/
noncomputable def E98_spec_l3Sign : Env := ⟨Try.prog, tys, (Try.f98.body).getD .skip, 6, tysOk, mixedOk⟩
abbrev q_spec_l3Sign (r : Int) (σ' : ASt) : Prop := resAV E98_spec_l3Sign.T σ' Try.f98.results.toList = some (.int .i64 r) ∧ keepO σ'.ob (namesO []) = []
noncomputable def m_spec_l3Sign (a0 : Int) (a1 : Int) : Option Int :=
(m_spec_l3Int (0 : Int)).bind fun (v1, v2) =>
(m_spec_CompareRat a0 a1 v1 v2).bind fun v3 =>
some v3
theorem w_spec_l3Sign (a0 : Int) (a1 : Int) (r : Int) (h : m_spec_l3Sign a0 a1 = some r) : AM.Spec Try.prog 98 [.agg [.int .i64 a0, .int .i64 a1]] [] (.int .i64 r) [] := by
  refine spec_of (E := E98_spec_l3Sign) Try.func98 rfl rfl rfl rfl ?_
  refine Tri.run 1 [] [.keep [1] [1]] (K' := [.code [(1, 0)] 0, .code [] 2]) (σ' := ⟨[(1, .ptr 1 0)], [(1, .box [.int .i64 a0, .int .i64 a1])]⟩) rfl trivial rfl ?_
  obtain ⟨⟨v1, v2⟩, hk1, h⟩ := bind_some h
  obtain ⟨v3, hk2, h⟩ := bind_some h
  refine Tri.run 1 [.r ⟨[], .agg [.int .i64 v1, .int .i64 v2], []⟩, .r ⟨[], .int .i64 v3, []⟩] [.keep [2] []] (K' := [.code [] 2]) (σ' := ⟨[(2, .int .i64 v3)], []⟩) rfl ⟨(w_spec_CompareRat a0 a1 v1 v2 v3 hk2), (w_spec_l3Int (0 : Int) (v1, v2) hk1), trivial⟩ rfl ?_
  have h := Option.some.inj h
  subst h
  exact Tri.ret rfl ⟨.inl rfl, rfl, rfl⟩
/-! spec.LeavingRow -/
noncomputable def E34_spec_LeavingRow : Env := ⟨Try.prog, tys, (Try.f34.body).getD .skip, 97, tysOk, mixedOk⟩
abbrev q_spec_LeavingRow (r : Int) (σ' : ASt) : Prop := resAV E34_spec_LeavingRow.T σ' Try.f34.results.toList = some (.int .i64 r) ∧ keepO σ'.ob (namesO []) = []
noncomputable def l_spec_LeavingRow_0 (a0 : List (List Q)) (a1 : List Int) (a2 : Int) (a3 : Int) : (Int × Int × Int × Int) → Option ((Int × Int × Int × Int) ⊕ Int)
  | (v3, v4, v5, v6) => (
bif decide (v4 < (a0.length : Int)) then
(grd ((0 : Int) ≤ v4 ∧ v4 < (a0.length : Int)) <|
grd ((0 : Int) ≤ a3 ∧ a3 < ((a0.getD v4.toNat []).length : Int)) <|
grd ((0 : Int) ≤ v4 ∧ v4 < (a0.length : Int)) <|
grd ((0 : Int) ≤ IntKind.i64.wrap (a2 + (a0.length : Int)) ∧ IntKind.i64.wrap (a2 + (a0.length : Int)) < ((a0.getD v4.toNat []).length : Int)) <|
(m_spec_DivRat (((a0.getD v4.toNat []).getD ((IntKind.i64.wrap (a2 + (a0.length : Int))).toNat) ⟨0, 0⟩).num) (((a0.getD v4.toNat []).getD ((IntKind.i64.wrap (a2 + (a0.length : Int))).toNat) ⟨0, 0⟩).den) (((a0.getD v4.toNat []).getD a3.toNat ⟨0, 0⟩).num) (((a0.getD v4.toNat []).getD a3.toNat ⟨0, 0⟩).den)).bind fun (v7, v8, v9) =>
(m_spec_l3Sign (((a0.getD v4.toNat []).getD a3.toNat ⟨0, 0⟩).num) (((a0.getD v4.toNat []).getD a3.toNat ⟨0, 0⟩).den)).bind fun v10 =>
bif decide (v10 ≤ (0 : Int)) then
(some (.inl (v3, IntKind.i64.wrap (v4 + (1 : Int)), v5, v6)))
else
(bif !v9 then
(some (.inl (v3, IntKind.i64.wrap (v4 + (1 : Int)), v5, v6)))
else
((m_spec_CompareRat v7 v8 v5 v6).bind fun v11 =>
bif decide (v3 < (0 : Int)) then
(some (.inl (v4, IntKind.i64.wrap (v4 + (1 : Int)), v7, v8)))
else
(bif decide (v11 < (0 : Int)) then
(some (.inl (v4, IntKind.i64.wrap (v4 + (1 : Int)), v7, v8)))
else
(bif v11 == (0 : Int) then
(grd ((0 : Int) ≤ v4 ∧ v4 < (a1.length : Int)) <|
grd ((0 : Int) ≤ v3 ∧ v3 < (a1.length : Int)) <|
bif decide ((a1.getD v4.toNat 0) < (a1.getD v3.toNat 0)) then
(some (.inl (v4, IntKind.i64.wrap (v4 + (1 : Int)), v7, v8)))
else
(some (.inl (v3, IntKind.i64.wrap (v4 + (1 : Int)), v5, v6))))
else
(some (.inl (v3, IntKind.i64.wrap (v4 + (1 : Int)), v5, v6))))))))
else
(some (.inr v3)))
noncomputable def m_spec_LeavingRow (a0 : List (List Q)) (a1 : List Int) (a2 : Int) (a3 : Int) : Option Int :=
(m_spec_l6Good a0 a1 a2).bind fun v1 =>
bif !v1 then
(some (-1 : Int))
else
((m_spec_l1In a3 (0 : Int) (IntKind.i64.wrap ((IntKind.i64.wrap (a2 + (a0.length : Int))) - (1 : Int)))).bind fun v2 =>
bif !v2 then
(some (-1 : Int))
else
((iter (l_spec_LeavingRow_0 a0 a1 a2 a3) ((-1 : Int), (0 : Int), 0, 0)).bind fun
| v12 => (
some v12)))
theorem w_spec_LeavingRow (a0 : List (List Q)) (a1 : List Int) (a2 : Int) (a3 : Int) (r : Int) (h : m_spec_LeavingRow a0 a1 a2 a3 = some r) : AM.Spec Try.prog 34 [.agg [.list (.ratss a0), .list (.ints a1), .int .i64 a2], .int .i64 a3] [] (.int .i64 r) [] := by
  refine spec_of (E := E34_spec_LeavingRow) Try.func34 rfl rfl rfl rfl ?_
  refine Tri.run 1 [] [.keep [1, 2] [2]] (K' := [.code [(1, 0), (0, 0)] 0, .code [(1, 0)] 1, .code [] 2]) (σ' := ⟨[(1, .int .i64 a3), (2, .ptr 2 0)], [(2, .box [.list (.ratss a0), .list (.ints a1), .int .i64 a2])]⟩) rfl trivial rfl ?_
  obtain ⟨v1, hk1, h⟩ := bind_some h
  rcases bif_some h with ⟨hd2, h⟩ | ⟨hd2, h⟩
  · refine Tri.run 1 [.r ⟨[], .bool v1, []⟩, .g true] [.keep [1, 2, 26] [2]] (K' := [.code [(1, 0)] 1, .code [] 2]) (σ' := ⟨[(1, .int .i64 a3), (2, .ptr 2 0), (26, .bool true)], [(2, .box [.list (.ratss a0), .list (.ints a1), .int .i64 a2])]⟩) rfl ⟨hd2, (w_spec_l6Good a0 a1 a2 v1 hk1), trivial⟩ rfl ?_
    refine Tri.run 2 [.g true] [.keep [4] []] (K' := [.code [(1, 0), (1, 0)] 1, .code [] 2]) (σ' := ⟨[(4, .int .i64 (-1 : Int))], []⟩) rfl ⟨rfl, trivial⟩ rfl ?_
    have h := Option.some.inj h
    subst h
    exact Tri.ret rfl ⟨.inl rfl, rfl, rfl⟩
  · obtain ⟨v2, hk3, h⟩ := bind_some h
    refine Tri.run 1 [.r ⟨[], .bool v1, []⟩, .g false, .r ⟨[], .bool v2, []⟩] [.keep [1, 2, 26] [2]] (K' := [.code [(1, 0)] 1, .code [] 2]) (σ' := ⟨[(1, .int .i64 a3), (2, .ptr 2 0), (26, .bool (!v2))], [(2, .box [.list (.ratss a0), .list (.ints a1), .int .i64 a2])]⟩) rfl ⟨(w_spec_l1In a3 (0 : Int) (IntKind.i64.wrap ((IntKind.i64.wrap (a2 + (a0.length : Int))) - (1 : Int))) v2 hk3), hd2, (w_spec_l6Good a0 a1 a2 v1 hk1), trivial⟩ rfl ?_
    rcases bif_some h with ⟨hd4, h⟩ | ⟨hd4, h⟩
    · refine Tri.run 2 [.g true] [.keep [4] []] (K' := [.code [(1, 0), (1, 0)] 1, .code [] 2]) (σ' := ⟨[(4, .int .i64 (-1 : Int))], []⟩) rfl ⟨hd4, trivial⟩ rfl ?_
      have h := Option.some.inj h
      subst h
      exact Tri.ret rfl ⟨.inl rfl, rfl, rfl⟩
    · refine Tri.run 3 [.g false] [.keep [1, 2, 5, 6] [2, 6]] (K' := [.code [(4, 0), (0, 0)] 0, .code [(4, 0)] 1, .code [] 5]) (σ' := ⟨[(1, .int .i64 a3), (2, .ptr 2 0), (5, .int .i64 (-1 : Int)), (6, .ptr 6 0)], [(2, .box [.list (.ratss a0), .list (.ints a1), .int .i64 a2]), (6, .box [.int .i64 0, .int .i64 0])]⟩) rfl ⟨hd4, trivial⟩ rfl ?_
      refine Tri.run 1 [] [.keep [1, 2, 5, 6, 7] [2, 6]] (K' := [.code [(4, 0), (1, 0)] 0, .blk 0, .code [] 5]) (σ' := ⟨[(1, .int .i64 a3), (2, .ptr 2 0), (5, .int .i64 (-1 : Int)), (6, .ptr 6 0), (7, .int .i64 (0 : Int))], [(2, .box [.list (.ratss a0), .list (.ints a1), .int .i64 a2]), (6, .box [.int .i64 0, .int .i64 0])]⟩) rfl trivial rfl ?_
      obtain ⟨v12, hk21, h⟩ := bind_some h
      refine Tri.loop (K1 := [.code [(4, 0), (1, 0), (0, 0)] 0]) (K2 := [.blk 0, .code [] 5]) (fun (v3, v4, v5, v6) => ⟨[(1, .int .i64 a3), (2, .ptr 2 0), (5, .int .i64 v3), (6, .ptr 6 0), (7, .int .i64 v4)], [(2, .box [.list (.ratss a0), .list (.ints a1), .int .i64 a2]), (6, .box [.int .i64 v5, .int .i64 v6])]⟩) (fun x e σ' => match x with | v12 => e = .exit 0 ∧ σ' = ⟨[(5, .int .i64 v12)], []⟩) hk21 rfl rfl ?_ ?_
      · intro s x hs
        clear h
        have h := hs
        clear hs
        obtain ⟨v3, v4, v5, v6⟩ := s
        refine Tri.run 1 [] [.keep [1, 2, 5, 6, 7, 32] [2, 6]] (K' := [.code [(4, 0), (1, 0), (0, 0), (0, 0)] 1, .code [(4, 0), (1, 0), (0, 0)] 1]) (σ' := ⟨[(1, .int .i64 a3), (2, .ptr 2 0), (5, .int .i64 v3), (6, .ptr 6 0), (7, .int .i64 v4), (32, .bool (decide (v4 < (a0.length : Int))))], [(2, .box [.list (.ratss a0), .list (.ints a1), .int .i64 a2]), (6, .box [.int .i64 v5, .int .i64 v6])]⟩) rfl trivial rfl ?_
        rcases bif_some h with ⟨hd5, h⟩ | ⟨hd5, h⟩
        · obtain ⟨hg6, h⟩ := grd_some h
          obtain ⟨hg7, h⟩ := grd_some h
          refine Tri.run 2 [.g true] [.keep [1, 2, 5, 6, 7, 8] [2, 6, 8]] (K' := [.code [(4, 0), (1, 0), (0, 0), (1, 0), (0, 0), (1, 0)] 0, .code [(4, 0), (1, 0), (0, 0), (1, 0), (0, 0)] 2, .blk 1, .code [(4, 0), (1, 0), (0, 0)] 2]) (σ' := ⟨[(1, .int .i64 a3), (2, .ptr 2 0), (5, .int .i64 v3), (6, .ptr 6 0), (7, .int .i64 v4), (8, .ptr 8 0)], [(2, .box [.list (.ratss a0), .list (.ints a1), .int .i64 a2]), (6, .box [.int .i64 v5, .int .i64 v6]), (8, .box [.int .i64 (((a0.getD v4.toNat []).getD a3.toNat ⟨0, 0⟩).num), .int .i64 (((a0.getD v4.toNat []).getD a3.toNat ⟨0, 0⟩).den)])]⟩) rfl ⟨hg7, hg6, hd5, trivial⟩ rfl ?_
          obtain ⟨hg8, h⟩ := grd_some h
          obtain ⟨hg9, h⟩ := grd_some h
          obtain ⟨⟨v7, v8, v9⟩, hk10, h⟩ := bind_some h
          obtain ⟨v10, hk11, h⟩ := bind_some h
          rcases bif_some h with ⟨hd12, h⟩ | ⟨hd12, h⟩
          · refine Tri.run 2 [.r ⟨[], .tuple [.agg [.int .i64 v7, .int .i64 v8], .bool v9], []⟩, .r ⟨[], .int .i64 v10, []⟩, .g true] [.keep [1, 2, 5, 6, 7, 9, 67] [2, 6, 9]] (K' := [.code [(4, 0), (1, 0), (0, 0), (1, 0), (0, 0), (2, 0)] 1, .code [(4, 0), (1, 0), (0, 0), (1, 0), (0, 0)] 3, .blk 1, .code [(4, 0), (1, 0), (0, 0)] 2]) (σ' := ⟨[(1, .int .i64 a3), (2, .ptr 2 0), (5, .int .i64 v3), (6, .ptr 6 0), (7, .int .i64 v4), (9, .ptr 9 0), (67, .bool true)], [(2, .box [.list (.ratss a0), .list (.ints a1), .int .i64 a2]), (6, .box [.int .i64 v5, .int .i64 v6]), (9, .box [.int .i64 v7, .int .i64 v8])]⟩) rfl ⟨hd12, (w_spec_l3Sign (((a0.getD v4.toNat []).getD a3.toNat ⟨0, 0⟩).num) (((a0.getD v4.toNat []).getD a3.toNat ⟨0, 0⟩).den) v10 hk11), (w_spec_DivRat (((a0.getD v4.toNat []).getD ((IntKind.i64.wrap (a2 + (a0.length : Int))).toNat) ⟨0, 0⟩).num) (((a0.getD v4.toNat []).getD ((IntKind.i64.wrap (a2 + (a0.length : Int))).toNat) ⟨0, 0⟩).den) (((a0.getD v4.toNat []).getD a3.toNat ⟨0, 0⟩).num) (((a0.getD v4.toNat []).getD a3.toNat ⟨0, 0⟩).den) (v7, v8, v9) hk10), hg9, hg8, trivial⟩ rfl ?_
            refine Tri.run 2 [.g true] [.keep [1, 2, 5, 6, 7] [2, 6]] (K' := []) (σ' := ⟨[(1, .int .i64 a3), (2, .ptr 2 0), (5, .int .i64 v3), (6, .ptr 6 0), (7, .int .i64 (IntKind.i64.wrap (v4 + (1 : Int))))], [(2, .box [.list (.ratss a0), .list (.ints a1), .int .i64 a2]), (6, .box [.int .i64 v5, .int .i64 v6])]⟩) rfl ⟨rfl, trivial⟩ rfl ?_
            have h := Option.some.inj h
            subst h
            exact Tri.nil ⟨rfl, rfl⟩
          · refine Tri.run 2 [.r ⟨[], .tuple [.agg [.int .i64 v7, .int .i64 v8], .bool v9], []⟩, .r ⟨[], .int .i64 v10, []⟩, .g false] [.keep [1, 2, 5, 6, 7, 9, 67] [2, 6, 9]] (K' := [.code [(4, 0), (1, 0), (0, 0), (1, 0), (0, 0), (2, 0)] 1, .code [(4, 0), (1, 0), (0, 0), (1, 0), (0, 0)] 3, .blk 1, .code [(4, 0), (1, 0), (0, 0)] 2]) (σ' := ⟨[(1, .int .i64 a3), (2, .ptr 2 0), (5, .int .i64 v3), (6, .ptr 6 0), (7, .int .i64 v4), (9, .ptr 9 0), (67, .bool (!v9))], [(2, .box [.list (.ratss a0), .list (.ints a1), .int .i64 a2]), (6, .box [.int .i64 v5, .int .i64 v6]), (9, .box [.int .i64 v7, .int .i64 v8])]⟩) rfl ⟨hd12, (w_spec_l3Sign (((a0.getD v4.toNat []).getD a3.toNat ⟨0, 0⟩).num) (((a0.getD v4.toNat []).getD a3.toNat ⟨0, 0⟩).den) v10 hk11), (w_spec_DivRat (((a0.getD v4.toNat []).getD ((IntKind.i64.wrap (a2 + (a0.length : Int))).toNat) ⟨0, 0⟩).num) (((a0.getD v4.toNat []).getD ((IntKind.i64.wrap (a2 + (a0.length : Int))).toNat) ⟨0, 0⟩).den) (((a0.getD v4.toNat []).getD a3.toNat ⟨0, 0⟩).num) (((a0.getD v4.toNat []).getD a3.toNat ⟨0, 0⟩).den) (v7, v8, v9) hk10), hg9, hg8, trivial⟩ rfl ?_
            rcases bif_some h with ⟨hd13, h⟩ | ⟨hd13, h⟩
            · refine Tri.run 2 [.g true] [.keep [1, 2, 5, 6, 7] [2, 6]] (K' := []) (σ' := ⟨[(1, .int .i64 a3), (2, .ptr 2 0), (5, .int .i64 v3), (6, .ptr 6 0), (7, .int .i64 (IntKind.i64.wrap (v4 + (1 : Int))))], [(2, .box [.list (.ratss a0), .list (.ints a1), .int .i64 a2]), (6, .box [.int .i64 v5, .int .i64 v6])]⟩) rfl ⟨hd13, trivial⟩ rfl ?_
              have h := Option.some.inj h
              subst h
              exact Tri.nil ⟨rfl, rfl⟩
            · obtain ⟨v11, hk14, h⟩ := bind_some h
              refine Tri.run 2 [.g false, .r ⟨[], .int .i64 v11, []⟩] [.keep [1, 2, 5, 6, 7, 9, 11] [2, 6, 9]] (K' := [.code [(4, 0), (1, 0), (0, 0), (1, 0), (0, 0), (4, 0)] 0, .code [(4, 0), (1, 0), (0, 0), (1, 0), (0, 0)] 5, .blk 1, .code [(4, 0), (1, 0), (0, 0)] 2]) (σ' := ⟨[(1, .int .i64 a3), (2, .ptr 2 0), (5, .int .i64 v3), (6, .ptr 6 0), (7, .int .i64 v4), (9, .ptr 9 0), (11, .int .i64 v11)], [(2, .box [.list (.ratss a0), .list (.ints a1), .int .i64 a2]), (6, .box [.int .i64 v5, .int .i64 v6]), (9, .box [.int .i64 v7, .int .i64 v8])]⟩) rfl ⟨(w_spec_CompareRat v7 v8 v5 v6 v11 hk14), hd13, trivial⟩ rfl ?_
              rcases bif_some h with ⟨hd15, h⟩ | ⟨hd15, h⟩
              · refine Tri.run 1 [.g true, .g true] [.keep [1, 2, 5, 6, 7, 9, 93] [2, 6, 9]] (K' := [.code [(4, 0), (1, 0), (0, 0), (1, 0), (0, 0)] 5, .blk 1, .code [(4, 0), (1, 0), (0, 0)] 2]) (σ' := ⟨[(1, .int .i64 a3), (2, .ptr 2 0), (5, .int .i64 v3), (6, .ptr 6 0), (7, .int .i64 v4), (9, .ptr 9 0), (93, .bool true)], [(2, .box [.list (.ratss a0), .list (.ints a1), .int .i64 a2]), (6, .box [.int .i64 v5, .int .i64 v6]), (9, .box [.int .i64 v7, .int .i64 v8])]⟩) rfl ⟨rfl, hd15, trivial⟩ rfl ?_
                refine Tri.run 3 [.g true] [.keep [1, 2, 5, 6, 7] [2, 6]] (K' := [.code [(4, 0), (1, 0), (0, 0)] 2]) (σ' := ⟨[(1, .int .i64 a3), (2, .ptr 2 0), (5, .int .i64 v4), (6, .ptr 6 0), (7, .int .i64 v4)], [(2, .box [.list (.ratss a0), .list (.ints a1), .int .i64 a2]), (6, .box [.int .i64 v7, .int .i64 v8])]⟩) rfl ⟨rfl, trivial⟩ rfl ?_
                refine Tri.run 1 [] [.keep [1, 2, 5, 6, 7] [2, 6]] (K' := []) (σ' := ⟨[(1, .int .i64 a3), (2, .ptr 2 0), (5, .int .i64 v4), (6, .ptr 6 0), (7, .int .i64 (IntKind.i64.wrap (v4 + (1 : Int))))], [(2, .box [.list (.ratss a0), .list (.ints a1), .int .i64 a2]), (6, .box [.int .i64 v7, .int .i64 v8])]⟩) rfl trivial rfl ?_
                have h := Option.some.inj h
                subst h
                exact Tri.nil ⟨rfl, rfl⟩
              · rcases bif_some h with ⟨hd16, h⟩ | ⟨hd16, h⟩
                · refine Tri.run 1 [.g false, .g true] [.keep [1, 2, 5, 6, 7, 9, 93] [2, 6, 9]] (K' := [.code [(4, 0), (1, 0), (0, 0), (1, 0), (0, 0)] 5, .blk 1, .code [(4, 0), (1, 0), (0, 0)] 2]) (σ' := ⟨[(1, .int .i64 a3), (2, .ptr 2 0), (5, .int .i64 v3), (6, .ptr 6 0), (7, .int .i64 v4), (9, .ptr 9 0), (93, .bool true)], [(2, .box [.list (.ratss a0), .list (.ints a1), .int .i64 a2]), (6, .box [.int .i64 v5, .int .i64 v6]), (9, .box [.int .i64 v7, .int .i64 v8])]⟩) rfl ⟨hd16, hd15, trivial⟩ rfl ?_
                  refine Tri.run 3 [.g true] [.keep [1, 2, 5, 6, 7] [2, 6]] (K' := [.code [(4, 0), (1, 0), (0, 0)] 2]) (σ' := ⟨[(1, .int .i64 a3), (2, .ptr 2 0), (5, .int .i64 v4), (6, .ptr 6 0), (7, .int .i64 v4)], [(2, .box [.list (.ratss a0), .list (.ints a1), .int .i64 a2]), (6, .box [.int .i64 v7, .int .i64 v8])]⟩) rfl ⟨rfl, trivial⟩ rfl ?_
                  refine Tri.run 1 [] [.keep [1, 2, 5, 6, 7] [2, 6]] (K' := []) (σ' := ⟨[(1, .int .i64 a3), (2, .ptr 2 0), (5, .int .i64 v4), (6, .ptr 6 0), (7, .int .i64 (IntKind.i64.wrap (v4 + (1 : Int))))], [(2, .box [.list (.ratss a0), .list (.ints a1), .int .i64 a2]), (6, .box [.int .i64 v7, .int .i64 v8])]⟩) rfl trivial rfl ?_
                  have h := Option.some.inj h
                  subst h
                  exact Tri.nil ⟨rfl, rfl⟩
                · rcases bif_some h with ⟨hd17, h⟩ | ⟨hd17, h⟩
                  · obtain ⟨hg18, h⟩ := grd_some h
                    obtain ⟨hg19, h⟩ := grd_some h
                    refine Tri.run 1 [.g false, .g false, .g true] [.keep [1, 2, 5, 6, 7, 9, 93] [2, 6, 9]] (K' := [.code [(4, 0), (1, 0), (0, 0), (1, 0), (0, 0)] 5, .blk 1, .code [(4, 0), (1, 0), (0, 0)] 2]) (σ' := ⟨[(1, .int .i64 a3), (2, .ptr 2 0), (5, .int .i64 v3), (6, .ptr 6 0), (7, .int .i64 v4), (9, .ptr 9 0), (93, .bool (decide ((a1.getD v4.toNat 0) < (a1.getD v3.toNat 0))))], [(2, .box [.list (.ratss a0), .list (.ints a1), .int .i64 a2]), (6, .box [.int .i64 v5, .int .i64 v6]), (9, .box [.int .i64 v7, .int .i64 v8])]⟩) rfl ⟨hg19, hg18, hd17, hd16, hd15, trivial⟩ rfl ?_
                    rcases bif_some h with ⟨hd20, h⟩ | ⟨hd20, h⟩
                    · refine Tri.run 3 [.g true] [.keep [1, 2, 5, 6, 7] [2, 6]] (K' := [.code [(4, 0), (1, 0), (0, 0)] 2]) (σ' := ⟨[(1, .int .i64 a3), (2, .ptr 2 0), (5, .int .i64 v4), (6, .ptr 6 0), (7, .int .i64 v4)], [(2, .box [.list (.ratss a0), .list (.ints a1), .int .i64 a2]), (6, .box [.int .i64 v7, .int .i64 v8])]⟩) rfl ⟨hd20, trivial⟩ rfl ?_
                      refine Tri.run 1 [] [.keep [1, 2, 5, 6, 7] [2, 6]] (K' := []) (σ' := ⟨[(1, .int .i64 a3), (2, .ptr 2 0), (5, .int .i64 v4), (6, .ptr 6 0), (7, .int .i64 (IntKind.i64.wrap (v4 + (1 : Int))))], [(2, .box [.list (.ratss a0), .list (.ints a1), .int .i64 a2]), (6, .box [.int .i64 v7, .int .i64 v8])]⟩) rfl trivial rfl ?_
                      have h := Option.some.inj h
                      subst h
                      exact Tri.nil ⟨rfl, rfl⟩
                    · refine Tri.run 2 [.g false] [.keep [1, 2, 5, 6, 7] [2, 6]] (K' := []) (σ' := ⟨[(1, .int .i64 a3), (2, .ptr 2 0), (5, .int .i64 v3), (6, .ptr 6 0), (7, .int .i64 (IntKind.i64.wrap (v4 + (1 : Int))))], [(2, .box [.list (.ratss a0), .list (.ints a1), .int .i64 a2]), (6, .box [.int .i64 v5, .int .i64 v6])]⟩) rfl ⟨hd20, trivial⟩ rfl ?_
                      have h := Option.some.inj h
                      subst h
                      exact Tri.nil ⟨rfl, rfl⟩
                  · refine Tri.run 1 [.g false, .g false, .g false] [.keep [1, 2, 5, 6, 7, 9, 93] [2, 6, 9]] (K' := [.code [(4, 0), (1, 0), (0, 0), (1, 0), (0, 0)] 5, .blk 1, .code [(4, 0), (1, 0), (0, 0)] 2]) (σ' := ⟨[(1, .int .i64 a3), (2, .ptr 2 0), (5, .int .i64 v3), (6, .ptr 6 0), (7, .int .i64 v4), (9, .ptr 9 0), (93, .bool false)], [(2, .box [.list (.ratss a0), .list (.ints a1), .int .i64 a2]), (6, .box [.int .i64 v5, .int .i64 v6]), (9, .box [.int .i64 v7, .int .i64 v8])]⟩) rfl ⟨hd17, hd16, hd15, trivial⟩ rfl ?_
                    refine Tri.run 2 [.g false] [.keep [1, 2, 5, 6, 7] [2, 6]] (K' := []) (σ' := ⟨[(1, .int .i64 a3), (2, .ptr 2 0), (5, .int .i64 v3), (6, .ptr 6 0), (7, .int .i64 (IntKind.i64.wrap (v4 + (1 : Int))))], [(2, .box [.list (.ratss a0), .list (.ints a1), .int .i64 a2]), (6, .box [.int .i64 v5, .int .i64 v6])]⟩) rfl ⟨rfl, trivial⟩ rfl ?_
                    have h := Option.some.inj h
                    subst h
                    exact Tri.nil ⟨rfl, rfl⟩
        · refine Tri.run 1 [.g false] [.keep [5] []] (K' := [.code [(4, 0), (1, 0), (0, 0), (0, 0), (1, 1)] 0, .code [(4, 0), (1, 0), (0, 0)] 1]) (σ' := ⟨[(5, .int .i64 v3)], []⟩) rfl ⟨hd5, trivial⟩ rfl ?_
          have h := Option.some.inj h
          subst h
          exact Tri.out 0 rfl ⟨nofun, rfl, rfl⟩
      · intro e σ' hne hq
        obtain ⟨rfl, rfl⟩ := hq
        refine TriX.exit (K' := [.code [] 5]) rfl ?_
        refine Tri.run 1 [] [.keep [4] []] (K' := [.code [] 6]) (σ' := ⟨[(4, .int .i64 v12)], []⟩) rfl trivial rfl ?_
        have h := Option.some.inj h
        subst h
        exact Tri.ret rfl ⟨.inl rfl, rfl, rfl⟩
/-! impl.within -/
noncomputable def E73_impl_within : Env := ⟨Try.prog, tys, (Try.f73.body).getD .skip, 15, tysOk, mixedOk⟩
abbrev q_impl_within (r : Bool) (σ' : ASt) : Prop := resAV E73_impl_within.T σ' Try.f73.results.toList = some (.bool r) ∧ keepO σ'.ob (namesO []) = []
noncomputable def m_impl_within (a0 : Int) (a1 : Int) (a2 : Int) : Option Bool :=
bif decide (a0 ≥ a1) then
(some (decide (a0 ≤ a2)))
else
(some false)
theorem w_impl_within (a0 : Int) (a1 : Int) (a2 : Int) (r : Bool) (h : m_impl_within a0 a1 a2 = some r) : AM.Spec Try.prog 73 [.int .i64 a0, .int .i64 a1, .int .i64 a2] [] (.bool r) [] := by
  refine spec_of (E := E73_impl_within) Try.func73 rfl rfl rfl rfl ?_
  refine Tri.run 1 [] [.keep [0, 1, 2] []] (K' := [.code [(1, 0)] 0, .code [] 2]) (σ' := ⟨[(0, .int .i64 a0), (1, .int .i64 a1), (2, .int .i64 a2)], []⟩) rfl trivial rfl ?_
  rcases bif_some h with ⟨hd1, h⟩ | ⟨hd1, h⟩
  · refine Tri.run 1 [.g true] [.keep [6] []] (K' := [.code [] 2]) (σ' := ⟨[(6, .bool (decide (a0 ≤ a2)))], []⟩) rfl ⟨hd1, trivial⟩ rfl ?_
    have h := Option.some.inj h
    subst h
    exact Tri.ret rfl ⟨.inl rfl, rfl, rfl⟩
  · refine Tri.run 1 [.g false] [.keep [6] []] (K' := [.code [] 2]) (σ' := ⟨[(6, .bool false)], []⟩) rfl ⟨hd1, trivial⟩ rfl ?_
    have h := Option.some.inj h
    subst h
    exact Tri.ret rfl ⟨.inl rfl, rfl, rfl⟩
/-! impl.formed$1 -/
noncomputable def E142_impl_formed_1 : Env := ⟨Try.prog, tys, (Try.f142.body).getD .skip, 13, tysOk, mixedOk⟩
abbrev q_impl_formed_1 (r : Bool) (σ' : ASt) : Prop := resAV E142_impl_formed_1.T σ' Try.f142.results.toList = some (.bool r) ∧ keepO σ'.ob (namesO []) = []
noncomputable def m_impl_formed_1 (a0 : Int) (_a1 : List (List Q)) (_a2 : List Int) (a3 : Int) (a4 : Int) : Option Bool :=
(m_impl_within a0 (0 : Int) (IntKind.i64.wrap ((IntKind.i64.wrap (a3 + a4)) - (1 : Int)))).bind fun v1 =>
some (!v1)
theorem w_impl_formed_1 (a0 : Int) (a1 : List (List Q)) (a2 : List Int) (a3 : Int) (a4 : Int) (r : Bool) (h : m_impl_formed_1 a0 a1 a2 a3 a4 = some r) : AM.Spec Try.prog 142 [.int .i64 a0, .pbox [.list (.ratss a1), .list (.ints a2), .int .i64 a3] 0, .pbox [.int .i64 a4] 0] [] (.bool r) [] := by
  refine spec_of (E := E142_impl_formed_1) Try.func142 rfl rfl rfl rfl ?_
  refine Tri.run 1 [] [.keep [0, 1, 2] []] (K' := [.code [(1, 0)] 0, .code [] 2]) (σ' := ⟨[(0, .int .i64 a0), (1, .pbox [.list (.ratss a1), .list (.ints a2), .int .i64 a3] 0), (2, .pbox [.int .i64 a4] 0)], []⟩) rfl trivial rfl ?_
  obtain ⟨v1, hk1, h⟩ := bind_some h
  refine Tri.run 1 [.r ⟨[], .bool v1, []⟩] [.keep [4] []] (K' := [.code [] 2]) (σ' := ⟨[(4, .bool (!v1))], []⟩) rfl ⟨(w_impl_within a0 (0 : Int) (IntKind.i64.wrap ((IntKind.i64.wrap (a3 + a4)) - (1 : Int))) v1 hk1), trivial⟩ rfl ?_
  have h := Option.some.inj h
  subst h
  exact Tri.ret rfl ⟨.inl rfl, rfl, rfl⟩
/-! slices.IndexFunc(()int,int) -/
noncomputable def E159_slices_IndexFunc_int_int : Env := ⟨Try.prog, tys, (Try.f159.body).getD .skip, 19, tysOk, mixedOk⟩
abbrev q_slices_IndexFunc_int_int_impl_formed_1 (r : Int) (σ' : ASt) : Prop := resAV E159_slices_IndexFunc_int_int.T σ' Try.f159.results.toList = some (.int .i64 r) ∧ keepO σ'.ob (namesO []) = []
noncomputable def l_slices_IndexFunc_int_int_impl_formed_1_0 (a0 : List Int) (a1 : List (List Q)) (a2 : List Int) (a3 : Int) (a4 : Int) (v1 : Int) : Option (Int ⊕ (Unit ⊕ Int)) :=
bif decide (v1 < (a0.length : Int)) then
(grd ((0 : Int) ≤ v1 ∧ v1 < (a0.length : Int)) <|
(m_impl_formed_1 (a0.getD v1.toNat 0) a1 a2 a3 a4).bind fun v2 =>
bif v2 then
(some (.inr (.inr v1)))
else
(some (.inl (IntKind.i64.wrap (v1 + (1 : Int))))))
else
(some (.inr (.inl ())))
noncomputable def m_slices_IndexFunc_int_int_impl_formed_1 (a0 : List Int) (a1 : List (List Q)) (a2 : List Int) (a3 : Int) (a4 : Int) : Option Int :=
(iter (l_slices_IndexFunc_int_int_impl_formed_1_0 a0 a1 a2 a3 a4) (0 : Int)).bind fun
| (.inl _) => (
some (-1 : Int))
| (.inr r) => some r
theorem w_slices_IndexFunc_int_int_impl_formed_1 (a0 : List Int) (a1 : List (List Q)) (a2 : List Int) (a3 : Int) (a4 : Int) (r : Int) (h : m_slices_IndexFunc_int_int_impl_formed_1 a0 a1 a2 a3 a4 = some r) : AM.Spec Try.prog 159 [.list (.ints a0), .func 142 [] [.pbox [.list (.ratss a1), .list (.ints a2), .int .i64 a3] 0, .pbox [.int .i64 a4] 0]] [] (.int .i64 r) [] := by
  refine spec_of (E := E159_slices_IndexFunc_int_int) Try.func159 rfl rfl rfl rfl ?_
  refine Tri.run 2 [] [.keep [0, 1, 7, 8] []] (K' := [.code [(1, 0), (1, 0)] 0, .blk 0, .code [] 2]) (σ' := ⟨[(0, .list (.ints a0)), (1, .func 142 [] [.pbox [.list (.ratss a1), .list (.ints a2), .int .i64 a3] 0, .pbox [.int .i64 a4] 0]), (7, .int .i64 (a0.length : Int)), (8, .int .i64 (0 : Int))], []⟩) rfl trivial rfl ?_
  obtain ⟨x1, hk5, h⟩ := bind_some h
  refine Tri.loop (K1 := [.code [(1, 0), (1, 0), (0, 0)] 0]) (K2 := [.blk 0, .code [] 2]) (fun v1 => ⟨[(0, .list (.ints a0)), (1, .func 142 [] [.pbox [.list (.ratss a1), .list (.ints a2), .int .i64 a3] 0, .pbox [.int .i64 a4] 0]), (7, .int .i64 (a0.length : Int)), (8, .int .i64 v1)], []⟩) (fun x e σ' => match x with | (.inl _) => e = .exit 0 ∧ σ' = ⟨[], []⟩ | (.inr r) => e = .ret ∧ q_slices_IndexFunc_int_int_impl_formed_1 r σ') hk5 rfl rfl ?_ ?_
  · intro v1 x hs
    clear h
    have h := hs
    clear hs
    refine Tri.run 1 [] [.keep [0, 1, 7, 8, 9] []] (K' := [.code [(1, 0), (1, 0), (0, 0), (1, 0)] 0, .code [(1, 0), (1, 0), (0, 0)] 2]) (σ' := ⟨[(0, .list (.ints a0)), (1, .func 142 [] [.pbox [.list (.ratss a1), .list (.ints a2), .int .i64 a3] 0, .pbox [.int .i64 a4] 0]), (7, .int .i64 (a0.length : Int)), (8, .int .i64 v1), (9, .bool (decide (v1 < (a0.length : Int))))], []⟩) rfl trivial rfl ?_
    rcases bif_some h with ⟨hd1, h⟩ | ⟨hd1, h⟩
    · refine Tri.run 2 [.g true] [.keep [0, 1, 5, 7, 8] []] (K' := [.code [(1, 0), (1, 0), (0, 0), (2, 0), (0, 0), (1, 0)] 0, .code [(1, 0), (1, 0), (0, 0), (2, 0), (0, 0)] 2, .blk 1, .code [(1, 0), (1, 0), (0, 0)] 3]) (σ' := ⟨[(0, .list (.ints a0)), (1, .func 142 [] [.pbox [.list (.ratss a1), .list (.ints a2), .int .i64 a3] 0, .pbox [.int .i64 a4] 0]), (5, .int .i64 v1), (7, .int .i64 (a0.length : Int)), (8, .int .i64 v1)], []⟩) rfl ⟨hd1, trivial⟩ rfl ?_
      obtain ⟨hg2, h⟩ := grd_some h
      obtain ⟨v2, hk3, h⟩ := bind_some h
      refine Tri.run 1 [.r ⟨[], .bool v2, []⟩] [.keep [0, 1, 5, 7, 8, 16] []] (K' := [.code [(1, 0), (1, 0), (0, 0), (2, 0), (0, 0)] 2, .blk 1, .code [(1, 0), (1, 0), (0, 0)] 3]) (σ' := ⟨[(0, .list (.ints a0)), (1, .func 142 [] [.pbox [.list (.ratss a1), .list (.ints a2), .int .i64 a3] 0, .pbox [.int .i64 a4] 0]), (5, .int .i64 v1), (7, .int .i64 (a0.length : Int)), (8, .int .i64 v1), (16, .bool v2)], []⟩) rfl ⟨(w_impl_formed_1 (a0.getD v1.toNat 0) a1 a2 a3 a4 v2 hk3), hg2, trivial⟩ rfl ?_
      rcases bif_some h with ⟨hd4, h⟩ | ⟨hd4, h⟩
      · refine Tri.run 2 [.g true] [.keep [4] []] (K' := [.code [(1, 0), (1, 0), (0, 0), (2, 0), (0, 0), (2, 0)] 1, .blk 1, .code [(1, 0), (1, 0), (0, 0)] 3]) (σ' := ⟨[(4, .int .i64 v1)], []⟩) rfl ⟨hd4, trivial⟩ rfl ?_
        have h := Option.some.inj h
        subst h
        exact Tri.ret rfl ⟨nofun, rfl, rfl, rfl⟩
      · refine Tri.run 2 [.g false] [.keep [0, 1, 7, 8] []] (K' := []) (σ' := ⟨[(0, .list (.ints a0)), (1, .func 142 [] [.pbox [.list (.ratss a1), .list (.ints a2), .int .i64 a3] 0, .pbox [.int .i64 a4] 0]), (7, .int .i64 (a0.length : Int)), (8, .int .i64 (IntKind.i64.wrap (v1 + (1 : Int))))], []⟩) rfl ⟨hd4, trivial⟩ rfl ?_
        have h := Option.some.inj h
        subst h
        exact Tri.nil ⟨rfl, rfl⟩
    · refine Tri.run 1 [.g false] [.keep [] []] (K' := [.code [(1, 0), (1, 0), (0, 0), (1, 0), (0, 1)] 0, .code [(1, 0), (1, 0), (0, 0)] 2]) (σ' := ⟨[], []⟩) rfl ⟨hd1, trivial⟩ rfl ?_
      have h := Option.some.inj h
      subst h
      exact Tri.out 0 rfl ⟨nofun, rfl, rfl⟩
  · intro e σ' hne hq
    rcases x1 with _ | r
    · obtain ⟨rfl, rfl⟩ := hq
      refine TriX.exit (K' := [.code [] 2]) rfl ?_
      refine Tri.run 1 [] [.keep [4] []] (K' := [.code [] 3]) (σ' := ⟨[(4, .int .i64 (-1 : Int))], []⟩) rfl trivial rfl ?_
      have h := Option.some.inj h
      subst h
      exact Tri.ret rfl ⟨.inl rfl, rfl, rfl⟩
    · obtain ⟨rfl, hq⟩ := hq
      have h := Option.some.inj h
      subst h
      exact TriX.ret ⟨.inl rfl, hq⟩
/-! slices.ContainsFunc(()int,int) -/
noncomputable def E133_slices_ContainsFunc_int_int : Env := ⟨Try.prog, tys, (Try.f133.body).getD .skip, 9, tysOk, mixedOk⟩
abbrev q_slices_ContainsFunc_int_int_impl_formed_1 (r : Bool) (σ' : ASt) : Prop := resAV E133_slices_ContainsFunc_int_int.T σ' Try.f133.results.toList = some (.bool r) ∧ keepO σ'.ob (namesO []) = []
noncomputable def m_slices_ContainsFunc_int_int_impl_formed_1 (a0 : List Int) (a1 : List (List Q)) (a2 : List Int) (a3 : Int) (a4 : Int) : Option Bool :=
(m_slices_IndexFunc_int_int_impl_formed_1 a0 a1 a2 a3 a4).bind fun v1 =>
some (decide (v1 ≥ (0 : Int)))
theorem w_slices_ContainsFunc_int_int_impl_formed_1 (a0 : List Int) (a1 : List (List Q)) (a2 : List Int) (a3 : Int) (a4 : Int) (r : Bool) (h : m_slices_ContainsFunc_int_int_impl_formed_1 a0 a1 a2 a3 a4 = some r) : AM.Spec Try.prog 133 [.list (.ints a0), .func 142 [] [.pbox [.list (.ratss a1), .list (.ints a2), .int .i64 a3] 0, .pbox [.int .i64 a4] 0]] [] (.bool r) [] := by
  refine spec_of (E := E133_slices_ContainsFunc_int_int) Try.func133 rfl rfl rfl rfl ?_
  refine Tri.run 1 [] [.keep [0, 1] []] (K' := [.code [(1, 0)] 0, .code [] 2]) (σ' := ⟨[(0, .list (.ints a0)), (1, .func 142 [] [.pbox [.list (.ratss a1), .list (.ints a2), .int .i64 a3] 0, .pbox [.int .i64 a4] 0])], []⟩) rfl trivial rfl ?_
  obtain ⟨v1, hk1, h⟩ := bind_some h
  refine Tri.run 1 [.r ⟨[], .int .i64 v1, []⟩] [.keep [4] []] (K' := [.code [] 2]) (σ' := ⟨[(4, .bool (decide (v1 ≥ (0 : Int))))], []⟩) rfl ⟨(w_slices_IndexFunc_int_int_impl_formed_1 a0 a1 a2 a3 a4 v1 hk1), trivial⟩ rfl ?_
  have h := Option.some.inj h
  subst h
  exact Tri.ret rfl ⟨.inl rfl, rfl, rfl⟩
/-! impl.formed$2 -/
noncomputable def E144_impl_formed_2 : Env := ⟨Try.prog, tys, (Try.f144.body).getD .skip, 13, tysOk, mixedOk⟩
abbrev q_impl_formed_2 (r : Bool) (σ' : ASt) : Prop := resAV E144_impl_formed_2.T σ' Try.f144.results.toList = some (.bool r) ∧ keepO σ'.ob (namesO []) = []
noncomputable def m_impl_formed_2 (a0 : List Q) (_a1 : List (List Q)) (_a2 : List Int) (a3 : Int) (a4 : Int) : Option Bool :=
some ((a0.length : Int) != (IntKind.i64.wrap ((IntKind.i64.wrap (a3 + a4)) + (1 : Int))))
theorem w_impl_formed_2 (a0 : List Q) (a1 : List (List Q)) (a2 : List Int) (a3 : Int) (a4 : Int) (r : Bool) (h : m_impl_formed_2 a0 a1 a2 a3 a4 = some r) : AM.Spec Try.prog 144 [.list (.rats a0), .pbox [.list (.ratss a1), .list (.ints a2), .int .i64 a3] 0, .pbox [.int .i64 a4] 0] [] (.bool r) [] := by
  refine spec_of (E := E144_impl_formed_2) Try.func144 rfl rfl rfl rfl ?_
  refine Tri.run 2 [] [.keep [4] []] (K' := [.code [] 2]) (σ' := ⟨[(4, .bool ((a0.length : Int) != (IntKind.i64.wrap ((IntKind.i64.wrap (a3 + a4)) + (1 : Int)))))], []⟩) rfl trivial rfl ?_
  have h := Option.some.inj h
  subst h
  exact Tri.ret rfl ⟨.inl rfl, rfl, rfl⟩
/-! impl.Rat) -/
noncomputable def E163_slices_IndexFunc_impl_Rat_impl_Rat : Env := ⟨Try.prog, tys, (Try.f163.body).getD .skip, 19, tysOk, mixedOk⟩
abbrev q_slices_IndexFunc_impl_Rat_impl_Rat_impl_formed_2 (r : Int) (σ' : ASt) : Prop := resAV E163_slices_IndexFunc_impl_Rat_impl_Rat.T σ' Try.f163.results.toList = some (.int .i64 r) ∧ keepO σ'.ob (namesO []) = []
noncomputable def l_slices_IndexFunc_impl_Rat_impl_Rat_impl_formed_2_0 (a0 : List (List Q)) (a1 : List (List Q)) (a2 : List Int) (a3 : Int) (a4 : Int) (v1 : Int) : Option (Int ⊕ (Unit ⊕ Int)) :=
bif decide (v1 < (a0.length : Int)) then
(grd ((0 : Int) ≤ v1 ∧ v1 < (a0.length : Int)) <|
(m_impl_formed_2 (a0.getD v1.toNat []) a1 a2 a3 a4).bind fun v2 =>
bif v2 then
(some (.inr (.inr v1)))
else
(some (.inl (IntKind.i64.wrap (v1 + (1 : Int))))))
else
(some (.inr (.inl ())))
noncomputable def m_slices_IndexFunc_impl_Rat_impl_Rat_impl_formed_2 (a0 : List (List Q)) (a1 : List (List Q)) (a2 : List Int) (a3 : Int) (a4 : Int) : Option Int :=
(iter (l_slices_IndexFunc_impl_Rat_impl_Rat_impl_formed_2_0 a0 a1 a2 a3 a4) (0 : Int)).bind fun
| (.inl _) => (
some (-1 : Int))
| (.inr r) => some r
theorem w_slices_IndexFunc_impl_Rat_impl_Rat_impl_formed_2 (a0 : List (List Q)) (a1 : List (List Q)) (a2 : List Int) (a3 : Int) (a4 : Int) (r : Int) (h : m_slices_IndexFunc_impl_Rat_impl_Rat_impl_formed_2 a0 a1 a2 a3 a4 = some r) : AM.Spec Try.prog 163 [.list (.ratss a0), .func 144 [] [.pbox [.list (.ratss a1), .list (.ints a2), .int .i64 a3] 0, .pbox [.int .i64 a4] 0]] [] (.int .i64 r) [] := by
  refine spec_of (E := E163_slices_IndexFunc_impl_Rat_impl_Rat) Try.func163 rfl rfl rfl rfl ?_
  refine Tri.run 2 [] [.keep [0, 1, 7, 8] []] (K' := [.code [(1, 0), (1, 0)] 0, .blk 0, .code [] 2]) (σ' := ⟨[(0, .list (.ratss a0)), (1, .func 144 [] [.pbox [.list (.ratss a1), .list (.ints a2), .int .i64 a3] 0, .pbox [.int .i64 a4] 0]), (7, .int .i64 (a0.length : Int)), (8, .int .i64 (0 : Int))], []⟩) rfl trivial rfl ?_
  obtain ⟨x1, hk5, h⟩ := bind_some h
  refine Tri.loop (K1 := [.code [(1, 0), (1, 0), (0, 0)] 0]) (K2 := [.blk 0, .code [] 2]) (fun v1 => ⟨[(0, .list (.ratss a0)), (1, .func 144 [] [.pbox [.list (.ratss a1), .list (.ints a2), .int .i64 a3] 0, .pbox [.int .i64 a4] 0]), (7, .int .i64 (a0.length : Int)), (8, .int .i64 v1)], []⟩) (fun x e σ' => match x with | (.inl _) => e = .exit 0 ∧ σ' = ⟨[], []⟩ | (.inr r) => e = .ret ∧ q_slices_IndexFunc_impl_Rat_impl_Rat_impl_formed_2 r σ') hk5 rfl rfl ?_ ?_
  · intro v1 x hs
    clear h
    have h := hs
    clear hs
    refine Tri.run 1 [] [.keep [0, 1, 7, 8, 9] []] (K' := [.code [(1, 0), (1, 0), (0, 0), (1, 0)] 0, .code [(1, 0), (1, 0), (0, 0)] 2]) (σ' := ⟨[(0, .list (.ratss a0)), (1, .func 144 [] [.pbox [.list (.ratss a1), .list (.ints a2), .int .i64 a3] 0, .pbox [.int .i64 a4] 0]), (7, .int .i64 (a0.length : Int)), (8, .int .i64 v1), (9, .bool (decide (v1 < (a0.length : Int))))], []⟩) rfl trivial rfl ?_
    rcases bif_some h with ⟨hd1, h⟩ | ⟨hd1, h⟩
    · refine Tri.run 2 [.g true] [.keep [0, 1, 5, 7, 8] []] (K' := [.code [(1, 0), (1, 0), (0, 0), (2, 0), (0, 0), (1, 0)] 0, .code [(1, 0), (1, 0), (0, 0), (2, 0), (0, 0)] 2, .blk 1, .code [(1, 0), (1, 0), (0, 0)] 3]) (σ' := ⟨[(0, .list (.ratss a0)), (1, .func 144 [] [.pbox [.list (.ratss a1), .list (.ints a2), .int .i64 a3] 0, .pbox [.int .i64 a4] 0]), (5, .int .i64 v1), (7, .int .i64 (a0.length : Int)), (8, .int .i64 v1)], []⟩) rfl ⟨hd1, trivial⟩ rfl ?_
      obtain ⟨hg2, h⟩ := grd_some h
      obtain ⟨v2, hk3, h⟩ := bind_some h
      refine Tri.run 1 [.r ⟨[], .bool v2, []⟩] [.keep [0, 1, 5, 7, 8, 16] []] (K' := [.code [(1, 0), (1, 0), (0, 0), (2, 0), (0, 0)] 2, .blk 1, .code [(1, 0), (1, 0), (0, 0)] 3]) (σ' := ⟨[(0, .list (.ratss a0)), (1, .func 144 [] [.pbox [.list (.ratss a1), .list (.ints a2), .int .i64 a3] 0, .pbox [.int .i64 a4] 0]), (5, .int .i64 v1), (7, .int .i64 (a0.length : Int)), (8, .int .i64 v1), (16, .bool v2)], []⟩) rfl ⟨(w_impl_formed_2 (a0.getD v1.toNat []) a1 a2 a3 a4 v2 hk3), hg2, trivial⟩ rfl ?_
      rcases bif_some h with ⟨hd4, h⟩ | ⟨hd4, h⟩
      · refine Tri.run 2 [.g true] [.keep [4] []] (K' := [.code [(1, 0), (1, 0), (0, 0), (2, 0), (0, 0), (2, 0)] 1, .blk 1, .code [(1, 0), (1, 0), (0, 0)] 3]) (σ' := ⟨[(4, .int .i64 v1)], []⟩) rfl ⟨hd4, trivial⟩ rfl ?_
        have h := Option.some.inj h
        subst h
        exact Tri.ret rfl ⟨nofun, rfl, rfl, rfl⟩
      · refine Tri.run 2 [.g false] [.keep [0, 1, 7, 8] []] (K' := []) (σ' := ⟨[(0, .list (.ratss a0)), (1, .func 144 [] [.pbox [.list (.ratss a1), .list (.ints a2), .int .i64 a3] 0, .pbox [.int .i64 a4] 0]), (7, .int .i64 (a0.length : Int)), (8, .int .i64 (IntKind.i64.wrap (v1 + (1 : Int))))], []⟩) rfl ⟨hd4, trivial⟩ rfl ?_
        have h := Option.some.inj h
        subst h
        exact Tri.nil ⟨rfl, rfl⟩
    · refine Tri.run 1 [.g false] [.keep [] []] (K' := [.code [(1, 0), (1, 0), (0, 0), (1, 0), (0, 1)] 0, .code [(1, 0), (1, 0), (0, 0)] 2]) (σ' := ⟨[], []⟩) rfl ⟨hd1, trivial⟩ rfl ?_
      have h := Option.some.inj h
      subst h
      exact Tri.out 0 rfl ⟨nofun, rfl, rfl⟩
  · intro e σ' hne hq
    rcases x1 with _ | r
    · obtain ⟨rfl, rfl⟩ := hq
      refine TriX.exit (K' := [.code [] 2]) rfl ?_
      refine Tri.run 1 [] [.keep [4] []] (K' := [.code [] 3]) (σ' := ⟨[(4, .int .i64 (-1 : Int))], []⟩) rfl trivial rfl ?_
      have h := Option.some.inj h
      subst h
      exact Tri.ret rfl ⟨.inl rfl, rfl, rfl⟩
    · obtain ⟨rfl, hq⟩ := hq
      have h := Option.some.inj h
      subst h
      exact TriX.ret ⟨.inl rfl, hq⟩
/-! impl.Rat) -/
noncomputable def E143_slices_ContainsFunc_impl_Rat_impl_Rat : Env := ⟨Try.prog, tys, (Try.f143.body).getD .skip, 9, tysOk, mixedOk⟩
abbrev q_slices_ContainsFunc_impl_Rat_impl_Rat_impl_formed_2 (r : Bool) (σ' : ASt) : Prop := resAV E143_slices_ContainsFunc_impl_Rat_impl_Rat.T σ' Try.f143.results.toList = some (.bool r) ∧ keepO σ'.ob (namesO []) = []
noncomputable def m_slices_ContainsFunc_impl_Rat_impl_Rat_impl_formed_2 (a0 : List (List Q)) (a1 : List (List Q)) (a2 : List Int) (a3 : Int) (a4 : Int) : Option Bool :=
(m_slices_IndexFunc_impl_Rat_impl_Rat_impl_formed_2 a0 a1 a2 a3 a4).bind fun v1 =>
some (decide (v1 ≥ (0 : Int)))
theorem w_slices_ContainsFunc_impl_Rat_impl_Rat_impl_formed_2 (a0 : List (List Q)) (a1 : List (List Q)) (a2 : List Int) (a3 : Int) (a4 : Int) (r : Bool) (h : m_slices_ContainsFunc_impl_Rat_impl_Rat_impl_formed_2 a0 a1 a2 a3 a4 = some r) : AM.Spec Try.prog 143 [.list (.ratss a0), .func 144 [] [.pbox [.list (.ratss a1), .list (.ints a2), .int .i64 a3] 0, .pbox [.int .i64 a4] 0]] [] (.bool r) [] := by
  refine spec_of (E := E143_slices_ContainsFunc_impl_Rat_impl_Rat) Try.func143 rfl rfl rfl rfl ?_
  refine Tri.run 1 [] [.keep [0, 1] []] (K' := [.code [(1, 0)] 0, .code [] 2]) (σ' := ⟨[(0, .list (.ratss a0)), (1, .func 144 [] [.pbox [.list (.ratss a1), .list (.ints a2), .int .i64 a3] 0, .pbox [.int .i64 a4] 0])], []⟩) rfl trivial rfl ?_
  obtain ⟨v1, hk1, h⟩ := bind_some h
  refine Tri.run 1 [.r ⟨[], .int .i64 v1, []⟩] [.keep [4] []] (K' := [.code [] 2]) (σ' := ⟨[(4, .bool (decide (v1 ≥ (0 : Int))))], []⟩) rfl ⟨(w_slices_IndexFunc_impl_Rat_impl_Rat_impl_formed_2 a0 a1 a2 a3 a4 v1 hk1), trivial⟩ rfl ?_
  have h := Option.some.inj h
  subst h
  exact Tri.ret rfl ⟨.inl rfl, rfl, rfl⟩
/-! impl.formed -/
noncomputable def E101_impl_formed : Env := ⟨Try.prog, tys, (Try.f101.body).getD .skip, 27, tysOk, mixedOk⟩
abbrev q_impl_formed (r : Bool) (σ' : ASt) : Prop := resAV E101_impl_formed.T σ' Try.f101.results.toList = some (.bool r) ∧ keepO σ'.ob (namesO []) = []
noncomputable def m_impl_formed (a0 : List (List Q)) (a1 : List Int) (a2 : Int) : Option Bool :=
(m_impl_within a2 (0 : Int) (1000 : Int)).bind fun v1 =>
bif !v1 then
(some false)
else
(bif (a1.length : Int) != (a0.length : Int) then
(some false)
else
((m_slices_ContainsFunc_int_int_impl_formed_1 a1 a0 a1 a2 (a0.length : Int)).bind fun v2 =>
bif v2 then
(some false)
else
((m_slices_ContainsFunc_impl_Rat_impl_Rat_impl_formed_2 a0 a0 a1 a2 (a0.length : Int)).bind fun v3 =>
some (!v3))))
theorem w_impl_formed (a0 : List (List Q)) (a1 : List Int) (a2 : Int) (r : Bool) (h : m_impl_formed a0 a1 a2 = some r) : AM.Spec Try.prog 101 [.agg [.list (.ratss a0), .list (.ints a1), .int .i64 a2]] [] (.bool r) [] := by
  refine spec_of (E := E101_impl_formed) Try.func101 rfl rfl rfl rfl ?_
  refine Tri.run 2 [] [.keep [1, 3] [1, 3]] (K' := [.code [(2, 0), (0, 0)] 0, .code [(2, 0)] 1, .code [] 3]) (σ' := ⟨[(1, .ptr 1 0), (3, .ptr 3 0)], [(1, .box [.list (.ratss a0), .list (.ints a1), .int .i64 a2]), (3, .box [.int .i64 (a0.length : Int)])]⟩) rfl trivial rfl ?_
  obtain ⟨v1, hk1, h⟩ := bind_some h
  rcases bif_some h with ⟨hd2, h⟩ | ⟨hd2, h⟩
  · refine Tri.run 1 [.r ⟨[], .bool v1, []⟩, .g true] [.keep [1, 3, 17] [1, 3]] (K' := [.code [(2, 0)] 1, .code [] 3]) (σ' := ⟨[(1, .ptr 1 0), (3, .ptr 3 0), (17, .bool true)], [(1, .box [.list (.ratss a0), .list (.ints a1), .int .i64 a2]), (3, .box [.int .i64 (a0.length : Int)])]⟩) rfl ⟨hd2, (w_impl_within a2 (0 : Int) (1000 : Int) v1 hk1), trivial⟩ rfl ?_
    refine Tri.run 2 [.g true] [.keep [2] []] (K' := [.code [(2, 0), (1, 0)] 1, .code [] 3]) (σ' := ⟨[(2, .bool false)], []⟩) rfl ⟨rfl, trivial⟩ rfl ?_
    have h := Option.some.inj h
    subst h
    exact Tri.ret rfl ⟨.inl rfl, rfl, rfl⟩
  · refine Tri.run 1 [.r ⟨[], .bool v1, []⟩, .g false] [.keep [1, 3, 17] [1, 3]] (K' := [.code [(2, 0)] 1, .code [] 3]) (σ' := ⟨[(1, .ptr 1 0), (3, .ptr 3 0), (17, .bool ((a1.length : Int) != (a0.length : Int)))], [(1, .box [.list (.ratss a0), .list (.ints a1), .int .i64 a2]), (3, .box [.int .i64 (a0.length : Int)])]⟩) rfl ⟨hd2, (w_impl_within a2 (0 : Int) (1000 : Int) v1 hk1), trivial⟩ rfl ?_
    rcases bif_some h with ⟨hd3, h⟩ | ⟨hd3, h⟩
    · refine Tri.run 2 [.g true] [.keep [2] []] (K' := [.code [(2, 0), (1, 0)] 1, .code [] 3]) (σ' := ⟨[(2, .bool false)], []⟩) rfl ⟨hd3, trivial⟩ rfl ?_
      have h := Option.some.inj h
      subst h
      exact Tri.ret rfl ⟨.inl rfl, rfl, rfl⟩
    · obtain ⟨v2, hk4, h⟩ := bind_some h
      refine Tri.run 2 [.g false, .r ⟨[], .bool v2, []⟩] [.keep [1, 3, 21] [1, 3]] (K' := [.code [(3, 0)] 1, .code [] 4]) (σ' := ⟨[(1, .ptr 1 0), (3, .ptr 3 0), (21, .bool v2)], [(1, .box [.list (.ratss a0), .list (.ints a1), .int .i64 a2]), (3, .box [.int .i64 (a0.length : Int)])]⟩) rfl ⟨(w_slices_ContainsFunc_int_int_impl_formed_1 a1 a0 a1 a2 (a0.length : Int) v2 hk4), hd3, trivial⟩ rfl ?_
      rcases bif_some h with ⟨hd5, h⟩ | ⟨hd5, h⟩
      · refine Tri.run 2 [.g true] [.keep [2] []] (K' := [.code [(3, 0), (1, 0)] 1, .code [] 4]) (σ' := ⟨[(2, .bool false)], []⟩) rfl ⟨hd5, trivial⟩ rfl ?_
        have h := Option.some.inj h
        subst h
        exact Tri.ret rfl ⟨.inl rfl, rfl, rfl⟩
      · obtain ⟨v3, hk6, h⟩ := bind_some h
        refine Tri.run 2 [.g false, .r ⟨[], .bool v3, []⟩] [.keep [2] []] (K' := [.code [] 5]) (σ' := ⟨[(2, .bool (!v3))], []⟩) rfl ⟨(w_slices_ContainsFunc_impl_Rat_impl_Rat_impl_formed_2 a0 a0 a1 a2 (a0.length : Int) v3 hk6), hd5, trivial⟩ rfl ?_
        have h := Option.some.inj h
        subst h
        exact Tri.ret rfl ⟨.inl rfl, rfl, rfl⟩
/-! impl.whole -/
noncomputable def E76_impl_whole : Env := ⟨Try.prog, tys, (Try.f76.body).getD .skip, 5, tysOk, mixedOk⟩
abbrev q_impl_whole (r : Int × Int) (σ' : ASt) : Prop := resAV E76_impl_whole.T σ' Try.f76.results.toList = some (.agg [.int .i64 r.1, .int .i64 r.2]) ∧ keepO σ'.ob (namesO []) = []
noncomputable def m_impl_whole (a0 : Int) : Option (Int × Int) :=
some (a0, (1 : Int))
theorem w_impl_whole (a0 : Int) (r : Int × Int) (h : m_impl_whole a0 = some r) : AM.Spec Try.prog 76 [.int .i64 a0] [] (.agg [.int .i64 r.1, .int .i64 r.2]) [] := by
  refine spec_of (E := E76_impl_whole) Try.func76 rfl rfl rfl rfl ?_
  refine Tri.run 2 [] [.keep [2] [2]] (K' := [.code [] 2]) (σ' := ⟨[(2, .ptr 2 0)], [(2, .box [.int .i64 a0, .int .i64 (1 : Int)])]⟩) rfl trivial rfl ?_
  have h := Option.some.inj h
  subst h
  exact Tri.ret rfl ⟨.inl rfl, rfl, rfl⟩
/-! impl.common -/
noncomputable def E160_impl_common : Env := ⟨Try.prog, tys, (Try.f160.body).getD .skip, 15, tysOk, mixedOk⟩
abbrev q_impl_common (r : Int) (σ' : ASt) : Prop := resAV E160_impl_common.T σ' Try.f160.results.toList = some (.int .i64 r) ∧ keepO σ'.ob (namesO []) = []
noncomputable def l_impl_common_0 : (Int × Int) → Option ((Int × Int) ⊕ Int)
  | (v1, v2) => (
bif v2 != (0 : Int) then
(grd (v2 ≠ 0) <|
some (.inl (v2, v1.tmod v2)))
else
(some (.inr v1)))
noncomputable def m_impl_common (a0 : Int) (a1 : Int) : Option Int :=
(iter (l_impl_common_0) (a0, a1)).bind fun
| v3 => (
some (if IntKind.i64.wrap (0 - v3) > v3 then IntKind.i64.wrap (0 - v3) else v3))
theorem w_impl_common (a0 : Int) (a1 : Int) (r : Int) (h : m_impl_common a0 a1 = some r) : AM.Spec Try.prog 160 [.int .i64 a0, .int .i64 a1] [] (.int .i64 r) [] := by
  refine spec_of (E := E160_impl_common) Try.func160 rfl rfl rfl rfl ?_
  refine Tri.run 1 [] [.keep [0, 1] []] (K' := [.code [(1, 0), (0, 0)] 0, .blk 0, .code [] 2]) (σ' := ⟨[(0, .int .i64 a0), (1, .int .i64 a1)], []⟩) rfl trivial rfl ?_
  obtain ⟨v3, hk3, h⟩ := bind_some h
  refine Tri.loop (K1 := [.code [(1, 0), (0, 0), (0, 0)] 0]) (K2 := [.blk 0, .code [] 2]) (fun (v1, v2) => ⟨[(0, .int .i64 v1), (1, .int .i64 v2)], []⟩) (fun x e σ' => match x with | v3 => e = .exit 0 ∧ σ' = ⟨[(0, .int .i64 v3)], []⟩) hk3 rfl rfl ?_ ?_
  · intro s x hs
    clear h
    have h := hs
    clear hs
    obtain ⟨v1, v2⟩ := s
    refine Tri.run 1 [] [.keep [0, 1, 6] []] (K' := [.code [(1, 0), (0, 0), (0, 0), (0, 0)] 1, .code [(1, 0), (0, 0), (0, 0)] 1]) (σ' := ⟨[(0, .int .i64 v1), (1, .int .i64 v2), (6, .bool (v2 != (0 : Int)))], []⟩) rfl trivial rfl ?_
    rcases bif_some h with ⟨hd1, h⟩ | ⟨hd1, h⟩
    · obtain ⟨hg2, h⟩ := grd_some h
      refine Tri.run 2 [.g true] [.keep [0, 1] []] (K' := []) (σ' := ⟨[(0, .int .i64 v2), (1, .int .i64 (v1.tmod v2))], []⟩) rfl ⟨hg2, hd1, trivial⟩ rfl ?_
      have h := Option.some.inj h
      subst h
      exact Tri.nil ⟨rfl, rfl⟩
    · refine Tri.run 1 [.g false] [.keep [0] []] (K' := [.code [(1, 0), (0, 0), (0, 0), (0, 0), (1, 1)] 0, .code [(1, 0), (0, 0), (0, 0)] 1]) (σ' := ⟨[(0, .int .i64 v1)], []⟩) rfl ⟨hd1, trivial⟩ rfl ?_
      have h := Option.some.inj h
      subst h
      exact Tri.out 0 rfl ⟨nofun, rfl, rfl⟩
  · intro e σ' hne hq
    obtain ⟨rfl, rfl⟩ := hq
    refine TriX.exit (K' := [.code [] 2]) rfl ?_
    refine Tri.run 1 [] [.keep [4] []] (K' := [.code [] 3]) (σ' := ⟨[(4, .int .i64 (if IntKind.i64.wrap (0 - v3) > v3 then IntKind.i64.wrap (0 - v3) else v3))], []⟩) rfl trivial rfl ?_
    have h := Option.some.inj h
    subst h
    exact Tri.ret rfl ⟨.inl rfl, rfl, rfl⟩
/-! impl.IsValidRat -/
noncomputable def E135_impl_IsValidRat : Env := ⟨Try.prog, tys, (Try.f135.body).getD .skip, 19, tysOk, mixedOk⟩
abbrev q_impl_IsValidRat (r : Bool) (σ' : ASt) : Prop := resAV E135_impl_IsValidRat.T σ' Try.f135.results.toList = some (.bool r) ∧ keepO σ'.ob (namesO []) = []
noncomputable def m_impl_IsValidRat (a0 : Int) (a1 : Int) : Option Bool :=
(m_impl_within a1 (1 : Int) (1000000000 : Int)).bind fun v1 =>
bif v1 then
((m_impl_within a0 (-1000000000 : Int) (1000000000 : Int)).bind fun v2 =>
bif v2 then
((m_impl_common a0 a1).bind fun v3 =>
some (v3 == (1 : Int)))
else
(some false))
else
(some false)
theorem w_impl_IsValidRat (a0 : Int) (a1 : Int) (r : Bool) (h : m_impl_IsValidRat a0 a1 = some r) : AM.Spec Try.prog 135 [.agg [.int .i64 a0, .int .i64 a1]] [] (.bool r) [] := by
  refine spec_of (E := E135_impl_IsValidRat) Try.func135 rfl rfl rfl rfl ?_
  refine Tri.run 1 [] [.keep [1] [1]] (K' := [.code [(1, 0)] 0, .code [] 2]) (σ' := ⟨[(1, .ptr 1 0)], [(1, .box [.int .i64 a0, .int .i64 a1])]⟩) rfl trivial rfl ?_
  obtain ⟨v1, hk1, h⟩ := bind_some h
  rcases bif_some h with ⟨hd2, h⟩ | ⟨hd2, h⟩
  · obtain ⟨v2, hk3, h⟩ := bind_some h
    rcases bif_some h with ⟨hd4, h⟩ | ⟨hd4, h⟩
    · obtain ⟨v3, hk5, h⟩ := bind_some h
      refine Tri.run 1 [.r ⟨[], .bool v1, []⟩, .g true, .r ⟨[], .bool v2, []⟩, .g true, .r ⟨[], .int .i64 v3, []⟩] [.keep [2] []] (K' := [.code [] 2]) (σ' := ⟨[(2, .bool (v3 == (1 : Int)))], []⟩) rfl ⟨(w_impl_common a0 a1 v3 hk5), hd4, (w_impl_within a0 (-1000000000 : Int) (1000000000 : Int) v2 hk3), hd2, (w_impl_within a1 (1 : Int) (1000000000 : Int) v1 hk1), trivial⟩ rfl ?_
      have h := Option.some.inj h
      subst h
      exact Tri.ret rfl ⟨.inl rfl, rfl, rfl⟩
    · refine Tri.run 1 [.r ⟨[], .bool v1, []⟩, .g true, .r ⟨[], .bool v2, []⟩, .g false] [.keep [2] []] (K' := [.code [] 2]) (σ' := ⟨[(2, .bool false)], []⟩) rfl ⟨hd4, (w_impl_within a0 (-1000000000 : Int) (1000000000 : Int) v2 hk3), hd2, (w_impl_within a1 (1 : Int) (1000000000 : Int) v1 hk1), trivial⟩ rfl ?_
      have h := Option.some.inj h
      subst h
      exact Tri.ret rfl ⟨.inl rfl, rfl, rfl⟩
  · refine Tri.run 1 [.r ⟨[], .bool v1, []⟩, .g false, .g false] [.keep [2] []] (K' := [.code [] 2]) (σ' := ⟨[(2, .bool false)], []⟩) rfl ⟨rfl, hd2, (w_impl_within a1 (1 : Int) (1000000000 : Int) v1 hk1), trivial⟩ rfl ?_
    have h := Option.some.inj h
    subst h
    exact Tri.ret rfl ⟨.inl rfl, rfl, rfl⟩
/-! impl.CompareRat -/
noncomputable def E103_impl_CompareRat : Env := ⟨Try.prog, tys, (Try.f103.body).getD .skip, 33, tysOk, mixedOk⟩
abbrev q_impl_CompareRat (r : Int) (σ' : ASt) : Prop := resAV E103_impl_CompareRat.T σ' Try.f103.results.toList = some (.int .i64 r) ∧ keepO σ'.ob (namesO []) = []
noncomputable def m_impl_CompareRat (a0 : Int) (a1 : Int) (a2 : Int) (a3 : Int) : Option Int :=
(m_impl_IsValidRat a0 a1).bind fun v1 =>
bif !v1 then
(some (0 : Int))
else
((m_impl_IsValidRat a2 a3).bind fun v2 =>
bif !v2 then
(some (0 : Int))
else
(bif decide ((IntKind.i64.wrap (a0 * a3)) < (IntKind.i64.wrap (a2 * a1))) then
(some (-1 : Int))
else
(bif decide ((IntKind.i64.wrap (a0 * a3)) > (IntKind.i64.wrap (a2 * a1))) then
(some (1 : Int))
else
(some (0 : Int)))))
theorem w_impl_CompareRat (a0 : Int) (a1 : Int) (a2 : Int) (a3 : Int) (r : Int) (h : m_impl_CompareRat a0 a1 a2 a3 = some r) : AM.Spec Try.prog 103 [.agg [.int .i64 a0, .int .i64 a1], .agg [.int .i64 a2, .int .i64 a3]] [] (.int .i64 r) [] := by
  refine spec_of (E := E103_impl_CompareRat) Try.func103 rfl rfl rfl rfl ?_
  refine Tri.run 1 [] [.keep [2, 3] [2, 3]] (K' := [.code [(1, 0), (0, 0)] 0, .code [(1, 0)] 1, .code [] 2]) (σ' := ⟨[(2, .ptr 2 0), (3, .ptr 3 0)], [(2, .box [.int .i64 a0, .int .i64 a1]), (3, .box [.int .i64 a2, .int .i64 a3])]⟩) rfl trivial rfl ?_
  obtain ⟨v1, hk1, h⟩ := bind_some h
  rcases bif_some h with ⟨hd2, h⟩ | ⟨hd2, h⟩
  · refine Tri.run 1 [.r ⟨[], .bool v1, []⟩, .g true] [.keep [2, 3, 14] [2, 3]] (K' := [.code [(1, 0)] 1, .code [] 2]) (σ' := ⟨[(2, .ptr 2 0), (3, .ptr 3 0), (14, .bool true)], [(2, .box [.int .i64 a0, .int .i64 a1]), (3, .box [.int .i64 a2, .int .i64 a3])]⟩) rfl ⟨hd2, (w_impl_IsValidRat a0 a1 v1 hk1), trivial⟩ rfl ?_
    refine Tri.run 2 [.g true] [.keep [4] []] (K' := [.code [(1, 0), (1, 0)] 1, .code [] 2]) (σ' := ⟨[(4, .int .i64 (0 : Int))], []⟩) rfl ⟨rfl, trivial⟩ rfl ?_
    have h := Option.some.inj h
    subst h
    exact Tri.ret rfl ⟨.inl rfl, rfl, rfl⟩
  · obtain ⟨v2, hk3, h⟩ := bind_some h
    refine Tri.run 1 [.r ⟨[], .bool v1, []⟩, .g false, .r ⟨[], .bool v2, []⟩] [.keep [2, 3, 14] [2, 3]] (K' := [.code [(1, 0)] 1, .code [] 2]) (σ' := ⟨[(2, .ptr 2 0), (3, .ptr 3 0), (14, .bool (!v2))], [(2, .box [.int .i64 a0, .int .i64 a1]), (3, .box [.int .i64 a2, .int .i64 a3])]⟩) rfl ⟨(w_impl_IsValidRat a2 a3 v2 hk3), hd2, (w_impl_IsValidRat a0 a1 v1 hk1), trivial⟩ rfl ?_
    rcases bif_some h with ⟨hd4, h⟩ | ⟨hd4, h⟩
    · refine Tri.run 2 [.g true] [.keep [4] []] (K' := [.code [(1, 0), (1, 0)] 1, .code [] 2]) (σ' := ⟨[(4, .int .i64 (0 : Int))], []⟩) rfl ⟨hd4, trivial⟩ rfl ?_
      have h := Option.some.inj h
      subst h
      exact Tri.ret rfl ⟨.inl rfl, rfl, rfl⟩
    · refine Tri.run 3 [.g false] [.keep [5, 6, 25] []] (K' := [.code [(3, 0), (0, 0)] 1, .blk 0, .code [] 4]) (σ' := ⟨[(5, .int .i64 (IntKind.i64.wrap (a0 * a3))), (6, .int .i64 (IntKind.i64.wrap (a2 * a1))), (25, .bool (decide ((IntKind.i64.wrap (a0 * a3)) < (IntKind.i64.wrap (a2 * a1)))))], []⟩) rfl ⟨hd4, trivial⟩ rfl ?_
      rcases bif_some h with ⟨hd5, h⟩ | ⟨hd5, h⟩
      · refine Tri.run 2 [.g true] [.keep [4] []] (K' := [.code [(3, 0), (0, 0), (1, 0)] 1, .blk 0, .code [] 4]) (σ' := ⟨[(4, .int .i64 (-1 : Int))], []⟩) rfl ⟨hd5, trivial⟩ rfl ?_
        have h := Option.some.inj h
        subst h
        exact Tri.ret rfl ⟨.inl rfl, rfl, rfl⟩
      · refine Tri.run 2 [.g false] [.keep [29] []] (K' := [.code [(3, 0), (0, 0), (1, 1)] 1, .blk 0, .code [] 4]) (σ' := ⟨[(29, .bool (decide ((IntKind.i64.wrap (a0 * a3)) > (IntKind.i64.wrap (a2 * a1)))))], []⟩) rfl ⟨hd5, trivial⟩ rfl ?_
        rcases bif_some h with ⟨hd6, h⟩ | ⟨hd6, h⟩
        · refine Tri.run 2 [.g true] [.keep [4] []] (K' := [.code [(3, 0), (0, 0), (1, 1), (1, 0)] 1, .blk 0, .code [] 4]) (σ' := ⟨[(4, .int .i64 (1 : Int))], []⟩) rfl ⟨hd6, trivial⟩ rfl ?_
          have h := Option.some.inj h
          subst h
          exact Tri.ret rfl ⟨.inl rfl, rfl, rfl⟩
        · refine Tri.run 2 [.g false] [.keep [4] []] (K' := [.code [] 5]) (σ' := ⟨[(4, .int .i64 (0 : Int))], []⟩) rfl ⟨hd6, trivial⟩ rfl ?_
          have h := Option.some.inj h
          subst h
          exact Tri.ret rfl ⟨.inl rfl, rfl, rfl⟩
/-! impl.sign -/
noncomputable def E102_impl_sign : Env := ⟨Try.prog, tys, (Try.f102.body).getD .skip, 6, tysOk, mixedOk⟩
abbrev q_impl_sign (r : Int) (σ' : ASt) : Prop := resAV E102_impl_sign.T σ' Try.f102.results.toList = some (.int .i64 r) ∧ keepO σ'.ob (namesO []) = []
noncomputable def m_impl_sign (a0 : Int) (a1 : Int) : Option Int :=
(m_impl_whole (0 : Int)).bind fun (v1, v2) =>
(m_impl_CompareRat a0 a1 v1 v2).bind fun v3 =>
some v3
theorem w_impl_sign (a0 : Int) (a1 : Int) (r : Int) (h : m_impl_sign a0 a1 = some r) : AM.Spec Try.prog 102 [.agg [.int .i64 a0, .int .i64 a1]] [] (.int .i64 r) [] := by
  refine spec_of (E := E102_impl_sign) Try.func102 rfl rfl rfl rfl ?_
  refine Tri.run 1 [] [.keep [1] [1]] (K' := [.code [(1, 0)] 0, .code [] 2]) (σ' := ⟨[(1, .ptr 1 0)], [(1, .box [.int .i64 a0, .int .i64 a1])]⟩) rfl trivial rfl ?_
  obtain ⟨⟨v1, v2⟩, hk1, h⟩ := bind_some h
  obtain ⟨v3, hk2, h⟩ := bind_some h
  refine Tri.run 1 [.r ⟨[], .agg [.int .i64 v1, .int .i64 v2], []⟩, .r ⟨[], .int .i64 v3, []⟩] [.keep [2] []] (K' := [.code [] 2]) (σ' := ⟨[(2, .int .i64 v3)], []⟩) rfl ⟨(w_impl_CompareRat a0 a1 v1 v2 v3 hk2), (w_impl_whole (0 : Int) (v1, v2) hk1), trivial⟩ rfl ?_
  have h := Option.some.inj h
  subst h
  exact Tri.ret rfl ⟨.inl rfl, rfl, rfl⟩
/-! impl.RatOf -/
noncomputable def E136_impl_RatOf : Env := ⟨Try.prog, tys, (Try.f136.body).getD .skip, 40, tysOk, mixedOk⟩
abbrev q_impl_RatOf (r : Int × Int × Bool) (σ' : ASt) : Prop := resAV E136_impl_RatOf.T σ' Try.f136.results.toList = some (.tuple [.agg [.int .i64 r.1, .int .i64 r.2.1], .bool r.2.2]) ∧ keepO σ'.ob (namesO []) = []
noncomputable def m_impl_RatOf (a0 : Int) (a1 : Int) : Option (Int × Int × Bool) :=
bif a1 == (0 : Int) then
(some (0, 0, false))
else
((m_impl_within a0 (-1000000000000000000 : Int) (1000000000000000000 : Int)).bind fun v1 =>
bif !v1 then
(some (0, 0, false))
else
((m_impl_within a1 (-1000000000000000000 : Int) (1000000000000000000 : Int)).bind fun v2 =>
bif !v2 then
(some (0, 0, false))
else
((m_impl_common a0 a1).bind fun v3 =>
bif decide (a1 < (0 : Int)) then
(grd ((IntKind.i64.wrap (0 - v3)) ≠ 0) <|
grd ((IntKind.i64.wrap (0 - v3)) ≠ 0) <|
(m_impl_IsValidRat (IntKind.i64.wrap (a0.tdiv (IntKind.i64.wrap (0 - v3)))) (IntKind.i64.wrap (a1.tdiv (IntKind.i64.wrap (0 - v3))))).bind fun v4 =>
bif !v4 then
(some (0, 0, false))
else
(some (IntKind.i64.wrap (a0.tdiv (IntKind.i64.wrap (0 - v3))), IntKind.i64.wrap (a1.tdiv (IntKind.i64.wrap (0 - v3))), true)))
else
(grd (v3 ≠ 0) <|
grd (v3 ≠ 0) <|
(m_impl_IsValidRat (IntKind.i64.wrap (a0.tdiv v3)) (IntKind.i64.wrap (a1.tdiv v3))).bind fun v5 =>
bif !v5 then
(some (0, 0, false))
else
(some (IntKind.i64.wrap (a0.tdiv v3), IntKind.i64.wrap (a1.tdiv v3), true))))))
theorem w_impl_RatOf (a0 : Int) (a1 : Int) (r : Int × Int × Bool) (h : m_impl_RatOf a0 a1 = some r) : AM.Spec Try.prog 136 [.int .i64 a0, .int .i64 a1] [] (.tuple [.agg [.int .i64 r.1, .int .i64 r.2.1], .bool r.2.2]) [] := by
  refine spec_of (E := E136_impl_RatOf) Try.func136 rfl rfl rfl rfl ?_
  refine Tri.run 1 [] [.keep [0, 1, 4] [4]] (K' := [.code [(1, 0), (0, 0)] 0, .code [(1, 0)] 1, .code [] 2]) (σ' := ⟨[(0, .int .i64 a0), (1, .int .i64 a1), (4, .ptr 4 0)], [(4, .box [.int .i64 0, .int .i64 0])]⟩) rfl trivial rfl ?_
  rcases bif_some h with ⟨hd1, h⟩ | ⟨hd1, h⟩
  · refine Tri.run 1 [.g true, .g true] [.keep [0, 1, 4, 19] [4]] (K' := [.code [(1, 0)] 1, .code [] 2]) (σ' := ⟨[(0, .int .i64 a0), (1, .int .i64 a1), (4, .ptr 4 0), (19, .bool true)], [(4, .box [.int .i64 0, .int .i64 0])]⟩) rfl ⟨rfl, hd1, trivial⟩ rfl ?_
    refine Tri.run 2 [.g true] [.keep [4, 5] [4]] (K' := [.code [(1, 0), (1, 0)] 1, .code [] 2]) (σ' := ⟨[(4, .ptr 4 0), (5, .bool false)], [(4, .box [.int .i64 0, .int .i64 0])]⟩) rfl ⟨rfl, trivial⟩ rfl ?_
    have h := Option.some.inj h
    subst h
    exact Tri.ret rfl ⟨.inl rfl, rfl, rfl⟩
  · obtain ⟨v1, hk2, h⟩ := bind_some h
    rcases bif_some h with ⟨hd3, h⟩ | ⟨hd3, h⟩
    · refine Tri.run 1 [.g false, .r ⟨[], .bool v1, []⟩, .g true] [.keep [0, 1, 4, 19] [4]] (K' := [.code [(1, 0)] 1, .code [] 2]) (σ' := ⟨[(0, .int .i64 a0), (1, .int .i64 a1), (4, .ptr 4 0), (19, .bool true)], [(4, .box [.int .i64 0, .int .i64 0])]⟩) rfl ⟨hd3, (w_impl_within a0 (-1000000000000000000 : Int) (1000000000000000000 : Int) v1 hk2), hd1, trivial⟩ rfl ?_
      refine Tri.run 2 [.g true] [.keep [4, 5] [4]] (K' := [.code [(1, 0), (1, 0)] 1, .code [] 2]) (σ' := ⟨[(4, .ptr 4 0), (5, .bool false)], [(4, .box [.int .i64 0, .int .i64 0])]⟩) rfl ⟨rfl, trivial⟩ rfl ?_
      have h := Option.some.inj h
      subst h
      exact Tri.ret rfl ⟨.inl rfl, rfl, rfl⟩
    · obtain ⟨v2, hk4, h⟩ := bind_some h
      refine Tri.run 1 [.g false, .r ⟨[], .bool v1, []⟩, .g false, .r ⟨[], .bool v2, []⟩] [.keep [0, 1, 4, 19] [4]] (K' := [.code [(1, 0)] 1, .code [] 2]) (σ' := ⟨[(0, .int .i64 a0), (1, .int .i64 a1), (4, .ptr 4 0), (19, .bool (!v2))], [(4, .box [.int .i64 0, .int .i64 0])]⟩) rfl ⟨(w_impl_within a1 (-1000000000000000000 : Int) (1000000000000000000 : Int) v2 hk4), hd3, (w_impl_within a0 (-1000000000000000000 : Int) (1000000000000000000 : Int) v1 hk2), hd1, trivial⟩ rfl ?_
      rcases bif_some h with ⟨hd5, h⟩ | ⟨hd5, h⟩
      · refine Tri.run 2 [.g true] [.keep [4, 5] [4]] (K' := [.code [(1, 0), (1, 0)] 1, .code [] 2]) (σ' := ⟨[(4, .ptr 4 0), (5, .bool false)], [(4, .box [.int .i64 0, .int .i64 0])]⟩) rfl ⟨hd5, trivial⟩ rfl ?_
        have h := Option.some.inj h
        subst h
        exact Tri.ret rfl ⟨.inl rfl, rfl, rfl⟩
      · obtain ⟨v3, hk6, h⟩ := bind_some h
        refine Tri.run 3 [.g false, .r ⟨[], .int .i64 v3, []⟩] [.keep [0, 1, 4, 6, 25] [4]] (K' := [.code [(3, 0)] 1, .code [] 4]) (σ' := ⟨[(0, .int .i64 a0), (1, .int .i64 a1), (4, .ptr 4 0), (6, .int .i64 v3), (25, .bool (decide (a1 < (0 : Int))))], [(4, .box [.int .i64 0, .int .i64 0])]⟩) rfl ⟨(w_impl_common a0 a1 v3 hk6), hd5, trivial⟩ rfl ?_
        rcases bif_some h with ⟨hd7, h⟩ | ⟨hd7, h⟩
        · obtain ⟨hg8, h⟩ := grd_some h
          obtain ⟨hg9, h⟩ := grd_some h
          refine Tri.run 3 [.g true] [.keep [4, 7] [4, 7]] (K' := [.code [(5, 0), (0, 0)] 0, .code [(5, 0)] 1, .code [] 6]) (σ' := ⟨[(4, .ptr 4 0), (7, .ptr 7 0)], [(4, .box [.int .i64 0, .int .i64 0]), (7, .box [.int .i64 (IntKind.i64.wrap (a0.tdiv (IntKind.i64.wrap (0 - v3)))), .int .i64 (IntKind.i64.wrap (a1.tdiv (IntKind.i64.wrap (0 - v3))))])]⟩) rfl ⟨hg9, hg8, hd7, trivial⟩ rfl ?_
          obtain ⟨v4, hk10, h⟩ := bind_some h
          refine Tri.run 1 [.r ⟨[], .bool v4, []⟩] [.keep [4, 7, 37] [4, 7]] (K' := [.code [(5, 0)] 1, .code [] 6]) (σ' := ⟨[(4, .ptr 4 0), (7, .ptr 7 0), (37, .bool (!v4))], [(4, .box [.int .i64 0, .int .i64 0]), (7, .box [.int .i64 (IntKind.i64.wrap (a0.tdiv (IntKind.i64.wrap (0 - v3)))), .int .i64 (IntKind.i64.wrap (a1.tdiv (IntKind.i64.wrap (0 - v3))))])]⟩) rfl ⟨(w_impl_IsValidRat (IntKind.i64.wrap (a0.tdiv (IntKind.i64.wrap (0 - v3)))) (IntKind.i64.wrap (a1.tdiv (IntKind.i64.wrap (0 - v3)))) v4 hk10), trivial⟩ rfl ?_
          rcases bif_some h with ⟨hd11, h⟩ | ⟨hd11, h⟩
          · refine Tri.run 2 [.g true] [.keep [4, 5] [4]] (K' := [.code [(5, 0), (1, 0)] 1, .code [] 6]) (σ' := ⟨[(4, .ptr 4 0), (5, .bool false)], [(4, .box [.int .i64 0, .int .i64 0])]⟩) rfl ⟨hd11, trivial⟩ rfl ?_
            have h := Option.some.inj h
            subst h
            exact Tri.ret rfl ⟨.inl rfl, rfl, rfl⟩
          · refine Tri.run 2 [.g false] [.keep [4, 5] [4]] (K' := [.code [] 7]) (σ' := ⟨[(4, .ptr 4 0), (5, .bool true)], [(4, .box [.int .i64 (IntKind.i64.wrap (a0.tdiv (IntKind.i64.wrap (0 - v3)))), .int .i64 (IntKind.i64.wrap (a1.tdiv (IntKind.i64.wrap (0 - v3))))])]⟩) rfl ⟨hd11, trivial⟩ rfl ?_
            have h := Option.some.inj h
            subst h
            exact Tri.ret rfl ⟨.inl rfl, rfl, rfl⟩
        · obtain ⟨hg12, h⟩ := grd_some h
          obtain ⟨hg13, h⟩ := grd_some h
          refine Tri.run 2 [.g false] [.keep [4, 7] [4, 7]] (K' := [.code [(5, 0), (0, 0)] 0, .code [(5, 0)] 1, .code [] 6]) (σ' := ⟨[(4, .ptr 4 0), (7, .ptr 7 0)], [(4, .box [.int .i64 0, .int .i64 0]), (7, .box [.int .i64 (IntKind.i64.wrap (a0.tdiv v3)), .int .i64 (IntKind.i64.wrap (a1.tdiv v3))])]⟩) rfl ⟨hg13, hg12, hd7, trivial⟩ rfl ?_
          obtain ⟨v5, hk14, h⟩ := bind_some h
          refine Tri.run 1 [.r ⟨[], .bool v5, []⟩] [.keep [4, 7, 37] [4, 7]] (K' := [.code [(5, 0)] 1, .code [] 6]) (σ' := ⟨[(4, .ptr 4 0), (7, .ptr 7 0), (37, .bool (!v5))], [(4, .box [.int .i64 0, .int .i64 0]), (7, .box [.int .i64 (IntKind.i64.wrap (a0.tdiv v3)), .int .i64 (IntKind.i64.wrap (a1.tdiv v3))])]⟩) rfl ⟨(w_impl_IsValidRat (IntKind.i64.wrap (a0.tdiv v3)) (IntKind.i64.wrap (a1.tdiv v3)) v5 hk14), trivial⟩ rfl ?_
          rcases bif_some h with ⟨hd15, h⟩ | ⟨hd15, h⟩
          · refine Tri.run 2 [.g true] [.keep [4, 5] [4]] (K' := [.code [(5, 0), (1, 0)] 1, .code [] 6]) (σ' := ⟨[(4, .ptr 4 0), (5, .bool false)], [(4, .box [.int .i64 0, .int .i64 0])]⟩) rfl ⟨hd15, trivial⟩ rfl ?_
            have h := Option.some.inj h
            subst h
            exact Tri.ret rfl ⟨.inl rfl, rfl, rfl⟩
          · refine Tri.run 2 [.g false] [.keep [4, 5] [4]] (K' := [.code [] 7]) (σ' := ⟨[(4, .ptr 4 0), (5, .bool true)], [(4, .box [.int .i64 (IntKind.i64.wrap (a0.tdiv v3)), .int .i64 (IntKind.i64.wrap (a1.tdiv v3))])]⟩) rfl ⟨hd15, trivial⟩ rfl ?_
            have h := Option.some.inj h
            subst h
            exact Tri.ret rfl ⟨.inl rfl, rfl, rfl⟩
/-! impl.DivRat -/
noncomputable def E88_impl_DivRat : Env := ⟨Try.prog, tys, (Try.f88.body).getD .skip, 28, tysOk, mixedOk⟩
abbrev q_impl_DivRat (r : Int × Int × Bool) (σ' : ASt) : Prop := resAV E88_impl_DivRat.T σ' Try.f88.results.toList = some (.tuple [.agg [.int .i64 r.1, .int .i64 r.2.1], .bool r.2.2]) ∧ keepO σ'.ob (namesO []) = []
noncomputable def m_impl_DivRat (a0 : Int) (a1 : Int) (a2 : Int) (a3 : Int) : Option (Int × Int × Bool) :=
(m_impl_IsValidRat a0 a1).bind fun v1 =>
bif !v1 then
(some (0, 0, false))
else
((m_impl_IsValidRat a2 a3).bind fun v2 =>
bif !v2 then
(some (0, 0, false))
else
((m_impl_RatOf (IntKind.i64.wrap (a0 * a3)) (IntKind.i64.wrap (a1 * a2))).bind fun (v3, v4, v5) =>
some (v3, v4, v5)))
theorem w_impl_DivRat (a0 : Int) (a1 : Int) (a2 : Int) (a3 : Int) (r : Int × Int × Bool) (h : m_impl_DivRat a0 a1 a2 a3 = some r) : AM.Spec Try.prog 88 [.agg [.int .i64 a0, .int .i64 a1], .agg [.int .i64 a2, .int .i64 a3]] [] (.tuple [.agg [.int .i64 r.1, .int .i64 r.2.1], .bool r.2.2]) [] := by
  refine spec_of (E := E88_impl_DivRat) Try.func88 rfl rfl rfl rfl ?_
  refine Tri.run 1 [] [.keep [2, 3, 4] [2, 3, 4]] (K' := [.code [(1, 0), (0, 0)] 0, .code [(1, 0)] 1, .code [] 2]) (σ' := ⟨[(2, .ptr 2 0), (3, .ptr 3 0), (4, .ptr 4 0)], [(2, .box [.int .i64 a0, .int .i64 a1]), (3, .box [.int .i64 a2, .int .i64 a3]), (4, .box [.int .i64 0, .int .i64 0])]⟩) rfl trivial rfl ?_
  obtain ⟨v1, hk1, h⟩ := bind_some h
  rcases bif_some h with ⟨hd2, h⟩ | ⟨hd2, h⟩
  · refine Tri.run 1 [.r ⟨[], .bool v1, []⟩, .g true] [.keep [2, 3, 4, 13] [2, 3, 4]] (K' := [.code [(1, 0)] 1, .code [] 2]) (σ' := ⟨[(2, .ptr 2 0), (3, .ptr 3 0), (4, .ptr 4 0), (13, .bool true)], [(2, .box [.int .i64 a0, .int .i64 a1]), (3, .box [.int .i64 a2, .int .i64 a3]), (4, .box [.int .i64 0, .int .i64 0])]⟩) rfl ⟨hd2, (w_impl_IsValidRat a0 a1 v1 hk1), trivial⟩ rfl ?_
    refine Tri.run 2 [.g true] [.keep [4, 5] [4]] (K' := [.code [(1, 0), (1, 0)] 1, .code [] 2]) (σ' := ⟨[(4, .ptr 4 0), (5, .bool false)], [(4, .box [.int .i64 0, .int .i64 0])]⟩) rfl ⟨rfl, trivial⟩ rfl ?_
    have h := Option.some.inj h
    subst h
    exact Tri.ret rfl ⟨.inl rfl, rfl, rfl⟩
  · obtain ⟨v2, hk3, h⟩ := bind_some h
    refine Tri.run 1 [.r ⟨[], .bool v1, []⟩, .g false, .r ⟨[], .bool v2, []⟩] [.keep [2, 3, 4, 13] [2, 3, 4]] (K' := [.code [(1, 0)] 1, .code [] 2]) (σ' := ⟨[(2, .ptr 2 0), (3, .ptr 3 0), (4, .ptr 4 0), (13, .bool (!v2))], [(2, .box [.int .i64 a0, .int .i64 a1]), (3, .box [.int .i64 a2, .int .i64 a3]), (4, .box [.int .i64 0, .int .i64 0])]⟩) rfl ⟨(w_impl_IsValidRat a2 a3 v2 hk3), hd2, (w_impl_IsValidRat a0 a1 v1 hk1), trivial⟩ rfl ?_
    rcases bif_some h with ⟨hd4, h⟩ | ⟨hd4, h⟩
    · refine Tri.run 2 [.g true] [.keep [4, 5] [4]] (K' := [.code [(1, 0), (1, 0)] 1, .code [] 2]) (σ' := ⟨[(4, .ptr 4 0), (5, .bool false)], [(4, .box [.int .i64 0, .int .i64 0])]⟩) rfl ⟨hd4, trivial⟩ rfl ?_
      have h := Option.some.inj h
      subst h
      exact Tri.ret rfl ⟨.inl rfl, rfl, rfl⟩
    · obtain ⟨⟨v3, v4, v5⟩, hk5, h⟩ := bind_some h
      refine Tri.run 2 [.g false, .r ⟨[], .tuple [.agg [.int .i64 v3, .int .i64 v4], .bool v5], []⟩] [.keep [4, 5] [4]] (K' := [.code [] 3]) (σ' := ⟨[(4, .ptr 4 0), (5, .bool v5)], [(4, .box [.int .i64 v3, .int .i64 v4])]⟩) rfl ⟨(w_impl_RatOf (IntKind.i64.wrap (a0 * a3)) (IntKind.i64.wrap (a1 * a2)) (v3, v4, v5) hk5), hd4, trivial⟩ rfl ?_
      have h := Option.some.inj h
      subst h
      exact Tri.ret rfl ⟨.inl rfl, rfl, rfl⟩
/-! impl.LeavingRow -/
noncomputable def E36_impl_LeavingRow : Env := ⟨Try.prog, tys, (Try.f36.body).getD .skip, 87, tysOk, mixedOk⟩
abbrev q_impl_LeavingRow (r : Int) (σ' : ASt) : Prop := resAV E36_impl_LeavingRow.T σ' Try.f36.results.toList = some (.int .i64 r) ∧ keepO σ'.ob (namesO []) = []
noncomputable def l_impl_LeavingRow_0 (a0 : List (List Q)) (a1 : List Int) (a3 : Int) : (Int × Int × Int × Int) → Option ((Int × Int × Int × Int) ⊕ Int)
  | (v3, v4, v5, v6) => (
bif decide (v4 < (a0.length : Int)) then
(grd ((0 : Int) ≤ v4 ∧ v4 < (a0.length : Int)) <|
grd ((0 : Int) ≤ a3 ∧ a3 < ((a0.getD v4.toNat []).length : Int)) <|
(m_impl_sign (((a0.getD v4.toNat []).getD a3.toNat ⟨0, 0⟩).num) (((a0.getD v4.toNat []).getD a3.toNat ⟨0, 0⟩).den)).bind fun v7 =>
bif decide (v7 ≤ (0 : Int)) then
(some (.inl (v3, IntKind.i64.wrap (v4 + (1 : Int)), v5, v6)))
else
(grd ((0 : Int) ≤ IntKind.i64.wrap (((a0.getD v4.toNat []).length : Int) - (1 : Int)) ∧ IntKind.i64.wrap (((a0.getD v4.toNat []).length : Int) - (1 : Int)) < ((a0.getD v4.toNat []).length : Int)) <|
grd ((0 : Int) ≤ a3 ∧ a3 < ((a0.getD v4.toNat []).length : Int)) <|
(m_impl_DivRat (((a0.getD v4.toNat []).getD ((IntKind.i64.wrap (((a0.getD v4.toNat []).length : Int) - (1 : Int))).toNat) ⟨0, 0⟩).num) (((a0.getD v4.toNat []).getD ((IntKind.i64.wrap (((a0.getD v4.toNat []).length : Int) - (1 : Int))).toNat) ⟨0, 0⟩).den) (((a0.getD v4.toNat []).getD a3.toNat ⟨0, 0⟩).num) (((a0.getD v4.toNat []).getD a3.toNat ⟨0, 0⟩).den)).bind fun (v8, v9, v10) =>
bif !v10 then
(some (.inl (v3, IntKind.i64.wrap (v4 + (1 : Int)), v5, v6)))
else
((m_impl_CompareRat v8 v9 v5 v6).bind fun v11 =>
bif decide (v3 < (0 : Int)) then
(some (.inl (v4, IntKind.i64.wrap (v4 + (1 : Int)), v8, v9)))
else
(bif decide (v11 < (0 : Int)) then
(some (.inl (v4, IntKind.i64.wrap (v4 + (1 : Int)), v8, v9)))
else
(bif v11 == (0 : Int) then
(grd ((0 : Int) ≤ v4 ∧ v4 < (a1.length : Int)) <|
grd ((0 : Int) ≤ v3 ∧ v3 < (a1.length : Int)) <|
bif decide ((a1.getD v4.toNat 0) < (a1.getD v3.toNat 0)) then
(some (.inl (v4, IntKind.i64.wrap (v4 + (1 : Int)), v8, v9)))
else
(some (.inl (v3, IntKind.i64.wrap (v4 + (1 : Int)), v5, v6))))
else
(some (.inl (v3, IntKind.i64.wrap (v4 + (1 : Int)), v5, v6))))))))
else
(some (.inr v3)))
noncomputable def m_impl_LeavingRow (a0 : List (List Q)) (a1 : List Int) (a2 : Int) (a3 : Int) : Option Int :=
(m_impl_formed a0 a1 a2).bind fun v1 =>
bif !v1 then
(some (-1 : Int))
else
((m_impl_within a3 (0 : Int) (IntKind.i64.wrap ((IntKind.i64.wrap (a2 + (a0.length : Int))) - (1 : Int)))).bind fun v2 =>
bif !v2 then
(some (-1 : Int))
else
((iter (l_impl_LeavingRow_0 a0 a1 a3) ((-1 : Int), (0 : Int), 0, 0)).bind fun
| v12 => (
some v12)))
theorem w_impl_LeavingRow (a0 : List (List Q)) (a1 : List Int) (a2 : Int) (a3 : Int) (r : Int) (h : m_impl_LeavingRow a0 a1 a2 a3 = some r) : AM.Spec Try.prog 36 [.agg [.list (.ratss a0), .list (.ints a1), .int .i64 a2], .int .i64 a3] [] (.int .i64 r) [] := by
  refine spec_of (E := E36_impl_LeavingRow) Try.func36 rfl rfl rfl rfl ?_
  refine Tri.run 1 [] [.keep [1, 2] [2]] (K' := [.code [(1, 0), (0, 0)] 0, .code [(1, 0)] 1, .code [] 2]) (σ' := ⟨[(1, .int .i64 a3), (2, .ptr 2 0)], [(2, .box [.list (.ratss a0), .list (.ints a1), .int .i64 a2])]⟩) rfl trivial rfl ?_
  obtain ⟨v1, hk1, h⟩ := bind_some h
  rcases bif_some h with ⟨hd2, h⟩ | ⟨hd2, h⟩
  · refine Tri.run 1 [.r ⟨[], .bool v1, []⟩, .g true] [.keep [1, 2, 26] [2]] (K' := [.code [(1, 0)] 1, .code [] 2]) (σ' := ⟨[(1, .int .i64 a3), (2, .ptr 2 0), (26, .bool true)], [(2, .box [.list (.ratss a0), .list (.ints a1), .int .i64 a2])]⟩) rfl ⟨hd2, (w_impl_formed a0 a1 a2 v1 hk1), trivial⟩ rfl ?_
    refine Tri.run 2 [.g true] [.keep [4] []] (K' := [.code [(1, 0), (1, 0)] 1, .code [] 2]) (σ' := ⟨[(4, .int .i64 (-1 : Int))], []⟩) rfl ⟨rfl, trivial⟩ rfl ?_
    have h := Option.some.inj h
    subst h
    exact Tri.ret rfl ⟨.inl rfl, rfl, rfl⟩
  · obtain ⟨v2, hk3, h⟩ := bind_some h
    refine Tri.run 1 [.r ⟨[], .bool v1, []⟩, .g false, .r ⟨[], .bool v2, []⟩] [.keep [1, 2, 26] [2]] (K' := [.code [(1, 0)] 1, .code [] 2]) (σ' := ⟨[(1, .int .i64 a3), (2, .ptr 2 0), (26, .bool (!v2))], [(2, .box [.list (.ratss a0), .list (.ints a1), .int .i64 a2])]⟩) rfl ⟨(w_impl_within a3 (0 : Int) (IntKind.i64.wrap ((IntKind.i64.wrap (a2 + (a0.length : Int))) - (1 : Int))) v2 hk3), hd2, (w_impl_formed a0 a1 a2 v1 hk1), trivial⟩ rfl ?_
    rcases bif_some h with ⟨hd4, h⟩ | ⟨hd4, h⟩
    · refine Tri.run 2 [.g true] [.keep [4] []] (K' := [.code [(1, 0), (1, 0)] 1, .code [] 2]) (σ' := ⟨[(4, .int .i64 (-1 : Int))], []⟩) rfl ⟨hd4, trivial⟩ rfl ?_
      have h := Option.some.inj h
      subst h
      exact Tri.ret rfl ⟨.inl rfl, rfl, rfl⟩
    · refine Tri.run 3 [.g false] [.keep [1, 2, 5, 6] [2, 6]] (K' := [.code [(4, 0), (0, 0)] 0, .code [(4, 0)] 1, .code [] 5]) (σ' := ⟨[(1, .int .i64 a3), (2, .ptr 2 0), (5, .int .i64 (-1 : Int)), (6, .ptr 6 0)], [(2, .box [.list (.ratss a0), .list (.ints a1), .int .i64 a2]), (6, .box [.int .i64 0, .int .i64 0])]⟩) rfl ⟨hd4, trivial⟩ rfl ?_
      refine Tri.run 1 [] [.keep [1, 2, 5, 6, 28, 29, 30] [2, 6]] (K' := [.code [(4, 0), (1, 0)] 0, .blk 0, .code [] 5]) (σ' := ⟨[(1, .int .i64 a3), (2, .ptr 2 0), (5, .int .i64 (-1 : Int)), (6, .ptr 6 0), (28, .list (.ratss a0)), (29, .int .i64 (a0.length : Int)), (30, .int .i64 (0 : Int))], [(2, .box [.list (.ratss a0), .list (.ints a1), .int .i64 a2]), (6, .box [.int .i64 0, .int .i64 0])]⟩) rfl trivial rfl ?_
      obtain ⟨v12, hk21, h⟩ := bind_some h
      refine Tri.loop (K1 := [.code [(4, 0), (1, 0), (0, 0)] 0]) (K2 := [.blk 0, .code [] 5]) (fun (v3, v4, v5, v6) => ⟨[(1, .int .i64 a3), (2, .ptr 2 0), (5, .int .i64 v3), (6, .ptr 6 0), (28, .list (.ratss a0)), (29, .int .i64 (a0.length : Int)), (30, .int .i64 v4)], [(2, .box [.list (.ratss a0), .list (.ints a1), .int .i64 a2]), (6, .box [.int .i64 v5, .int .i64 v6])]⟩) (fun x e σ' => match x with | v12 => e = .exit 0 ∧ σ' = ⟨[(5, .int .i64 v12)], []⟩) hk21 rfl rfl ?_ ?_
      · intro s x hs
        clear h
        have h := hs
        clear hs
        obtain ⟨v3, v4, v5, v6⟩ := s
        refine Tri.run 1 [] [.keep [1, 2, 5, 6, 28, 29, 30, 31] [2, 6]] (K' := [.code [(4, 0), (1, 0), (0, 0), (1, 0)] 0, .code [(4, 0), (1, 0), (0, 0)] 2]) (σ' := ⟨[(1, .int .i64 a3), (2, .ptr 2 0), (5, .int .i64 v3), (6, .ptr 6 0), (28, .list (.ratss a0)), (29, .int .i64 (a0.length : Int)), (30, .int .i64 v4), (31, .bool (decide (v4 < (a0.length : Int))))], [(2, .box [.list (.ratss a0), .list (.ints a1), .int .i64 a2]), (6, .box [.int .i64 v5, .int .i64 v6])]⟩) rfl trivial rfl ?_
        rcases bif_some h with ⟨hd5, h⟩ | ⟨hd5, h⟩
        · obtain ⟨hg6, h⟩ := grd_some h
          refine Tri.run 2 [.g true] [.keep [1, 2, 5, 6, 7, 8, 28, 29, 30] [2, 6]] (K' := [.code [(4, 0), (1, 0), (0, 0), (2, 0), (0, 0), (1, 0), (0, 0)] 0, .code [(4, 0), (1, 0), (0, 0), (2, 0), (0, 0), (1, 0)] 1, .code [(4, 0), (1, 0), (0, 0), (2, 0), (0, 0)] 2, .blk 1, .code [(4, 0), (1, 0), (0, 0)] 3]) (σ' := ⟨[(1, .int .i64 a3), (2, .ptr 2 0), (5, .int .i64 v3), (6, .ptr 6 0), (7, .int .i64 v4), (8, .list (.rats (a0.getD v4.toNat []))), (28, .list (.ratss a0)), (29, .int .i64 (a0.length : Int)), (30, .int .i64 v4)], [(2, .box [.list (.ratss a0), .list (.ints a1), .int .i64 a2]), (6, .box [.int .i64 v5, .int .i64 v6])]⟩) rfl ⟨hg6, hd5, trivial⟩ rfl ?_
          obtain ⟨hg7, h⟩ := grd_some h
          obtain ⟨v7, hk8, h⟩ := bind_some h
          refine Tri.run 1 [.r ⟨[], .int .i64 v7, []⟩] [.keep [1, 2, 5, 6, 7, 8, 28, 29, 30, 40] [2, 6]] (K' := [.code [(4, 0), (1, 0), (0, 0), (2, 0), (0, 0), (1, 0)] 1, .code [(4, 0), (1, 0), (0, 0), (2, 0), (0, 0)] 2, .blk 1, .code [(4, 0), (1, 0), (0, 0)] 3]) (σ' := ⟨[(1, .int .i64 a3), (2, .ptr 2 0), (5, .int .i64 v3), (6, .ptr 6 0), (7, .int .i64 v4), (8, .list (.rats (a0.getD v4.toNat []))), (28, .list (.ratss a0)), (29, .int .i64 (a0.length : Int)), (30, .int .i64 v4), (40, .bool (decide (v7 ≤ (0 : Int))))], [(2, .box [.list (.ratss a0), .list (.ints a1), .int .i64 a2]), (6, .box [.int .i64 v5, .int .i64 v6])]⟩) rfl ⟨(w_impl_sign (((a0.getD v4.toNat []).getD a3.toNat ⟨0, 0⟩).num) (((a0.getD v4.toNat []).getD a3.toNat ⟨0, 0⟩).den) v7 hk8), hg7, trivial⟩ rfl ?_
          rcases bif_some h with ⟨hd9, h⟩ | ⟨hd9, h⟩
          · refine Tri.run 2 [.g true] [.keep [1, 2, 5, 6, 28, 29, 30] [2, 6]] (K' := []) (σ' := ⟨[(1, .int .i64 a3), (2, .ptr 2 0), (5, .int .i64 v3), (6, .ptr 6 0), (28, .list (.ratss a0)), (29, .int .i64 (a0.length : Int)), (30, .int .i64 (IntKind.i64.wrap (v4 + (1 : Int))))], [(2, .box [.list (.ratss a0), .list (.ints a1), .int .i64 a2]), (6, .box [.int .i64 v5, .int .i64 v6])]⟩) rfl ⟨hd9, trivial⟩ rfl ?_
            have h := Option.some.inj h
            subst h
            exact Tri.nil ⟨rfl, rfl⟩
          · obtain ⟨hg10, h⟩ := grd_some h
            obtain ⟨hg11, h⟩ := grd_some h
            obtain ⟨⟨v8, v9, v10⟩, hk12, h⟩ := bind_some h
            refine Tri.run 3 [.g false, .r ⟨[], .tuple [.agg [.int .i64 v8, .int .i64 v9], .bool v10], []⟩] [.keep [1, 2, 5, 6, 7, 9, 28, 29, 30, 56] [2, 6, 9]] (K' := [.code [(4, 0), (1, 0), (0, 0), (2, 0), (0, 0), (3, 0)] 1, .code [(4, 0), (1, 0), (0, 0), (2, 0), (0, 0)] 4, .blk 1, .code [(4, 0), (1, 0), (0, 0)] 3]) (σ' := ⟨[(1, .int .i64 a3), (2, .ptr 2 0), (5, .int .i64 v3), (6, .ptr 6 0), (7, .int .i64 v4), (9, .ptr 9 0), (28, .list (.ratss a0)), (29, .int .i64 (a0.length : Int)), (30, .int .i64 v4), (56, .bool (!v10))], [(2, .box [.list (.ratss a0), .list (.ints a1), .int .i64 a2]), (6, .box [.int .i64 v5, .int .i64 v6]), (9, .box [.int .i64 v8, .int .i64 v9])]⟩) rfl ⟨(w_impl_DivRat (((a0.getD v4.toNat []).getD ((IntKind.i64.wrap (((a0.getD v4.toNat []).length : Int) - (1 : Int))).toNat) ⟨0, 0⟩).num) (((a0.getD v4.toNat []).getD ((IntKind.i64.wrap (((a0.getD v4.toNat []).length : Int) - (1 : Int))).toNat) ⟨0, 0⟩).den) (((a0.getD v4.toNat []).getD a3.toNat ⟨0, 0⟩).num) (((a0.getD v4.toNat []).getD a3.toNat ⟨0, 0⟩).den) (v8, v9, v10) hk12), hg11, hg10, hd9, trivial⟩ rfl ?_
            rcases bif_some h with ⟨hd13, h⟩ | ⟨hd13, h⟩
            · refine Tri.run 2 [.g true] [.keep [1, 2, 5, 6, 28, 29, 30] [2, 6]] (K' := []) (σ' := ⟨[(1, .int .i64 a3), (2, .ptr 2 0), (5, .int .i64 v3), (6, .ptr 6 0), (28, .list (.ratss a0)), (29, .int .i64 (a0.length : Int)), (30, .int .i64 (IntKind.i64.wrap (v4 + (1 : Int))))], [(2, .box [.list (.ratss a0), .list (.ints a1), .int .i64 a2]), (6, .box [.int .i64 v5, .int .i64 v6])]⟩) rfl ⟨hd13, trivial⟩ rfl ?_
              have h := Option.some.inj h
              subst h
              exact Tri.nil ⟨rfl, rfl⟩
            · obtain ⟨v11, hk14, h⟩ := bind_some h
              refine Tri.run 2 [.g false, .r ⟨[], .int .i64 v11, []⟩] [.keep [1, 2, 5, 6, 7, 9, 11, 28, 29, 30] [2, 6, 9]] (K' := [.code [(4, 0), (1, 0), (0, 0), (2, 0), (0, 0), (5, 0)] 0, .code [(4, 0), (1, 0), (0, 0), (2, 0), (0, 0)] 6, .blk 1, .code [(4, 0), (1, 0), (0, 0)] 3]) (σ' := ⟨[(1, .int .i64 a3), (2, .ptr 2 0), (5, .int .i64 v3), (6, .ptr 6 0), (7, .int .i64 v4), (9, .ptr 9 0), (11, .int .i64 v11), (28, .list (.ratss a0)), (29, .int .i64 (a0.length : Int)), (30, .int .i64 v4)], [(2, .box [.list (.ratss a0), .list (.ints a1), .int .i64 a2]), (6, .box [.int .i64 v5, .int .i64 v6]), (9, .box [.int .i64 v8, .int .i64 v9])]⟩) rfl ⟨(w_impl_CompareRat v8 v9 v5 v6 v11 hk14), hd13, trivial⟩ rfl ?_
              rcases bif_some h with ⟨hd15, h⟩ | ⟨hd15, h⟩
              · refine Tri.run 1 [.g true, .g true] [.keep [1, 2, 5, 6, 7, 9, 28, 29, 30, 82] [2, 6, 9]] (K' := [.code [(4, 0), (1, 0), (0, 0), (2, 0), (0, 0)] 6, .blk 1, .code [(4, 0), (1, 0), (0, 0)] 3]) (σ' := ⟨[(1, .int .i64 a3), (2, .ptr 2 0), (5, .int .i64 v3), (6, .ptr 6 0), (7, .int .i64 v4), (9, .ptr 9 0), (28, .list (.ratss a0)), (29, .int .i64 (a0.length : Int)), (30, .int .i64 v4), (82, .bool true)], [(2, .box [.list (.ratss a0), .list (.ints a1), .int .i64 a2]), (6, .box [.int .i64 v5, .int .i64 v6]), (9, .box [.int .i64 v8, .int .i64 v9])]⟩) rfl ⟨rfl, hd15, trivial⟩ rfl ?_
                refine Tri.run 3 [.g true] [.keep [1, 2, 5, 6, 28, 29, 30] [2, 6]] (K' := []) (σ' := ⟨[(1, .int .i64 a3), (2, .ptr 2 0), (5, .int .i64 v4), (6, .ptr 6 0), (28, .list (.ratss a0)), (29, .int .i64 (a0.length : Int)), (30, .int .i64 (IntKind.i64.wrap (v4 + (1 : Int))))], [(2, .box [.list (.ratss a0), .list (.ints a1), .int .i64 a2]), (6, .box [.int .i64 v8, .int .i64 v9])]⟩) rfl ⟨rfl, trivial⟩ rfl ?_
                have h := Option.some.inj h
                subst h
                exact Tri.nil ⟨rfl, rfl⟩
              · rcases bif_some h with ⟨hd16, h⟩ | ⟨hd16, h⟩
                · refine Tri.run 1 [.g false, .g true] [.keep [1, 2, 5, 6, 7, 9, 28, 29, 30, 82] [2, 6, 9]] (K' := [.code [(4, 0), (1, 0), (0, 0), (2, 0), (0, 0)] 6, .blk 1, .code [(4, 0), (1, 0), (0, 0)] 3]) (σ' := ⟨[(1, .int .i64 a3), (2, .ptr 2 0), (5, .int .i64 v3), (6, .ptr 6 0), (7, .int .i64 v4), (9, .ptr 9 0), (28, .list (.ratss a0)), (29, .int .i64 (a0.length : Int)), (30, .int .i64 v4), (82, .bool true)], [(2, .box [.list (.ratss a0), .list (.ints a1), .int .i64 a2]), (6, .box [.int .i64 v5, .int .i64 v6]), (9, .box [.int .i64 v8, .int .i64 v9])]⟩) rfl ⟨hd16, hd15, trivial⟩ rfl ?_
                  refine Tri.run 3 [.g true] [.keep [1, 2, 5, 6, 28, 29, 30] [2, 6]] (K' := []) (σ' := ⟨[(1, .int .i64 a3), (2, .ptr 2 0), (5, .int .i64 v4), (6, .ptr 6 0), (28, .list (.ratss a0)), (29, .int .i64 (a0.length : Int)), (30, .int .i64 (IntKind.i64.wrap (v4 + (1 : Int))))], [(2, .box [.list (.ratss a0), .list (.ints a1), .int .i64 a2]), (6, .box [.int .i64 v8, .int .i64 v9])]⟩) rfl ⟨rfl, trivial⟩ rfl ?_
                  have h := Option.some.inj h
                  subst h
                  exact Tri.nil ⟨rfl, rfl⟩
                · rcases bif_some h with ⟨hd17, h⟩ | ⟨hd17, h⟩
                  · obtain ⟨hg18, h⟩ := grd_some h
                    obtain ⟨hg19, h⟩ := grd_some h
                    refine Tri.run 1 [.g false, .g false, .g true] [.keep [1, 2, 5, 6, 7, 9, 28, 29, 30, 82] [2, 6, 9]] (K' := [.code [(4, 0), (1, 0), (0, 0), (2, 0), (0, 0)] 6, .blk 1, .code [(4, 0), (1, 0), (0, 0)] 3]) (σ' := ⟨[(1, .int .i64 a3), (2, .ptr 2 0), (5, .int .i64 v3), (6, .ptr 6 0), (7, .int .i64 v4), (9, .ptr 9 0), (28, .list (.ratss a0)), (29, .int .i64 (a0.length : Int)), (30, .int .i64 v4), (82, .bool (decide ((a1.getD v4.toNat 0) < (a1.getD v3.toNat 0))))], [(2, .box [.list (.ratss a0), .list (.ints a1), .int .i64 a2]), (6, .box [.int .i64 v5, .int .i64 v6]), (9, .box [.int .i64 v8, .int .i64 v9])]⟩) rfl ⟨hg19, hg18, hd17, hd16, hd15, trivial⟩ rfl ?_
                    rcases bif_some h with ⟨hd20, h⟩ | ⟨hd20, h⟩
                    · refine Tri.run 3 [.g true] [.keep [1, 2, 5, 6, 28, 29, 30] [2, 6]] (K' := []) (σ' := ⟨[(1, .int .i64 a3), (2, .ptr 2 0), (5, .int .i64 v4), (6, .ptr 6 0), (28, .list (.ratss a0)), (29, .int .i64 (a0.length : Int)), (30, .int .i64 (IntKind.i64.wrap (v4 + (1 : Int))))], [(2, .box [.list (.ratss a0), .list (.ints a1), .int .i64 a2]), (6, .box [.int .i64 v8, .int .i64 v9])]⟩) rfl ⟨hd20, trivial⟩ rfl ?_
                      have h := Option.some.inj h
                      subst h
                      exact Tri.nil ⟨rfl, rfl⟩
                    · refine Tri.run 2 [.g false] [.keep [1, 2, 5, 6, 28, 29, 30] [2, 6]] (K' := []) (σ' := ⟨[(1, .int .i64 a3), (2, .ptr 2 0), (5, .int .i64 v3), (6, .ptr 6 0), (28, .list (.ratss a0)), (29, .int .i64 (a0.length : Int)), (30, .int .i64 (IntKind.i64.wrap (v4 + (1 : Int))))], [(2, .box [.list (.ratss a0), .list (.ints a1), .int .i64 a2]), (6, .box [.int .i64 v5, .int .i64 v6])]⟩) rfl ⟨hd20, trivial⟩ rfl ?_
                      have h := Option.some.inj h
                      subst h
                      exact Tri.nil ⟨rfl, rfl⟩
                  · refine Tri.run 1 [.g false, .g false, .g false] [.keep [1, 2, 5, 6, 7, 9, 28, 29, 30, 82] [2, 6, 9]] (K' := [.code [(4, 0), (1, 0), (0, 0), (2, 0), (0, 0)] 6, .blk 1, .code [(4, 0), (1, 0), (0, 0)] 3]) (σ' := ⟨[(1, .int .i64 a3), (2, .ptr 2 0), (5, .int .i64 v3), (6, .ptr 6 0), (7, .int .i64 v4), (9, .ptr 9 0), (28, .list (.ratss a0)), (29, .int .i64 (a0.length : Int)), (30, .int .i64 v4), (82, .bool false)], [(2, .box [.list (.ratss a0), .list (.ints a1), .int .i64 a2]), (6, .box [.int .i64 v5, .int .i64 v6]), (9, .box [.int .i64 v8, .int .i64 v9])]⟩) rfl ⟨hd17, hd16, hd15, trivial⟩ rfl ?_
                    refine Tri.run 2 [.g false] [.keep [1, 2, 5, 6, 28, 29, 30] [2, 6]] (K' := []) (σ' := ⟨[(1, .int .i64 a3), (2, .ptr 2 0), (5, .int .i64 v3), (6, .ptr 6 0), (28, .list (.ratss a0)), (29, .int .i64 (a0.length : Int)), (30, .int .i64 (IntKind.i64.wrap (v4 + (1 : Int))))], [(2, .box [.list (.ratss a0), .list (.ints a1), .int .i64 a2]), (6, .box [.int .i64 v5, .int .i64 v6])]⟩) rfl ⟨rfl, trivial⟩ rfl ?_
                    have h := Option.some.inj h
                    subst h
                    exact Tri.nil ⟨rfl, rfl⟩
        · refine Tri.run 1 [.g false] [.keep [5] []] (K' := [.code [(4, 0), (1, 0), (0, 0), (1, 0), (0, 1)] 0, .code [(4, 0), (1, 0), (0, 0)] 2]) (σ' := ⟨[(5, .int .i64 v3)], []⟩) rfl ⟨hd5, trivial⟩ rfl ?_
          have h := Option.some.inj h
          subst h
          exact Tri.out 0 rfl ⟨nofun, rfl, rfl⟩
      · intro e σ' hne hq
        obtain ⟨rfl, rfl⟩ := hq
        refine TriX.exit (K' := [.code [] 5]) rfl ?_
        refine Tri.run 1 [] [.keep [4] []] (K' := [.code [] 6]) (σ' := ⟨[(4, .int .i64 v12)], []⟩) rfl trivial rfl ?_
        have h := Option.some.inj h
        subst h
        exact Tri.ret rfl ⟨.inl rfl, rfl, rfl⟩
/-! laws.eqRat -/
noncomputable def E21_laws_eqRat : Env := ⟨Try.prog, tys, (Try.f21.body).getD .skip, 15, tysOk, mixedOk⟩
abbrev q_laws_eqRat (r : Bool) (σ' : ASt) : Prop := resAV E21_laws_eqRat.T σ' Try.f21.results.toList = some (.bool r) ∧ keepO σ'.ob (namesO []) = []
noncomputable def m_laws_eqRat (a0 : Int) (a1 : Int) (a2 : Int) (a3 : Int) : Option Bool :=
bif a0 != a2 then
(some false)
else
(bif a1 != a3 then
(some false)
else
(some true))
theorem w_laws_eqRat (a0 : Int) (a1 : Int) (a2 : Int) (a3 : Int) (r : Bool) (h : m_laws_eqRat a0 a1 a2 a3 = some r) : AM.Spec Try.prog 21 [.agg [.int .i64 a0, .int .i64 a1], .agg [.int .i64 a2, .int .i64 a3]] [] (.bool r) [] := by
  refine spec_of (E := E21_laws_eqRat) Try.func21 rfl rfl rfl rfl ?_
  refine Tri.run 2 [] [.keep [2, 3, 9] [2, 3]] (K' := [.code [(1, 0)] 1, .code [] 2]) (σ' := ⟨[(2, .ptr 2 0), (3, .ptr 3 0), (9, .bool (a0 != a2))], [(2, .box [.int .i64 a0, .int .i64 a1]), (3, .box [.int .i64 a2, .int .i64 a3])]⟩) rfl trivial rfl ?_
  rcases bif_some h with ⟨hd1, h⟩ | ⟨hd1, h⟩
  · refine Tri.run 2 [.g true] [.keep [4] []] (K' := [.code [(1, 0), (1, 0)] 1, .code [] 2]) (σ' := ⟨[(4, .bool false)], []⟩) rfl ⟨hd1, trivial⟩ rfl ?_
    have h := Option.some.inj h
    subst h
    exact Tri.ret rfl ⟨.inl rfl, rfl, rfl⟩
  · refine Tri.run 2 [.g false] [.keep [14] []] (K' := [.code [(2, 0)] 1, .code [] 3]) (σ' := ⟨[(14, .bool (a1 != a3))], []⟩) rfl ⟨hd1, trivial⟩ rfl ?_
    rcases bif_some h with ⟨hd2, h⟩ | ⟨hd2, h⟩
    · refine Tri.run 2 [.g true] [.keep [4] []] (K' := [.code [(2, 0), (1, 0)] 1, .code [] 3]) (σ' := ⟨[(4, .bool false)], []⟩) rfl ⟨hd2, trivial⟩ rfl ?_
      have h := Option.some.inj h
      subst h
      exact Tri.ret rfl ⟨.inl rfl, rfl, rfl⟩
    · refine Tri.run 2 [.g false] [.keep [4] []] (K' := [.code [] 4]) (σ' := ⟨[(4, .bool true)], []⟩) rfl ⟨hd2, trivial⟩ rfl ?_
      have h := Option.some.inj h
      subst h
      exact Tri.ret rfl ⟨.inl rfl, rfl, rfl⟩
/-! laws.eqRatS -/
noncomputable def E23_laws_eqRatS : Env := ⟨Try.prog, tys, (Try.f23.body).getD .skip, 27, tysOk, mixedOk⟩
abbrev q_laws_eqRatS (r : Bool) (σ' : ASt) : Prop := resAV E23_laws_eqRatS.T σ' Try.f23.results.toList = some (.bool r) ∧ keepO σ'.ob (namesO []) = []
noncomputable def l_laws_eqRatS_0 (a0 : List Q) (a1 : List Q) (v1 : Int) : Option (Int ⊕ (Unit ⊕ Bool)) :=
bif decide (v1 < (a0.length : Int)) then
(grd ((0 : Int) ≤ v1 ∧ v1 < (a0.length : Int)) <|
grd ((0 : Int) ≤ v1 ∧ v1 < (a1.length : Int)) <|
(m_laws_eqRat ((a0.getD v1.toNat ⟨0, 0⟩).num) ((a0.getD v1.toNat ⟨0, 0⟩).den) ((a1.getD v1.toNat ⟨0, 0⟩).num) ((a1.getD v1.toNat ⟨0, 0⟩).den)).bind fun v2 =>
bif !v2 then
(some (.inr (.inr false)))
else
(some (.inl (IntKind.i64.wrap (v1 + (1 : Int))))))
else
(some (.inr (.inl ())))
noncomputable def m_laws_eqRatS (a0 : List Q) (a1 : List Q) : Option Bool :=
bif (a0.length : Int) != (a1.length : Int) then
(some false)
else
((iter (l_laws_eqRatS_0 a0 a1) (0 : Int)).bind fun
| (.inl _) => (
some true)
| (.inr r) => some r)
theorem w_laws_eqRatS (a0 : List Q) (a1 : List Q) (r : Bool) (h : m_laws_eqRatS a0 a1 = some r) : AM.Spec Try.prog 23 [.list (.rats a0), .list (.rats a1)] [] (.bool r) [] := by
  refine spec_of (E := E23_laws_eqRatS) Try.func23 rfl rfl rfl rfl ?_
  refine Tri.run 2 [] [.keep [0, 1, 10] []] (K' := [.code [(1, 0)] 1, .code [] 2]) (σ' := ⟨[(0, .list (.rats a0)), (1, .list (.rats a1)), (10, .bool ((a0.length : Int) != (a1.length : Int)))], []⟩) rfl trivial rfl ?_
  rcases bif_some h with ⟨hd1, h⟩ | ⟨hd1, h⟩
  · refine Tri.run 2 [.g true] [.keep [4] []] (K' := [.code [(1, 0), (1, 0)] 1, .code [] 2]) (σ' := ⟨[(4, .bool false)], []⟩) rfl ⟨hd1, trivial⟩ rfl ?_
    have h := Option.some.inj h
    subst h
    exact Tri.ret rfl ⟨.inl rfl, rfl, rfl⟩
  · refine Tri.run 2 [.g false] [.keep [0, 1, 5] []] (K' := [.code [(2, 0), (1, 0)] 0, .blk 0, .code [] 3]) (σ' := ⟨[(0, .list (.rats a0)), (1, .list (.rats a1)), (5, .int .i64 (0 : Int))], []⟩) rfl ⟨hd1, trivial⟩ rfl ?_
    obtain ⟨x1, hk7, h⟩ := bind_some h
    refine Tri.loop (K1 := [.code [(2, 0), (1, 0), (0, 0)] 0]) (K2 := [.blk 0, .code [] 3]) (fun v1 => ⟨[(0, .list (.rats a0)), (1, .list (.rats a1)), (5, .int .i64 v1)], []⟩) (fun x e σ' => match x with | (.inl _) => e = .exit 0 ∧ σ' = ⟨[], []⟩ | (.inr r) => e = .ret ∧ q_laws_eqRatS r σ') hk7 rfl rfl ?_ ?_
    · intro v1 x hs
      clear h
      have h := hs
      clear hs
      refine Tri.run 1 [] [.keep [0, 1, 5, 14] []] (K' := [.code [(2, 0), (1, 0), (0, 0), (0, 0)] 1, .code [(2, 0), (1, 0), (0, 0)] 1]) (σ' := ⟨[(0, .list (.rats a0)), (1, .list (.rats a1)), (5, .int .i64 v1), (14, .bool (decide (v1 < (a0.length : Int))))], []⟩) rfl trivial rfl ?_
      rcases bif_some h with ⟨hd2, h⟩ | ⟨hd2, h⟩
      · obtain ⟨hg3, h⟩ := grd_some h
        obtain ⟨hg4, h⟩ := grd_some h
        obtain ⟨v2, hk5, h⟩ := bind_some h
        refine Tri.run 2 [.g true, .r ⟨[], .bool v2, []⟩] [.keep [0, 1, 5, 26] []] (K' := [.code [(2, 0), (1, 0), (0, 0), (1, 0), (0, 0)] 1, .blk 1, .code [(2, 0), (1, 0), (0, 0)] 2]) (σ' := ⟨[(0, .list (.rats a0)), (1, .list (.rats a1)), (5, .int .i64 v1), (26, .bool (!v2))], []⟩) rfl ⟨(w_laws_eqRat ((a0.getD v1.toNat ⟨0, 0⟩).num) ((a0.getD v1.toNat ⟨0, 0⟩).den) ((a1.getD v1.toNat ⟨0, 0⟩).num) ((a1.getD v1.toNat ⟨0, 0⟩).den) v2 hk5), hg4, hg3, hd2, trivial⟩ rfl ?_
        rcases bif_some h with ⟨hd6, h⟩ | ⟨hd6, h⟩
        · refine Tri.run 2 [.g true] [.keep [4] []] (K' := [.code [(2, 0), (1, 0), (0, 0), (1, 0), (0, 0), (1, 0)] 1, .blk 1, .code [(2, 0), (1, 0), (0, 0)] 2]) (σ' := ⟨[(4, .bool false)], []⟩) rfl ⟨hd6, trivial⟩ rfl ?_
          have h := Option.some.inj h
          subst h
          exact Tri.ret rfl ⟨nofun, rfl, rfl, rfl⟩
        · refine Tri.run 2 [.g false] [.keep [0, 1, 5] []] (K' := []) (σ' := ⟨[(0, .list (.rats a0)), (1, .list (.rats a1)), (5, .int .i64 (IntKind.i64.wrap (v1 + (1 : Int))))], []⟩) rfl ⟨hd6, trivial⟩ rfl ?_
          have h := Option.some.inj h
          subst h
          exact Tri.nil ⟨rfl, rfl⟩
      · refine Tri.run 1 [.g false] [.keep [] []] (K' := [.code [(2, 0), (1, 0), (0, 0), (0, 0), (1, 1)] 0, .code [(2, 0), (1, 0), (0, 0)] 1]) (σ' := ⟨[], []⟩) rfl ⟨hd2, trivial⟩ rfl ?_
        have h := Option.some.inj h
        subst h
        exact Tri.out 0 rfl ⟨nofun, rfl, rfl⟩
    · intro e σ' hne hq
      rcases x1 with _ | r
      · obtain ⟨rfl, rfl⟩ := hq
        refine TriX.exit (K' := [.code [] 3]) rfl ?_
        refine Tri.run 1 [] [.keep [4] []] (K' := [.code [] 4]) (σ' := ⟨[(4, .bool true)], []⟩) rfl trivial rfl ?_
        have h := Option.some.inj h
        subst h
        exact Tri.ret rfl ⟨.inl rfl, rfl, rfl⟩
      · obtain ⟨rfl, hq⟩ := hq
        have h := Option.some.inj h
        subst h
        exact TriX.ret ⟨.inl rfl, hq⟩
/-! laws.eqRatSS -/
noncomputable def E104_laws_eqRatSS : Env := ⟨Try.prog, tys, (Try.f104.body).getD .skip, 27, tysOk, mixedOk⟩
abbrev q_laws_eqRatSS (r : Bool) (σ' : ASt) : Prop := resAV E104_laws_eqRatSS.T σ' Try.f104.results.toList = some (.bool r) ∧ keepO σ'.ob (namesO []) = []
noncomputable def l_laws_eqRatSS_0 (a0 : List (List Q)) (a1 : List (List Q)) (v1 : Int) : Option (Int ⊕ (Unit ⊕ Bool)) :=
bif decide (v1 < (a0.length : Int)) then
(grd ((0 : Int) ≤ v1 ∧ v1 < (a0.length : Int)) <|
grd ((0 : Int) ≤ v1 ∧ v1 < (a1.length : Int)) <|
(m_laws_eqRatS (a0.getD v1.toNat []) (a1.getD v1.toNat [])).bind fun v2 =>
bif !v2 then
(some (.inr (.inr false)))
else
(some (.inl (IntKind.i64.wrap (v1 + (1 : Int))))))
else
(some (.inr (.inl ())))
noncomputable def m_laws_eqRatSS (a0 : List (List Q)) (a1 : List (List Q)) : Option Bool :=
bif (a0.length : Int) != (a1.length : Int) then
(some false)
else
((iter (l_laws_eqRatSS_0 a0 a1) (0 : Int)).bind fun
| (.inl _) => (
some true)
| (.inr r) => some r)
theorem w_laws_eqRatSS (a0 : List (List Q)) (a1 : List (List Q)) (r : Bool) (h : m_laws_eqRatSS a0 a1 = some r) : AM.Spec Try.prog 104 [.list (.ratss a0), .list (.ratss a1)] [] (.bool r) [] := by
  refine spec_of (E := E104_laws_eqRatSS) Try.func104 rfl rfl rfl rfl ?_
  refine Tri.run 2 [] [.keep [0, 1, 10] []] (K' := [.code [(1, 0)] 1, .code [] 2]) (σ' := ⟨[(0, .list (.ratss a0)), (1, .list (.ratss a1)), (10, .bool ((a0.length : Int) != (a1.length : Int)))], []⟩) rfl trivial rfl ?_
  rcases bif_some h with ⟨hd1, h⟩ | ⟨hd1, h⟩
  · refine Tri.run 2 [.g true] [.keep [4] []] (K' := [.code [(1, 0), (1, 0)] 1, .code [] 2]) (σ' := ⟨[(4, .bool false)], []⟩) rfl ⟨hd1, trivial⟩ rfl ?_
    have h := Option.some.inj h
    subst h
    exact Tri.ret rfl ⟨.inl rfl, rfl, rfl⟩
  · refine Tri.run 2 [.g false] [.keep [0, 1, 5] []] (K' := [.code [(2, 0), (1, 0)] 0, .blk 0, .code [] 3]) (σ' := ⟨[(0, .list (.ratss a0)), (1, .list (.ratss a1)), (5, .int .i64 (0 : Int))], []⟩) rfl ⟨hd1, trivial⟩ rfl ?_
    obtain ⟨x1, hk7, h⟩ := bind_some h
    refine Tri.loop (K1 := [.code [(2, 0), (1, 0), (0, 0)] 0]) (K2 := [.blk 0, .code [] 3]) (fun v1 => ⟨[(0, .list (.ratss a0)), (1, .list (.ratss a1)), (5, .int .i64 v1)], []⟩) (fun x e σ' => match x with | (.inl _) => e = .exit 0 ∧ σ' = ⟨[], []⟩ | (.inr r) => e = .ret ∧ q_laws_eqRatSS r σ') hk7 rfl rfl ?_ ?_
    · intro v1 x hs
      clear h
      have h := hs
      clear hs
      refine Tri.run 1 [] [.keep [0, 1, 5, 14] []] (K' := [.code [(2, 0), (1, 0), (0, 0), (0, 0)] 1, .code [(2, 0), (1, 0), (0, 0)] 1]) (σ' := ⟨[(0, .list (.ratss a0)), (1, .list (.ratss a1)), (5, .int .i64 v1), (14, .bool (decide (v1 < (a0.length : Int))))], []⟩) rfl trivial rfl ?_
      rcases bif_some h with ⟨hd2, h⟩ | ⟨hd2, h⟩
      · obtain ⟨hg3, h⟩ := grd_some h
        obtain ⟨hg4, h⟩ := grd_some h
        obtain ⟨v2, hk5, h⟩ := bind_some h
        refine Tri.run 2 [.g true, .r ⟨[], .bool v2, []⟩] [.keep [0, 1, 5, 26] []] (K' := [.code [(2, 0), (1, 0), (0, 0), (1, 0), (0, 0)] 1, .blk 1, .code [(2, 0), (1, 0), (0, 0)] 2]) (σ' := ⟨[(0, .list (.ratss a0)), (1, .list (.ratss a1)), (5, .int .i64 v1), (26, .bool (!v2))], []⟩) rfl ⟨(w_laws_eqRatS (a0.getD v1.toNat []) (a1.getD v1.toNat []) v2 hk5), hg4, hg3, hd2, trivial⟩ rfl ?_
        rcases bif_some h with ⟨hd6, h⟩ | ⟨hd6, h⟩
        · refine Tri.run 2 [.g true] [.keep [4] []] (K' := [.code [(2, 0), (1, 0), (0, 0), (1, 0), (0, 0), (1, 0)] 1, .blk 1, .code [(2, 0), (1, 0), (0, 0)] 2]) (σ' := ⟨[(4, .bool false)], []⟩) rfl ⟨hd6, trivial⟩ rfl ?_
          have h := Option.some.inj h
          subst h
          exact Tri.ret rfl ⟨nofun, rfl, rfl, rfl⟩
        · refine Tri.run 2 [.g false] [.keep [0, 1, 5] []] (K' := []) (σ' := ⟨[(0, .list (.ratss a0)), (1, .list (.ratss a1)), (5, .int .i64 (IntKind.i64.wrap (v1 + (1 : Int))))], []⟩) rfl ⟨hd6, trivial⟩ rfl ?_
          have h := Option.some.inj h
          subst h
          exact Tri.nil ⟨rfl, rfl⟩
      · refine Tri.run 1 [.g false] [.keep [] []] (K' := [.code [(2, 0), (1, 0), (0, 0), (0, 0), (1, 1)] 0, .code [(2, 0), (1, 0), (0, 0)] 1]) (σ' := ⟨[], []⟩) rfl ⟨hd2, trivial⟩ rfl ?_
        have h := Option.some.inj h
        subst h
        exact Tri.out 0 rfl ⟨nofun, rfl, rfl⟩
    · intro e σ' hne hq
      rcases x1 with _ | r
      · obtain ⟨rfl, rfl⟩ := hq
        refine TriX.exit (K' := [.code [] 3]) rfl ?_
        refine Tri.run 1 [] [.keep [4] []] (K' := [.code [] 4]) (σ' := ⟨[(4, .bool true)], []⟩) rfl trivial rfl ?_
        have h := Option.some.inj h
        subst h
        exact Tri.ret rfl ⟨.inl rfl, rfl, rfl⟩
      · obtain ⟨rfl, hq⟩ := hq
        have h := Option.some.inj h
        subst h
        exact TriX.ret ⟨.inl rfl, hq⟩
/-! laws.eqIntS -/
noncomputable def E49_laws_eqIntS : Env := ⟨Try.prog, tys, (Try.f49.body).getD .skip, 26, tysOk, mixedOk⟩
abbrev q_laws_eqIntS (r : Bool) (σ' : ASt) : Prop := resAV E49_laws_eqIntS.T σ' Try.f49.results.toList = some (.bool r) ∧ keepO σ'.ob (namesO []) = []
noncomputable def l_laws_eqIntS_0 (a0 : List Int) (a1 : List Int) (v1 : Int) : Option (Int ⊕ (Unit ⊕ Bool)) :=
bif decide (v1 < (a0.length : Int)) then
(grd ((0 : Int) ≤ v1 ∧ v1 < (a0.length : Int)) <|
grd ((0 : Int) ≤ v1 ∧ v1 < (a1.length : Int)) <|
bif (a0.getD v1.toNat 0) != (a1.getD v1.toNat 0) then
(some (.inr (.inr false)))
else
(some (.inl (IntKind.i64.wrap (v1 + (1 : Int))))))
else
(some (.inr (.inl ())))
noncomputable def m_laws_eqIntS (a0 : List Int) (a1 : List Int) : Option Bool :=
bif (a0.length : Int) != (a1.length : Int) then
(some false)
else
((iter (l_laws_eqIntS_0 a0 a1) (0 : Int)).bind fun
| (.inl _) => (
some true)
| (.inr r) => some r)
theorem w_laws_eqIntS (a0 : List Int) (a1 : List Int) (r : Bool) (h : m_laws_eqIntS a0 a1 = some r) : AM.Spec Try.prog 49 [.list (.ints a0), .list (.ints a1)] [] (.bool r) [] := by
  refine spec_of (E := E49_laws_eqIntS) Try.func49 rfl rfl rfl rfl ?_
  refine Tri.run 2 [] [.keep [0, 1, 10] []] (K' := [.code [(1, 0)] 1, .code [] 2]) (σ' := ⟨[(0, .list (.ints a0)), (1, .list (.ints a1)), (10, .bool ((a0.length : Int) != (a1.length : Int)))], []⟩) rfl trivial rfl ?_
  rcases bif_some h with ⟨hd1, h⟩ | ⟨hd1, h⟩
  · refine Tri.run 2 [.g true] [.keep [4] []] (K' := [.code [(1, 0), (1, 0)] 1, .code [] 2]) (σ' := ⟨[(4, .bool false)], []⟩) rfl ⟨hd1, trivial⟩ rfl ?_
    have h := Option.some.inj h
    subst h
    exact Tri.ret rfl ⟨.inl rfl, rfl, rfl⟩
  · refine Tri.run 2 [.g false] [.keep [0, 1, 5] []] (K' := [.code [(2, 0), (1, 0)] 0, .blk 0, .code [] 3]) (σ' := ⟨[(0, .list (.ints a0)), (1, .list (.ints a1)), (5, .int .i64 (0 : Int))], []⟩) rfl ⟨hd1, trivial⟩ rfl ?_
    obtain ⟨x1, hk6, h⟩ := bind_some h
    refine Tri.loop (K1 := [.code [(2, 0), (1, 0), (0, 0)] 0]) (K2 := [.blk 0, .code [] 3]) (fun v1 => ⟨[(0, .list (.ints a0)), (1, .list (.ints a1)), (5, .int .i64 v1)], []⟩) (fun x e σ' => match x with | (.inl _) => e = .exit 0 ∧ σ' = ⟨[], []⟩ | (.inr r) => e = .ret ∧ q_laws_eqIntS r σ') hk6 rfl rfl ?_ ?_
    · intro v1 x hs
      clear h
      have h := hs
      clear hs
      refine Tri.run 1 [] [.keep [0, 1, 5, 14] []] (K' := [.code [(2, 0), (1, 0), (0, 0), (0, 0)] 1, .code [(2, 0), (1, 0), (0, 0)] 1]) (σ' := ⟨[(0, .list (.ints a0)), (1, .list (.ints a1)), (5, .int .i64 v1), (14, .bool (decide (v1 < (a0.length : Int))))], []⟩) rfl trivial rfl ?_
      rcases bif_some h with ⟨hd2, h⟩ | ⟨hd2, h⟩
      · obtain ⟨hg3, h⟩ := grd_some h
        obtain ⟨hg4, h⟩ := grd_some h
        refine Tri.run 2 [.g true] [.keep [0, 1, 5, 25] []] (K' := [.code [(2, 0), (1, 0), (0, 0), (1, 0), (0, 0)] 1, .blk 1, .code [(2, 0), (1, 0), (0, 0)] 2]) (σ' := ⟨[(0, .list (.ints a0)), (1, .list (.ints a1)), (5, .int .i64 v1), (25, .bool ((a0.getD v1.toNat 0) != (a1.getD v1.toNat 0)))], []⟩) rfl ⟨hg4, hg3, hd2, trivial⟩ rfl ?_
        rcases bif_some h with ⟨hd5, h⟩ | ⟨hd5, h⟩
        · refine Tri.run 2 [.g true] [.keep [4] []] (K' := [.code [(2, 0), (1, 0), (0, 0), (1, 0), (0, 0), (1, 0)] 1, .blk 1, .code [(2, 0), (1, 0), (0, 0)] 2]) (σ' := ⟨[(4, .bool false)], []⟩) rfl ⟨hd5, trivial⟩ rfl ?_
          have h := Option.some.inj h
          subst h
          exact Tri.ret rfl ⟨nofun, rfl, rfl, rfl⟩
        · refine Tri.run 2 [.g false] [.keep [0, 1, 5] []] (K' := []) (σ' := ⟨[(0, .list (.ints a0)), (1, .list (.ints a1)), (5, .int .i64 (IntKind.i64.wrap (v1 + (1 : Int))))], []⟩) rfl ⟨hd5, trivial⟩ rfl ?_
          have h := Option.some.inj h
          subst h
          exact Tri.nil ⟨rfl, rfl⟩
      · refine Tri.run 1 [.g false] [.keep [] []] (K' := [.code [(2, 0), (1, 0), (0, 0), (0, 0), (1, 1)] 0, .code [(2, 0), (1, 0), (0, 0)] 1]) (σ' := ⟨[], []⟩) rfl ⟨hd2, trivial⟩ rfl ?_
        have h := Option.some.inj h
        subst h
        exact Tri.out 0 rfl ⟨nofun, rfl, rfl⟩
    · intro e σ' hne hq
      rcases x1 with _ | r
      · obtain ⟨rfl, rfl⟩ := hq
        refine TriX.exit (K' := [.code [] 3]) rfl ?_
        refine Tri.run 1 [] [.keep [4] []] (K' := [.code [] 4]) (σ' := ⟨[(4, .bool true)], []⟩) rfl trivial rfl ?_
        have h := Option.some.inj h
        subst h
        exact Tri.ret rfl ⟨.inl rfl, rfl, rfl⟩
      · obtain ⟨rfl, hq⟩ := hq
        have h := Option.some.inj h
        subst h
        exact TriX.ret ⟨.inl rfl, hq⟩
/-! laws.eqTableau -/
noncomputable def E37_laws_eqTableau : Env := ⟨Try.prog, tys, (Try.f37.body).getD .skip, 22, tysOk, mixedOk⟩
abbrev q_laws_eqTableau (r : Bool) (σ' : ASt) : Prop := resAV E37_laws_eqTableau.T σ' Try.f37.results.toList = some (.bool r) ∧ keepO σ'.ob (namesO []) = []
noncomputable def m_laws_eqTableau (a0 : List (List Q)) (a1 : List Int) (a2 : Int) (a3 : List (List Q)) (a4 : List Int) (a5 : Int) : Option Bool :=
(m_laws_eqRatSS a0 a3).bind fun v1 =>
bif !v1 then
(some false)
else
((m_laws_eqIntS a1 a4).bind fun v2 =>
bif !v2 then
(some false)
else
(bif a2 != a5 then
(some false)
else
(some true)))
theorem w_laws_eqTableau (a0 : List (List Q)) (a1 : List Int) (a2 : Int) (a3 : List (List Q)) (a4 : List Int) (a5 : Int) (r : Bool) (h : m_laws_eqTableau a0 a1 a2 a3 a4 a5 = some r) : AM.Spec Try.prog 37 [.agg [.list (.ratss a0), .list (.ints a1), .int .i64 a2], .agg [.list (.ratss a3), .list (.ints a4), .int .i64 a5]] [] (.bool r) [] := by
  refine spec_of (E := E37_laws_eqTableau) Try.func37 rfl rfl rfl rfl ?_
  refine Tri.run 1 [] [.keep [2, 3] [2, 3]] (K' := [.code [(1, 0), (0, 0)] 0, .code [(1, 0)] 1, .code [] 2]) (σ' := ⟨[(2, .ptr 2 0), (3, .ptr 3 0)], [(2, .box [.list (.ratss a0), .list (.ints a1), .int .i64 a2]), (3, .box [.list (.ratss a3), .list (.ints a4), .int .i64 a5])]⟩) rfl trivial rfl ?_
  obtain ⟨v1, hk1, h⟩ := bind_some h
  refine Tri.run 1 [.r ⟨[], .bool v1, []⟩] [.keep [2, 3, 10] [2, 3]] (K' := [.code [(1, 0)] 1, .code [] 2]) (σ' := ⟨[(2, .ptr 2 0), (3, .ptr 3 0), (10, .bool (!v1))], [(2, .box [.list (.ratss a0), .list (.ints a1), .int .i64 a2]), (3, .box [.list (.ratss a3), .list (.ints a4), .int .i64 a5])]⟩) rfl ⟨(w_laws_eqRatSS a0 a3 v1 hk1), trivial⟩ rfl ?_
  rcases bif_some h with ⟨hd2, h⟩ | ⟨hd2, h⟩
  · refine Tri.run 2 [.g true] [.keep [4] []] (K' := [.code [(1, 0), (1, 0)] 1, .code [] 2]) (σ' := ⟨[(4, .bool false)], []⟩) rfl ⟨hd2, trivial⟩ rfl ?_
    have h := Option.some.inj h
    subst h
    exact Tri.ret rfl ⟨.inl rfl, rfl, rfl⟩
  · obtain ⟨v2, hk3, h⟩ := bind_some h
    refine Tri.run 2 [.g false, .r ⟨[], .bool v2, []⟩] [.keep [2, 3, 16] [2, 3]] (K' := [.code [(2, 0)] 1, .code [] 3]) (σ' := ⟨[(2, .ptr 2 0), (3, .ptr 3 0), (16, .bool (!v2))], [(2, .box [.list (.ratss a0), .list (.ints a1), .int .i64 a2]), (3, .box [.list (.ratss a3), .list (.ints a4), .int .i64 a5])]⟩) rfl ⟨(w_laws_eqIntS a1 a4 v2 hk3), hd2, trivial⟩ rfl ?_
    rcases bif_some h with ⟨hd4, h⟩ | ⟨hd4, h⟩
    · refine Tri.run 2 [.g true] [.keep [4] []] (K' := [.code [(2, 0), (1, 0)] 1, .code [] 3]) (σ' := ⟨[(4, .bool false)], []⟩) rfl ⟨hd4, trivial⟩ rfl ?_
      have h := Option.some.inj h
      subst h
      exact Tri.ret rfl ⟨.inl rfl, rfl, rfl⟩
    · refine Tri.run 2 [.g false] [.keep [21] []] (K' := [.code [(3, 0)] 1, .code [] 4]) (σ' := ⟨[(21, .bool (a2 != a5))], []⟩) rfl ⟨hd4, trivial⟩ rfl ?_
      rcases bif_some h with ⟨hd5, h⟩ | ⟨hd5, h⟩
      · refine Tri.run 2 [.g true] [.keep [4] []] (K' := [.code [(3, 0), (1, 0)] 1, .code [] 4]) (σ' := ⟨[(4, .bool false)], []⟩) rfl ⟨hd5, trivial⟩ rfl ?_
        have h := Option.some.inj h
        subst h
        exact Tri.ret rfl ⟨.inl rfl, rfl, rfl⟩
      · refine Tri.run 2 [.g false] [.keep [4] []] (K' := [.code [] 5]) (σ' := ⟨[(4, .bool true)], []⟩) rfl ⟨hd5, trivial⟩ rfl ?_
        have h := Option.some.inj h
        subst h
        exact Tri.ret rfl ⟨.inl rfl, rfl, rfl⟩
/-! laws.FnExactLeavingRow -/
noncomputable def E7_laws_FnExactLeavingRow : Env := ⟨Try.prog, tys, (Try.f7.body).getD .skip, 31, tysOk, mixedOk⟩
abbrev q_laws_FnExactLeavingRow (r : Bool) (σ' : ASt) : Prop := resAV E7_laws_FnExactLeavingRow.T σ' Try.f7.results.toList = some (.bool r) ∧ keepO σ'.ob (namesO []) = []
noncomputable def m_laws_FnExactLeavingRow (a0 : List (List Q)) (a1 : List Int) (a2 : Int) (a3 : Int) : Option Bool :=
(m_laws_szTableau a0 a1 a2 (1048576 : Int)).bind fun v1 =>
bif decide (v1 < (0 : Int)) then
(some true)
else
((m_laws_toTableau a0 a1 a2).bind fun (v2, v3, v4) =>
(m_spec_LeavingRow v3 v4 v2 a3).bind fun v5 =>
(m_laws_toTableau a0 a1 a2).bind fun (v6, v7, v8) =>
(m_impl_LeavingRow v7 v8 v6 a3).bind fun v9 =>
bif v9 != v5 then
(some false)
else
((m_laws_toTableau a0 a1 a2).bind fun (v10, v11, v12) =>
(m_laws_eqTableau v7 v8 v6 v11 v12 v10).bind fun v13 =>
bif !v13 then
(some false)
else
(some true)))
theorem w_laws_FnExactLeavingRow (a0 : List (List Q)) (a1 : List Int) (a2 : Int) (a3 : Int) (r : Bool) (h : m_laws_FnExactLeavingRow a0 a1 a2 a3 = some r) : AM.Spec Try.prog 7 [.agg [.list (.ratss a0), .list (.ints a1), .int .i64 a2], .int .i64 a3] [] (.bool r) [] := by
  refine spec_of (E := E7_laws_FnExactLeavingRow) Try.func7 rfl rfl rfl rfl ?_
  refine Tri.run 2 [] [.keep [1, 2, 5] [2]] (K' := [.code [(2, 0)] 0, .code [] 3]) (σ' := ⟨[(1, .int .i64 a3), (2, .ptr 2 0), (5, .int .i64 (1048576 : Int))], [(2, .box [.list (.ratss a0), .list (.ints a1), .int .i64 a2])]⟩) rfl trivial rfl ?_
  obtain ⟨v1, hk1, h⟩ := bind_some h
  refine Tri.run 2 [.r ⟨[], .int .i64 v1, []⟩] [.keep [1, 2, 13] [2]] (K' := [.code [(3, 0)] 1, .code [] 4]) (σ' := ⟨[(1, .int .i64 a3), (2, .ptr 2 0), (13, .bool (decide (v1 < (0 : Int))))], [(2, .box [.list (.ratss a0), .list (.ints a1), .int .i64 a2])]⟩) rfl ⟨(w_laws_szTableau a0 a1 a2 (1048576 : Int) v1 hk1), trivial⟩ rfl ?_
  rcases bif_some h with ⟨hd2, h⟩ | ⟨hd2, h⟩
  · refine Tri.run 2 [.g true] [.keep [4] []] (K' := [.code [(3, 0), (1, 0)] 1, .code [] 4]) (σ' := ⟨[(4, .bool true)], []⟩) rfl ⟨hd2, trivial⟩ rfl ?_
    have h := Option.some.inj h
    subst h
    exact Tri.ret rfl ⟨.inl rfl, rfl, rfl⟩
  · obtain ⟨⟨v2, v3, v4⟩, hk3, h⟩ := bind_some h
    obtain ⟨v5, hk4, h⟩ := bind_some h
    refine Tri.run 2 [.g false, .r ⟨[], .agg [.sl 1100 0, .sl 1101 0, .int .i64 v2], [(1100, .arr 34 0 0 (.ratss v3)), (1101, .arr 3 0 0 (.ints v4))]⟩, .r ⟨[], .int .i64 v5, []⟩] [.keep [1, 2, 6] [2]] (K' := [.code [(5, 0)] 0, .code [] 6]) (σ' := ⟨[(1, .int .i64 a3), (2, .ptr 2 0), (6, .int .i64 v5)], [(2, .box [.list (.ratss a0), .list (.ints a1), .int .i64 a2])]⟩) rfl ⟨(w_spec_LeavingRow v3 v4 v2 a3 v5 hk4), (((w_laws_toTableau a0 a1 a2 (v2, v3, v4) hk3).swap 1000 1100).swap 1001 1101), hd2, trivial⟩ rfl ?_
    obtain ⟨⟨v6, v7, v8⟩, hk5, h⟩ := bind_some h
    obtain ⟨v9, hk6, h⟩ := bind_some h
    refine Tri.run 3 [.r ⟨[], .agg [.sl 1102 0, .sl 1103 0, .int .i64 v6], [(1102, .arr 34 0 0 (.ratss v7)), (1103, .arr 3 0 0 (.ints v8))]⟩, .r ⟨[], .int .i64 v9, []⟩] [.keep [2, 7, 25] [2, 7, 1102, 1103]] (K' := [.code [(7, 0)] 1, .code [] 8]) (σ' := ⟨[(2, .ptr 2 0), (7, .ptr 7 0), (25, .bool (v9 != v5))], [(2, .box [.list (.ratss a0), .list (.ints a1), .int .i64 a2]), (7, .box [.sl 1102 0, .sl 1103 0, .int .i64 v6]), (1102, .arr 34 0 0 (.ratss v7)), (1103, .arr 3 0 0 (.ints v8))]⟩) rfl ⟨(w_impl_LeavingRow v7 v8 v6 a3 v9 hk6), (((w_laws_toTableau a0 a1 a2 (v6, v7, v8) hk5).swap 1000 1102).swap 1001 1103), trivial⟩ rfl ?_
    rcases bif_some h with ⟨hd7, h⟩ | ⟨hd7, h⟩
    · refine Tri.run 2 [.g true] [.keep [4] []] (K' := [.code [(7, 0), (1, 0)] 1, .code [] 8]) (σ' := ⟨[(4, .bool false)], []⟩) rfl ⟨hd7, trivial⟩ rfl ?_
      have h := Option.some.inj h
      subst h
      exact Tri.ret rfl ⟨.inl rfl, rfl, rfl⟩
    · obtain ⟨⟨v10, v11, v12⟩, hk8, h⟩ := bind_some h
      obtain ⟨v13, hk9, h⟩ := bind_some h
      refine Tri.run 2 [.g false, .r ⟨[], .agg [.sl 1104 0, .sl 1105 0, .int .i64 v10], [(1104, .arr 34 0 0 (.ratss v11)), (1105, .arr 3 0 0 (.ints v12))]⟩, .r ⟨[], .bool v13, []⟩] [.keep [30] []] (K' := [.code [(8, 0)] 1, .code [] 9]) (σ' := ⟨[(30, .bool (!v13))], []⟩) rfl ⟨(w_laws_eqTableau v7 v8 v6 v11 v12 v10 v13 hk9), (((w_laws_toTableau a0 a1 a2 (v10, v11, v12) hk8).swap 1000 1104).swap 1001 1105), hd7, trivial⟩ rfl ?_
      rcases bif_some h with ⟨hd10, h⟩ | ⟨hd10, h⟩
      · refine Tri.run 2 [.g true] [.keep [4] []] (K' := [.code [(8, 0), (1, 0)] 1, .code [] 9]) (σ' := ⟨[(4, .bool false)], []⟩) rfl ⟨hd10, trivial⟩ rfl ?_
        have h := Option.some.inj h
        subst h
        exact Tri.ret rfl ⟨.inl rfl, rfl, rfl⟩
      · refine Tri.run 2 [.g false] [.keep [4] []] (K' := [.code [] 10]) (σ' := ⟨[(4, .bool true)], []⟩) rfl ⟨hd10, trivial⟩ rfl ?_
        have h := Option.some.inj h
        subst h
        exact Tri.ret rfl ⟨.inl rfl, rfl, rfl⟩
end Go.Proofs.Ytoefgmmmcpikfaa
