/- models and walks -/
import Derived.Test.YtmlfjoppaciknaaProg
import Derived.Test.YtmlfjoppaciknaaAmB
namespace Go.Proofs.Ytmlfjoppaciknaa
open Go.AM
set_option maxRecDepth 100000
set_option maxHeartbeats 4000000
noncomputable def tys : TEnv := [(3, .int .i64),
  (4, .bool),
  (5, .int .u8),
  (22, .slice 5 (.bytes [])),
  (24, .slice 3 (.ints [])),
  (26, .struct [(0, 3), (1, 24)] [.int .i64 0, .nil (.ints [])] false),
  (82, .struct [(0, 22), (1, 3), (2, 3)] [.nil (.bytes []), .int .i64 0, .int .i64 0] false)]
theorem tysOk : TOk Try.prog tys := tok_of (by kernel_rfl)
theorem mixedOk : Try.prog.follows .mixedOrders = true := by kernel_rfl
/-! laws.big -/
noncomputable def E7_laws_big : Env := ⟨Try.prog, tys, (Try.f7.body).getD .skip, 6, tysOk, mixedOk⟩
abbrev q_laws_big (r : Bool) (σ' : ASt) : Prop := resAV E7_laws_big.T σ' Try.f7.results.toList = some (.bool r) ∧ keepO σ'.ob (namesO []) = []
noncomputable def m_laws_big (a0 : List UInt8) : Option Bool :=
some (decide ((a0.length : Int) > (1048576 : Int)))
theorem w_laws_big (a0 : List UInt8) (r : Bool) (h : m_laws_big a0 = some r) : AM.Spec Try.prog 7 [.list (.bytes a0)] [] (.bool r) [] := by
  refine spec_of (E := E7_laws_big) Try.func7 rfl rfl rfl rfl ?_
  refine Tri.run 2 [] [.keep [2] []] (K' := [.code [] 2]) (σ' := ⟨[(2, .bool (decide ((a0.length : Int) > (1048576 : Int))))], []⟩) rfl trivial rfl ?_
  have h := Option.some.inj h
  subst h
  exact Tri.ret rfl ⟨.inl rfl, rfl, rfl⟩
/-! spec.l1New -/
noncomputable def E55_spec_l1New : Env := ⟨Try.prog, tys, (Try.f55.body).getD .skip, 32, tysOk, mixedOk⟩
abbrev q_spec_l1New_io4 (r : (List UInt8) × Int × Int × (List Int) × (List Int) × Int × Int) (σ' : ASt) : Prop := resAV E55_spec_l1New.T σ' Try.f55.results.toList = some (.ptr 1000 0) ∧ keepO σ'.ob (namesO [(1000, .box [.list (.bytes r.1), .int .i64 r.2.1, .int .i64 r.2.2.1]), (1001, .arr 3 0 0 (.ints r.2.2.2.1)), (1002, .arr 3 0 0 (.ints r.2.2.2.2.1)), (2000, .box [.int .i64 r.2.2.2.2.2.1, .sl 1001 0]), (2002, .box [.int .i64 r.2.2.2.2.2.2, .sl 1002 0])]) = [(1000, .box [.list (.bytes r.1), .int .i64 r.2.1, .int .i64 r.2.2.1]), (1001, .arr 3 0 0 (.ints r.2.2.2.1)), (1002, .arr 3 0 0 (.ints r.2.2.2.2.1)), (2000, .box [.int .i64 r.2.2.2.2.2.1, .sl 1001 0]), (2002, .box [.int .i64 r.2.2.2.2.2.2, .sl 1002 0])]
noncomputable def l_spec_l1New_io4_0 (a4 : List UInt8) : (Int × Int) → Option ((Int × Int) ⊕ Int)
  | (v1, v2) => (
bif decide (v2 < (a4.length : Int)) then
(bif decide (v2 < (4000 : Int)) then
(grd ((0 : Int) ≤ v2 ∧ v2 < (a4.length : Int)) <|
some (.inl (bitsOf .and .i64 (IntKind.i64.wrap ((IntKind.i64.wrap ((IntKind.i64.wrap (v1 * (131 : Int))) + (IntKind.i64.wrap (((a4.getD v2.toNat 0).toNat : Int))))) + (7 : Int))) (1073741823 : Int), IntKind.i64.wrap (v2 + (1 : Int)))))
else
(some (.inr v1)))
else
(some (.inr v1)))
noncomputable def m_spec_l1New_io4 (a0 : Int) (a1 : List Int) (a2 : Int) (a3 : List Int) (a4 : List UInt8) : Option ((List UInt8) × Int × Int × (List Int) × (List Int) × Int × Int) :=
(iter (l_spec_l1New_io4_0 a4) (IntKind.i64.wrap ((26583 : Int) + (a4.length : Int)), (0 : Int))).bind fun
| v3 => (
some (a4, 0, v3, a1, a3, a0, a2))
theorem w_spec_l1New_io4 (a0 : Int) (a1 : List Int) (a2 : Int) (a3 : List Int) (a4 : List UInt8) (r : (List UInt8) × Int × Int × (List Int) × (List Int) × Int × Int) (h : m_spec_l1New_io4 a0 a1 a2 a3 a4 = some r) : AM.Spec Try.prog 55 [.list (.bytes a4)] [(2000, .box [.int .i64 a0, .sl 2001 0]), (2001, .arr 3 0 0 (.ints a1)), (2002, .box [.int .i64 a2, .sl 2003 0]), (2003, .arr 3 0 0 (.ints a3))] (.ptr 1000 0) [(1000, .box [.list (.bytes r.1), .int .i64 r.2.1, .int .i64 r.2.2.1]), (1001, .arr 3 0 0 (.ints r.2.2.2.1)), (1002, .arr 3 0 0 (.ints r.2.2.2.2.1)), (2000, .box [.int .i64 r.2.2.2.2.2.1, .sl 1001 0]), (2002, .box [.int .i64 r.2.2.2.2.2.2, .sl 1002 0])] := by
  refine spec_of (E := E55_spec_l1New) Try.func55 rfl rfl rfl rfl ?_
  refine Tri.run 3 [] [.keep [0, 3, 4] [2000, 2001, 2002, 2003]] (K' := [.code [(2, 0), (1, 0)] 0, .blk 0, .code [] 3]) (σ' := ⟨[(0, .list (.bytes a4)), (3, .int .i64 (IntKind.i64.wrap ((26583 : Int) + (a4.length : Int)))), (4, .int .i64 (0 : Int))], [(2000, .box [.int .i64 a0, .sl 2001 0]), (2001, .arr 3 0 0 (.ints a1)), (2002, .box [.int .i64 a2, .sl 2003 0]), (2003, .arr 3 0 0 (.ints a3))]⟩) rfl trivial rfl ?_
  obtain ⟨v3, hk4, h⟩ := bind_some h
  refine Tri.loop (K1 := [.code [(2, 0), (1, 0), (0, 0)] 0]) (K2 := [.blk 0, .code [] 3]) (fun (v1, v2) => ⟨[(0, .list (.bytes a4)), (3, .int .i64 v1), (4, .int .i64 v2)], [(2000, .box [.int .i64 a0, .sl 2001 0]), (2001, .arr 3 0 0 (.ints a1)), (2002, .box [.int .i64 a2, .sl 2003 0]), (2003, .arr 3 0 0 (.ints a3))]⟩) (fun x e σ' => match x with | v3 => e = .exit 0 ∧ σ' = ⟨[(0, .list (.bytes a4)), (3, .int .i64 v3)], [(2000, .box [.int .i64 a0, .sl 2001 0]), (2001, .arr 3 0 0 (.ints a1)), (2002, .box [.int .i64 a2, .sl 2003 0]), (2003, .arr 3 0 0 (.ints a3))]⟩) hk4 rfl rfl ?_ ?_
  · intro s x hs
    clear h
    have h := hs
    clear hs
    obtain ⟨v1, v2⟩ := s
    rcases bif_some h with ⟨hd1, h⟩ | ⟨hd1, h⟩
    · refine Tri.run 1 [.g true] [.keep [0, 3, 4, 15] [2000, 2001, 2002, 2003]] (K' := [.code [(2, 0), (1, 0), (0, 0), (0, 0)] 1, .code [(2, 0), (1, 0), (0, 0)] 1]) (σ' := ⟨[(0, .list (.bytes a4)), (3, .int .i64 v1), (4, .int .i64 v2), (15, .bool (decide (v2 < (4000 : Int))))], [(2000, .box [.int .i64 a0, .sl 2001 0]), (2001, .arr 3 0 0 (.ints a1)), (2002, .box [.int .i64 a2, .sl 2003 0]), (2003, .arr 3 0 0 (.ints a3))]⟩) rfl ⟨hd1, trivial⟩ rfl ?_
      rcases bif_some h with ⟨hd2, h⟩ | ⟨hd2, h⟩
      · obtain ⟨hg3, h⟩ := grd_some h
        refine Tri.run 3 [.g true] [.keep [0, 3, 4] [2000, 2001, 2002, 2003]] (K' := []) (σ' := ⟨[(0, .list (.bytes a4)), (3, .int .i64 (bitsOf .and .i64 (IntKind.i64.wrap ((IntKind.i64.wrap ((IntKind.i64.wrap (v1 * (131 : Int))) + (IntKind.i64.wrap (((a4.getD v2.toNat 0).toNat : Int))))) + (7 : Int))) (1073741823 : Int))), (4, .int .i64 (IntKind.i64.wrap (v2 + (1 : Int))))], [(2000, .box [.int .i64 a0, .sl 2001 0]), (2001, .arr 3 0 0 (.ints a1)), (2002, .box [.int .i64 a2, .sl 2003 0]), (2003, .arr 3 0 0 (.ints a3))]⟩) rfl ⟨hg3, hd2, trivial⟩ rfl ?_
        have h := Option.some.inj h
        subst h
        exact Tri.nil ⟨rfl, rfl⟩
      · refine Tri.run 1 [.g false] [.keep [0, 3] [2000, 2001, 2002, 2003]] (K' := [.code [(2, 0), (1, 0), (0, 0), (0, 0), (1, 1)] 0, .code [(2, 0), (1, 0), (0, 0)] 1]) (σ' := ⟨[(0, .list (.bytes a4)), (3, .int .i64 v1)], [(2000, .box [.int .i64 a0, .sl 2001 0]), (2001, .arr 3 0 0 (.ints a1)), (2002, .box [.int .i64 a2, .sl 2003 0]), (2003, .arr 3 0 0 (.ints a3))]⟩) rfl ⟨hd2, trivial⟩ rfl ?_
        have h := Option.some.inj h
        subst h
        exact Tri.out 0 rfl ⟨nofun, rfl, rfl⟩
    · refine Tri.run 1 [.g false] [.keep [0, 3, 4, 15] [2000, 2001, 2002, 2003]] (K' := [.code [(2, 0), (1, 0), (0, 0), (0, 0)] 1, .code [(2, 0), (1, 0), (0, 0)] 1]) (σ' := ⟨[(0, .list (.bytes a4)), (3, .int .i64 v1), (4, .int .i64 v2), (15, .bool false)], [(2000, .box [.int .i64 a0, .sl 2001 0]), (2001, .arr 3 0 0 (.ints a1)), (2002, .box [.int .i64 a2, .sl 2003 0]), (2003, .arr 3 0 0 (.ints a3))]⟩) rfl ⟨hd1, trivial⟩ rfl ?_
      refine Tri.run 1 [.g false] [.keep [0, 3] [2000, 2001, 2002, 2003]] (K' := [.code [(2, 0), (1, 0), (0, 0), (0, 0), (1, 1)] 0, .code [(2, 0), (1, 0), (0, 0)] 1]) (σ' := ⟨[(0, .list (.bytes a4)), (3, .int .i64 v1)], [(2000, .box [.int .i64 a0, .sl 2001 0]), (2001, .arr 3 0 0 (.ints a1)), (2002, .box [.int .i64 a2, .sl 2003 0]), (2003, .arr 3 0 0 (.ints a3))]⟩) rfl ⟨rfl, trivial⟩ rfl ?_
      have h := Option.some.inj h
      subst h
      exact Tri.out 0 rfl ⟨nofun, rfl, rfl⟩
  · intro e σ' hne hq
    obtain ⟨rfl, rfl⟩ := hq
    refine TriX.exit (K' := [.code [] 3]) rfl ?_
    refine Tri.run 1 [] [.swap 2001 1100, .swap 2003 1101, .swap 31 1000, .swap 1100 1001, .swap 1101 1002, .keep [2] [1000, 1001, 1002, 2000, 2002]] (K' := [.code [] 4]) (σ' := ⟨[(2, .ptr 1000 0)], [(1000, .box [.list (.bytes a4), .int .i64 0, .int .i64 v3]), (1001, .arr 3 0 0 (.ints a1)), (1002, .arr 3 0 0 (.ints a3)), (2000, .box [.int .i64 a0, .sl 1001 0]), (2002, .box [.int .i64 a2, .sl 1002 0])]⟩) rfl trivial rfl ?_
    have h := Option.some.inj h
    subst h
    exact Tri.ret rfl ⟨.inl rfl, rfl, rfl⟩
/-! spec.l1Byte -/
noncomputable def E108_spec_l1Byte : Env := ⟨Try.prog, tys, (Try.f108.body).getD .skip, 58, tysOk, mixedOk⟩
abbrev q_spec_l1Byte_io1 (x0 : Value) (a0 : List UInt8) (r : Int × Int × Int) (σ' : ASt) : Prop := resAV E108_spec_l1Byte.T σ' Try.f108.results.toList = some (.int .i64 r.1) ∧ keepO σ'.ob (namesO [(2080, .box [.lst x0 (.bytes a0), .int .i64 r.2.1, .int .i64 r.2.2])]) = [(2080, .box [.lst x0 (.bytes a0), .int .i64 r.2.1, .int .i64 r.2.2])]
noncomputable def m_spec_l1Byte_io1 (a0 : List UInt8) (a1 : Int) (a2 : Int) : Option (Int × Int × Int) :=
grd ((0 : Int) ≤ (33 : Int)) <|
grd ((0 : Int) ≤ (45 : Int)) <|
((some (bitsOf .and .i64 (bitsOf .xor .i64 ((IntKind.i64.wrap ((IntKind.i64.wrap (a2 * (6364136223846793005 : Int))) + (1442695040888963407 : Int))).fdiv (2 ^ (min (33 : Int).toNat 64))) ((IntKind.i64.wrap ((IntKind.i64.wrap (a2 * (6364136223846793005 : Int))) + (1442695040888963407 : Int))).fdiv (2 ^ (min (45 : Int).toNat 64)))) (255 : Int) : Int)).bind fun v1 =>
bif decide (a1 < (a0.length : Int)) then
(grd ((0 : Int) ≤ a1 ∧ a1 < (a0.length : Int)) <|
some (bitsOf .and .i64 (IntKind.i64.wrap (v1 + (IntKind.i64.wrap (((a0.getD a1.toNat 0).toNat : Int))))) (255 : Int), IntKind.i64.wrap (a1 + (1 : Int)), IntKind.i64.wrap ((IntKind.i64.wrap (a2 * (6364136223846793005 : Int))) + (1442695040888963407 : Int))))
else
(some (v1, a1, IntKind.i64.wrap ((IntKind.i64.wrap (a2 * (6364136223846793005 : Int))) + (1442695040888963407 : Int)))))
theorem w_spec_l1Byte_io1 (x0 : Value) (a0 : List UInt8) (a1 : Int) (a2 : Int) (r : Int × Int × Int) (h : m_spec_l1Byte_io1 a0 a1 a2 = some r) : AM.Spec Try.prog 108 [.ptr 2080 0] [(2080, .box [.lst x0 (.bytes a0), .int .i64 a1, .int .i64 a2])] (.int .i64 r.1) [(2080, .box [.lst x0 (.bytes a0), .int .i64 r.2.1, .int .i64 r.2.2])] := by
  refine spec_of (E := E108_spec_l1Byte) Try.func108 rfl rfl rfl rfl ?_
  obtain ⟨hg1, h⟩ := grd_some h
  obtain ⟨hg2, h⟩ := grd_some h
  refine Tri.run 3 [] [.keep [0, 3] [2080]] (K' := [.code [(3, 0), (0, 0)] 0, .code [(3, 0)] 1, .code [] 4]) (σ' := ⟨[(0, .ptr 2080 0), (3, .int .i64 (bitsOf .and .i64 (bitsOf .xor .i64 ((IntKind.i64.wrap ((IntKind.i64.wrap (a2 * (6364136223846793005 : Int))) + (1442695040888963407 : Int))).fdiv (2 ^ (min (33 : Int).toNat 64))) ((IntKind.i64.wrap ((IntKind.i64.wrap (a2 * (6364136223846793005 : Int))) + (1442695040888963407 : Int))).fdiv (2 ^ (min (45 : Int).toNat 64)))) (255 : Int)))], [(2080, .box [.lst x0 (.bytes a0), .int .i64 a1, .int .i64 (IntKind.i64.wrap ((IntKind.i64.wrap (a2 * (6364136223846793005 : Int))) + (1442695040888963407 : Int)))])]⟩) rfl ⟨hg2, hg1, trivial⟩ rfl ?_
  obtain ⟨v1, hk3, h⟩ := bind_some h
  have hk3 := Option.some.inj hk3
  rw [hk3]
  refine Tri.run 1 [] [.keep [0, 3, 34] [2080]] (K' := [.code [(3, 0)] 1, .code [] 4]) (σ' := ⟨[(0, .ptr 2080 0), (3, .int .i64 v1), (34, .bool (decide (a1 < (a0.length : Int))))], [(2080, .box [.lst x0 (.bytes a0), .int .i64 a1, .int .i64 (IntKind.i64.wrap ((IntKind.i64.wrap (a2 * (6364136223846793005 : Int))) + (1442695040888963407 : Int)))])]⟩) rfl trivial rfl ?_
  rcases bif_some h with ⟨hd4, h⟩ | ⟨hd4, h⟩
  · obtain ⟨hg5, h⟩ := grd_some h
    refine Tri.run 3 [.g true] [.keep [3] [2080]] (K' := [.code [(4, 0)] 0, .code [] 5]) (σ' := ⟨[(3, .int .i64 (bitsOf .and .i64 (IntKind.i64.wrap (v1 + (IntKind.i64.wrap (((a0.getD a1.toNat 0).toNat : Int))))) (255 : Int)))], [(2080, .box [.lst x0 (.bytes a0), .int .i64 (IntKind.i64.wrap (a1 + (1 : Int))), .int .i64 (IntKind.i64.wrap ((IntKind.i64.wrap (a2 * (6364136223846793005 : Int))) + (1442695040888963407 : Int)))])]⟩) rfl ⟨hg5, hd4, trivial⟩ rfl ?_
    refine Tri.run 1 [] [.keep [2] [2080]] (K' := [.code [] 5]) (σ' := ⟨[(2, .int .i64 (bitsOf .and .i64 (IntKind.i64.wrap (v1 + (IntKind.i64.wrap (((a0.getD a1.toNat 0).toNat : Int))))) (255 : Int)))], [(2080, .box [.lst x0 (.bytes a0), .int .i64 (IntKind.i64.wrap (a1 + (1 : Int))), .int .i64 (IntKind.i64.wrap ((IntKind.i64.wrap (a2 * (6364136223846793005 : Int))) + (1442695040888963407 : Int)))])]⟩) rfl trivial rfl ?_
    have h := Option.some.inj h
    subst h
    exact Tri.ret rfl ⟨.inl rfl, rfl, rfl⟩
  · refine Tri.run 2 [.g false] [.keep [2] [2080]] (K' := [.code [] 5]) (σ' := ⟨[(2, .int .i64 v1)], [(2080, .box [.lst x0 (.bytes a0), .int .i64 a1, .int .i64 (IntKind.i64.wrap ((IntKind.i64.wrap (a2 * (6364136223846793005 : Int))) + (1442695040888963407 : Int)))])]⟩) rfl ⟨hd4, trivial⟩ rfl ?_
    have h := Option.some.inj h
    subst h
    exact Tri.ret rfl ⟨.inl rfl, rfl, rfl⟩
/-! spec.l1Below -/
noncomputable def E99_spec_l1Below : Env := ⟨Try.prog, tys, (Try.f99.body).getD .skip, 37, tysOk, mixedOk⟩
abbrev q_spec_l1Below_io1 (x0 : Value) (a0 : List UInt8) (r : Int × Int × Int) (σ' : ASt) : Prop := resAV E99_spec_l1Below.T σ' Try.f99.results.toList = some (.int .i64 r.1) ∧ keepO σ'.ob (namesO [(2060, .box [.lst x0 (.bytes a0), .int .i64 r.2.1, .int .i64 r.2.2])]) = [(2060, .box [.lst x0 (.bytes a0), .int .i64 r.2.1, .int .i64 r.2.2])]
noncomputable def m_spec_l1Below_io1 (a0 : List UInt8) (a1 : Int) (a2 : Int) (a3 : Int) : Option (Int × Int × Int) :=
bif decide (a3 ≤ (0 : Int)) then
(some ((0 : Int), a1, a2))
else
(bif decide (a3 ≤ (256 : Int)) then
((m_spec_l1Byte_io1 a0 a1 a2).bind fun (v1, v2, v3) =>
grd (a3 ≠ 0) <|
some (v1.tmod a3, v2, v3))
else
((m_spec_l1Byte_io1 a0 a1 a2).bind fun (v4, v5, v6) =>
(m_spec_l1Byte_io1 a0 v5 v6).bind fun (v7, v8, v9) =>
(m_spec_l1Byte_io1 a0 v8 v9).bind fun (v10, v11, v12) =>
(m_spec_l1Byte_io1 a0 v11 v12).bind fun (v13, v14, v15) =>
grd (a3 ≠ 0) <|
some ((IntKind.i64.wrap ((IntKind.i64.wrap ((IntKind.i64.wrap ((IntKind.i64.wrap (v4 * (16777216 : Int))) + (IntKind.i64.wrap (v7 * (65536 : Int))))) + (IntKind.i64.wrap (v10 * (256 : Int))))) + v13)).tmod a3, v14, v15)))
theorem w_spec_l1Below_io1 (x0 : Value) (a0 : List UInt8) (a1 : Int) (a2 : Int) (a3 : Int) (r : Int × Int × Int) (h : m_spec_l1Below_io1 a0 a1 a2 a3 = some r) : AM.Spec Try.prog 99 [.ptr 2060 0, .int .i64 a3] [(2060, .box [.lst x0 (.bytes a0), .int .i64 a1, .int .i64 a2])] (.int .i64 r.1) [(2060, .box [.lst x0 (.bytes a0), .int .i64 r.2.1, .int .i64 r.2.2])] := by
  refine spec_of (E := E99_spec_l1Below) Try.func99 rfl rfl rfl rfl ?_
  refine Tri.run 2 [] [.keep [0, 1, 10] [2060]] (K' := [.code [(1, 0)] 1, .code [] 2]) (σ' := ⟨[(0, .ptr 2060 0), (1, .int .i64 a3), (10, .bool (decide (a3 ≤ (0 : Int))))], [(2060, .box [.lst x0 (.bytes a0), .int .i64 a1, .int .i64 a2])]⟩) rfl trivial rfl ?_
  rcases bif_some h with ⟨hd1, h⟩ | ⟨hd1, h⟩
  · refine Tri.run 2 [.g true] [.keep [4] [2060]] (K' := [.code [(1, 0), (1, 0)] 1, .code [] 2]) (σ' := ⟨[(4, .int .i64 (0 : Int))], [(2060, .box [.lst x0 (.bytes a0), .int .i64 a1, .int .i64 a2])]⟩) rfl ⟨hd1, trivial⟩ rfl ?_
    have h := Option.some.inj h
    subst h
    exact Tri.ret rfl ⟨.inl rfl, rfl, rfl⟩
  · refine Tri.run 2 [.g false] [.keep [0, 1, 12] [2060]] (K' := [.code [(2, 0)] 1, .code [] 3]) (σ' := ⟨[(0, .ptr 2060 0), (1, .int .i64 a3), (12, .bool (decide (a3 ≤ (256 : Int))))], [(2060, .box [.lst x0 (.bytes a0), .int .i64 a1, .int .i64 a2])]⟩) rfl ⟨hd1, trivial⟩ rfl ?_
    rcases bif_some h with ⟨hd2, h⟩ | ⟨hd2, h⟩
    · obtain ⟨⟨v1, v2, v3⟩, hk3, h⟩ := bind_some h
      obtain ⟨hg4, h⟩ := grd_some h
      refine Tri.run 2 [.g true, .r ⟨[2060], .int .i64 v1, [(2060, .box [.undf, .int .i64 v2, .int .i64 v3])]⟩] [.keep [4] [2060]] (K' := [.code [(2, 0), (1, 0)] 1, .code [] 3]) (σ' := ⟨[(4, .int .i64 (v1.tmod a3))], [(2060, .box [.lst x0 (.bytes a0), .int .i64 v2, .int .i64 v3])]⟩) rfl ⟨hg4, (fun vf => ((w_spec_l1Byte_io1 (vf 2060 0) a0 a1 a2 (v1, v2, v3) hk3).swap 2080 2060)), hd2, trivial⟩ rfl ?_
      have h := Option.some.inj h
      subst h
      exact Tri.ret rfl ⟨.inl rfl, rfl, rfl⟩
    · obtain ⟨⟨v4, v5, v6⟩, hk5, h⟩ := bind_some h
      refine Tri.run 2 [.g false, .r ⟨[2060], .int .i64 v4, [(2060, .box [.undf, .int .i64 v5, .int .i64 v6])]⟩] [.keep [0, 1, 5] [2060]] (K' := [.code [(4, 0)] 0, .code [] 5]) (σ' := ⟨[(0, .ptr 2060 0), (1, .int .i64 a3), (5, .int .i64 v4)], [(2060, .box [.lst x0 (.bytes a0), .int .i64 v5, .int .i64 v6])]⟩) rfl ⟨(fun vf => ((w_spec_l1Byte_io1 (vf 2060 0) a0 a1 a2 (v4, v5, v6) hk5).swap 2080 2060)), hd2, trivial⟩ rfl ?_
      obtain ⟨⟨v7, v8, v9⟩, hk6, h⟩ := bind_some h
      obtain ⟨⟨v10, v11, v12⟩, hk7, h⟩ := bind_some h
      refine Tri.run 2 [.r ⟨[2060], .int .i64 v7, [(2060, .box [.undf, .int .i64 v8, .int .i64 v9])]⟩, .r ⟨[2060], .int .i64 v10, [(2060, .box [.undf, .int .i64 v11, .int .i64 v12])]⟩] [.keep [0, 1, 5, 6, 7] [2060]] (K' := [.code [(6, 0)] 0, .code [] 7]) (σ' := ⟨[(0, .ptr 2060 0), (1, .int .i64 a3), (5, .int .i64 v4), (6, .int .i64 v7), (7, .int .i64 v10)], [(2060, .box [.lst x0 (.bytes a0), .int .i64 v11, .int .i64 v12])]⟩) rfl ⟨(fun vf => ((w_spec_l1Byte_io1 (vf 2060 0) a0 v8 v9 (v10, v11, v12) hk7).swap 2080 2060)), (fun vf => ((w_spec_l1Byte_io1 (vf 2060 0) a0 v5 v6 (v7, v8, v9) hk6).swap 2080 2060)), trivial⟩ rfl ?_
      obtain ⟨⟨v13, v14, v15⟩, hk8, h⟩ := bind_some h
      obtain ⟨hg9, h⟩ := grd_some h
      refine Tri.run 2 [.r ⟨[2060], .int .i64 v13, [(2060, .box [.undf, .int .i64 v14, .int .i64 v15])]⟩] [.keep [4] [2060]] (K' := [.code [] 8]) (σ' := ⟨[(4, .int .i64 ((IntKind.i64.wrap ((IntKind.i64.wrap ((IntKind.i64.wrap ((IntKind.i64.wrap (v4 * (16777216 : Int))) + (IntKind.i64.wrap (v7 * (65536 : Int))))) + (IntKind.i64.wrap (v10 * (256 : Int))))) + v13)).tmod a3))], [(2060, .box [.lst x0 (.bytes a0), .int .i64 v14, .int .i64 v15])]⟩) rfl ⟨hg9, (fun vf => ((w_spec_l1Byte_io1 (vf 2060 0) a0 v11 v12 (v13, v14, v15) hk8).swap 2080 2060)), trivial⟩ rfl ?_
      have h := Option.some.inj h
      subst h
      exact Tri.ret rfl ⟨.inl rfl, rfl, rfl⟩
/-! spec.l1In -/
noncomputable def E62_spec_l1In : Env := ⟨Try.prog, tys, (Try.f62.body).getD .skip, 15, tysOk, mixedOk⟩
abbrev q_spec_l1In (r : Bool) (σ' : ASt) : Prop := resAV E62_spec_l1In.T σ' Try.f62.results.toList = some (.bool r) ∧ keepO σ'.ob (namesO []) = []
noncomputable def m_spec_l1In (a0 : Int) (a1 : Int) (a2 : Int) : Option Bool :=
bif decide (a0 ≥ a1) then
(some (decide (a0 ≤ a2)))
else
(some false)
theorem w_spec_l1In (a0 : Int) (a1 : Int) (a2 : Int) (r : Bool) (h : m_spec_l1In a0 a1 a2 = some r) : AM.Spec Try.prog 62 [.int .i64 a0, .int .i64 a1, .int .i64 a2] [] (.bool r) [] := by
  refine spec_of (E := E62_spec_l1In) Try.func62 rfl rfl rfl rfl ?_
  refine Tri.run 1 [] [.keep [0, 1, 2] []] (K' := [.code [(1, 0)] 0, .code [] 2]) (σ' := ⟨[(0, .int .i64 a0), (1, .int .i64 a1), (2, .int .i64 a2)], []⟩) rfl trivial rfl ?_
  rcases bif_some h with ⟨hd1, h⟩ | ⟨hd1, h⟩
  · refine Tri.run 1 [.g true] [.keep [6] []] (K' := [.code [] 2]) (σ' := ⟨[(6, .bool (decide (a0 ≤ a2)))], []⟩) rfl ⟨hd1, trivial⟩ rfl ?_
    have h := Option.some.inj h
    subst h
    exact Tri.ret rfl ⟨.inl rfl, rfl, rfl⟩
  · refine Tri.run 1 [.g false] [.keep [6] []] (K' := [.code [] 2]) (σ' := ⟨[(6, .bool false)], []⟩) rfl ⟨hd1, trivial⟩ rfl ?_
    have h := Option.some.inj h
    subst h
    exact Tri.ret rfl ⟨.inl rfl, rfl, rfl⟩
/-! spec.CountCoalitions -/
noncomputable def E53_spec_CountCoalitions : Env := ⟨Try.prog, tys, (Try.f53.body).getD .skip, 16, tysOk, mixedOk⟩
abbrev q_spec_CountCoalitions (r : Int) (σ' : ASt) : Prop := resAV E53_spec_CountCoalitions.T σ' Try.f53.results.toList = some (.int .i64 r) ∧ keepO σ'.ob (namesO []) = []
noncomputable def l_spec_CountCoalitions_0 (a0 : Int) : (Int × Int) → Option ((Int × Int) ⊕ Int)
  | (v2, v3) => (
bif decide (v3 < a0) then
(some (.inl (IntKind.i64.wrap (v2 * (2 : Int)), IntKind.i64.wrap (v3 + (1 : Int)))))
else
(some (.inr v2)))
noncomputable def m_spec_CountCoalitions (a0 : Int) : Option Int :=
(m_spec_l1In a0 (0 : Int) (5 : Int)).bind fun v1 =>
bif !v1 then
(some (0 : Int))
else
((iter (l_spec_CountCoalitions_0 a0) ((1 : Int), (0 : Int))).bind fun
| v4 => (
some v4))
theorem w_spec_CountCoalitions (a0 : Int) (r : Int) (h : m_spec_CountCoalitions a0 = some r) : AM.Spec Try.prog 53 [.int .i64 a0] [] (.int .i64 r) [] := by
  refine spec_of (E := E53_spec_CountCoalitions) Try.func53 rfl rfl rfl rfl ?_
  refine Tri.run 1 [] [.keep [0] []] (K' := [.code [(1, 0), (0, 0)] 0, .code [(1, 0)] 1, .code [] 2]) (σ' := ⟨[(0, .int .i64 a0)], []⟩) rfl trivial rfl ?_
  obtain ⟨v1, hk1, h⟩ := bind_some h
  refine Tri.run 1 [.r ⟨[], .bool v1, []⟩] [.keep [0, 7] []] (K' := [.code [(1, 0)] 1, .code [] 2]) (σ' := ⟨[(0, .int .i64 a0), (7, .bool (!v1))], []⟩) rfl ⟨(fun _ => (w_spec_l1In a0 (0 : Int) (5 : Int) v1 hk1)), trivial⟩ rfl ?_
  rcases bif_some h with ⟨hd2, h⟩ | ⟨hd2, h⟩
  · refine Tri.run 2 [.g true] [.keep [2] []] (K' := [.code [(1, 0), (1, 0)] 1, .code [] 2]) (σ' := ⟨[(2, .int .i64 (0 : Int))], []⟩) rfl ⟨hd2, trivial⟩ rfl ?_
    have h := Option.some.inj h
    subst h
    exact Tri.ret rfl ⟨.inl rfl, rfl, rfl⟩
  · refine Tri.run 3 [.g false] [.keep [0, 3, 4] []] (K' := [.code [(3, 0), (1, 0)] 0, .blk 0, .code [] 4]) (σ' := ⟨[(0, .int .i64 a0), (3, .int .i64 (1 : Int)), (4, .int .i64 (0 : Int))], []⟩) rfl ⟨hd2, trivial⟩ rfl ?_
    obtain ⟨v4, hk4, h⟩ := bind_some h
    refine Tri.loop (K1 := [.code [(3, 0), (1, 0), (0, 0)] 0]) (K2 := [.blk 0, .code [] 4]) (fun (v2, v3) => ⟨[(0, .int .i64 a0), (3, .int .i64 v2), (4, .int .i64 v3)], []⟩) (fun x e σ' => match x with | v4 => e = .exit 0 ∧ σ' = ⟨[(3, .int .i64 v4)], []⟩) hk4 rfl rfl ?_ ?_
    · intro s x hs
      clear h
      have h := hs
      clear hs
      obtain ⟨v2, v3⟩ := s
      refine Tri.run 1 [] [.keep [0, 3, 4, 10] []] (K' := [.code [(3, 0), (1, 0), (0, 0), (0, 0)] 1, .code [(3, 0), (1, 0), (0, 0)] 1]) (σ' := ⟨[(0, .int .i64 a0), (3, .int .i64 v2), (4, .int .i64 v3), (10, .bool (decide (v3 < a0)))], []⟩) rfl trivial rfl ?_
      rcases bif_some h with ⟨hd3, h⟩ | ⟨hd3, h⟩
      · refine Tri.run 3 [.g true] [.keep [0, 3, 4] []] (K' := []) (σ' := ⟨[(0, .int .i64 a0), (3, .int .i64 (IntKind.i64.wrap (v2 * (2 : Int)))), (4, .int .i64 (IntKind.i64.wrap (v3 + (1 : Int))))], []⟩) rfl ⟨hd3, trivial⟩ rfl ?_
        have h := Option.some.inj h
        subst h
        exact Tri.nil ⟨rfl, rfl⟩
      · refine Tri.run 1 [.g false] [.keep [3] []] (K' := [.code [(3, 0), (1, 0), (0, 0), (0, 0), (1, 1)] 0, .code [(3, 0), (1, 0), (0, 0)] 1]) (σ' := ⟨[(3, .int .i64 v2)], []⟩) rfl ⟨hd3, trivial⟩ rfl ?_
        have h := Option.some.inj h
        subst h
        exact Tri.out 0 rfl ⟨nofun, rfl, rfl⟩
    · intro e σ' hne hq
      obtain ⟨rfl, rfl⟩ := hq
      refine TriX.exit (K' := [.code [] 4]) rfl ?_
      refine Tri.run 1 [] [.keep [2] []] (K' := [.code [] 5]) (σ' := ⟨[(2, .int .i64 v4)], []⟩) rfl trivial rfl ?_
      have h := Option.some.inj h
      subst h
      exact Tri.ret rfl ⟨.inl rfl, rfl, rfl⟩
/-! spec.l2Bit -/
noncomputable def E88_spec_l2Bit : Env := ⟨Try.prog, tys, (Try.f88.body).getD .skip, 5, tysOk, mixedOk⟩
abbrev q_spec_l2Bit (r : Int) (σ' : ASt) : Prop := resAV E88_spec_l2Bit.T σ' Try.f88.results.toList = some (.int .i64 r) ∧ keepO σ'.ob (namesO []) = []
noncomputable def m_spec_l2Bit (a0 : Int) : Option Int :=
(m_spec_CountCoalitions a0).bind fun v1 =>
some v1
theorem w_spec_l2Bit (a0 : Int) (r : Int) (h : m_spec_l2Bit a0 = some r) : AM.Spec Try.prog 88 [.int .i64 a0] [] (.int .i64 r) [] := by
  refine spec_of (E := E88_spec_l2Bit) Try.func88 rfl rfl rfl rfl ?_
  refine Tri.run 1 [] [.keep [0] []] (K' := [.code [(1, 0)] 0, .code [] 2]) (σ' := ⟨[(0, .int .i64 a0)], []⟩) rfl trivial rfl ?_
  obtain ⟨v1, hk1, h⟩ := bind_some h
  refine Tri.run 1 [.r ⟨[], .int .i64 v1, []⟩] [.keep [2] []] (K' := [.code [] 2]) (σ' := ⟨[(2, .int .i64 v1)], []⟩) rfl ⟨(fun _ => (w_spec_CountCoalitions a0 v1 hk1)), trivial⟩ rfl ?_
  have h := Option.some.inj h
  subst h
  exact Tri.ret rfl ⟨.inl rfl, rfl, rfl⟩
/-! spec.HasPlayer -/
noncomputable def E44_spec_HasPlayer : Env := ⟨Try.prog, tys, (Try.f44.body).getD .skip, 19, tysOk, mixedOk⟩
abbrev q_spec_HasPlayer (r : Bool) (σ' : ASt) : Prop := resAV E44_spec_HasPlayer.T σ' Try.f44.results.toList = some (.bool r) ∧ keepO σ'.ob (namesO []) = []
noncomputable def m_spec_HasPlayer (a0 : Int) (a1 : Int) : Option Bool :=
(m_spec_l1In a1 (0 : Int) (4 : Int)).bind fun v1 =>
bif v1 then
(bif decide (a0 ≥ (0 : Int)) then
((m_spec_l2Bit a1).bind fun v2 =>
grd (v2 ≠ 0) <|
grd ((2 : Int) ≠ 0) <|
some (((IntKind.i64.wrap (a0.tdiv v2)).tmod (2 : Int)) == (1 : Int)))
else
(some false))
else
(some false)
theorem w_spec_HasPlayer (a0 : Int) (a1 : Int) (r : Bool) (h : m_spec_HasPlayer a0 a1 = some r) : AM.Spec Try.prog 44 [.int .i64 a0, .int .i64 a1] [] (.bool r) [] := by
  refine spec_of (E := E44_spec_HasPlayer) Try.func44 rfl rfl rfl rfl ?_
  refine Tri.run 1 [] [.keep [0, 1] []] (K' := [.code [(1, 0)] 0, .code [] 2]) (σ' := ⟨[(0, .int .i64 a0), (1, .int .i64 a1)], []⟩) rfl trivial rfl ?_
  obtain ⟨v1, hk1, h⟩ := bind_some h
  rcases bif_some h with ⟨hd2, h⟩ | ⟨hd2, h⟩
  · rcases bif_some h with ⟨hd3, h⟩ | ⟨hd3, h⟩
    · obtain ⟨v2, hk4, h⟩ := bind_some h
      obtain ⟨hg5, h⟩ := grd_some h
      obtain ⟨hg6, h⟩ := grd_some h
      refine Tri.run 1 [.r ⟨[], .bool v1, []⟩, .g true, .g true, .r ⟨[], .int .i64 v2, []⟩] [.keep [4] []] (K' := [.code [] 2]) (σ' := ⟨[(4, .bool (((IntKind.i64.wrap (a0.tdiv v2)).tmod (2 : Int)) == (1 : Int)))], []⟩) rfl ⟨hg6, hg5, (fun _ => (w_spec_l2Bit a1 v2 hk4)), hd3, hd2, (fun _ => (w_spec_l1In a1 (0 : Int) (4 : Int) v1 hk1)), trivial⟩ rfl ?_
      have h := Option.some.inj h
      subst h
      exact Tri.ret rfl ⟨.inl rfl, rfl, rfl⟩
    · refine Tri.run 1 [.r ⟨[], .bool v1, []⟩, .g true, .g false] [.keep [4] []] (K' := [.code [] 2]) (σ' := ⟨[(4, .bool false)], []⟩) rfl ⟨hd3, hd2, (fun _ => (w_spec_l1In a1 (0 : Int) (4 : Int) v1 hk1)), trivial⟩ rfl ?_
      have h := Option.some.inj h
      subst h
      exact Tri.ret rfl ⟨.inl rfl, rfl, rfl⟩
  · refine Tri.run 1 [.r ⟨[], .bool v1, []⟩, .g false, .g false] [.keep [4] []] (K' := [.code [] 2]) (σ' := ⟨[(4, .bool false)], []⟩) rfl ⟨rfl, hd2, (fun _ => (w_spec_l1In a1 (0 : Int) (4 : Int) v1 hk1)), trivial⟩ rfl ?_
    have h := Option.some.inj h
    subst h
    exact Tri.ret rfl ⟨.inl rfl, rfl, rfl⟩
/-! spec.SizeOf -/
noncomputable def E45_spec_SizeOf : Env := ⟨Try.prog, tys, (Try.f45.body).getD .skip, 15, tysOk, mixedOk⟩
abbrev q_spec_SizeOf (r : Int) (σ' : ASt) : Prop := resAV E45_spec_SizeOf.T σ' Try.f45.results.toList = some (.int .i64 r) ∧ keepO σ'.ob (namesO []) = []
noncomputable def l_spec_SizeOf_0 (a0 : Int) : (Int × Int) → Option ((Int × Int) ⊕ Int)
  | (v1, v2) => (
bif decide (v2 < (5 : Int)) then
((m_spec_HasPlayer a0 v2).bind fun v3 =>
bif v3 then
(some (.inl (IntKind.i64.wrap (v1 + (1 : Int)), IntKind.i64.wrap (v2 + (1 : Int)))))
else
(some (.inl (v1, IntKind.i64.wrap (v2 + (1 : Int))))))
else
(some (.inr v1)))
noncomputable def m_spec_SizeOf (a0 : Int) : Option Int :=
(iter (l_spec_SizeOf_0 a0) ((0 : Int), (0 : Int))).bind fun
| v4 => (
some v4)
theorem w_spec_SizeOf (a0 : Int) (r : Int) (h : m_spec_SizeOf a0 = some r) : AM.Spec Try.prog 45 [.int .i64 a0] [] (.int .i64 r) [] := by
  refine spec_of (E := E45_spec_SizeOf) Try.func45 rfl rfl rfl rfl ?_
  refine Tri.run 3 [] [.keep [0, 3, 4] []] (K' := [.code [(2, 0), (1, 0)] 0, .blk 0, .code [] 3]) (σ' := ⟨[(0, .int .i64 a0), (3, .int .i64 (0 : Int)), (4, .int .i64 (0 : Int))], []⟩) rfl trivial rfl ?_
  obtain ⟨v4, hk4, h⟩ := bind_some h
  refine Tri.loop (K1 := [.code [(2, 0), (1, 0), (0, 0)] 0]) (K2 := [.blk 0, .code [] 3]) (fun (v1, v2) => ⟨[(0, .int .i64 a0), (3, .int .i64 v1), (4, .int .i64 v2)], []⟩) (fun x e σ' => match x with | v4 => e = .exit 0 ∧ σ' = ⟨[(3, .int .i64 v4)], []⟩) hk4 rfl rfl ?_ ?_
  · intro s x hs
    clear h
    have h := hs
    clear hs
    obtain ⟨v1, v2⟩ := s
    refine Tri.run 1 [] [.keep [0, 3, 4, 6] []] (K' := [.code [(2, 0), (1, 0), (0, 0), (0, 0)] 1, .code [(2, 0), (1, 0), (0, 0)] 1]) (σ' := ⟨[(0, .int .i64 a0), (3, .int .i64 v1), (4, .int .i64 v2), (6, .bool (decide (v2 < (5 : Int))))], []⟩) rfl trivial rfl ?_
    rcases bif_some h with ⟨hd1, h⟩ | ⟨hd1, h⟩
    · obtain ⟨v3, hk2, h⟩ := bind_some h
      refine Tri.run 2 [.g true, .r ⟨[], .bool v3, []⟩] [.keep [0, 3, 4, 11] []] (K' := [.code [(2, 0), (1, 0), (0, 0), (1, 0), (0, 0)] 1, .blk 1, .code [(2, 0), (1, 0), (0, 0)] 2]) (σ' := ⟨[(0, .int .i64 a0), (3, .int .i64 v1), (4, .int .i64 v2), (11, .bool v3)], []⟩) rfl ⟨(fun _ => (w_spec_HasPlayer a0 v2 v3 hk2)), hd1, trivial⟩ rfl ?_
      rcases bif_some h with ⟨hd3, h⟩ | ⟨hd3, h⟩
      · refine Tri.run 3 [.g true] [.keep [0, 3, 4] []] (K' := []) (σ' := ⟨[(0, .int .i64 a0), (3, .int .i64 (IntKind.i64.wrap (v1 + (1 : Int)))), (4, .int .i64 (IntKind.i64.wrap (v2 + (1 : Int))))], []⟩) rfl ⟨hd3, trivial⟩ rfl ?_
        have h := Option.some.inj h
        subst h
        exact Tri.nil ⟨rfl, rfl⟩
      · refine Tri.run 2 [.g false] [.keep [0, 3, 4] []] (K' := []) (σ' := ⟨[(0, .int .i64 a0), (3, .int .i64 v1), (4, .int .i64 (IntKind.i64.wrap (v2 + (1 : Int))))], []⟩) rfl ⟨hd3, trivial⟩ rfl ?_
        have h := Option.some.inj h
        subst h
        exact Tri.nil ⟨rfl, rfl⟩
    · refine Tri.run 1 [.g false] [.keep [3] []] (K' := [.code [(2, 0), (1, 0), (0, 0), (0, 0), (1, 1)] 0, .code [(2, 0), (1, 0), (0, 0)] 1]) (σ' := ⟨[(3, .int .i64 v1)], []⟩) rfl ⟨hd1, trivial⟩ rfl ?_
      have h := Option.some.inj h
      subst h
      exact Tri.out 0 rfl ⟨nofun, rfl, rfl⟩
  · intro e σ' hne hq
    obtain ⟨rfl, rfl⟩ := hq
    refine TriX.exit (K' := [.code [] 3]) rfl ?_
    refine Tri.run 1 [] [.keep [2] []] (K' := [.code [] 4]) (σ' := ⟨[(2, .int .i64 v4)], []⟩) rfl trivial rfl ?_
    have h := Option.some.inj h
    subst h
    exact Tri.ret rfl ⟨.inl rfl, rfl, rfl⟩
/-! spec.l1PickInt -/
noncomputable def E70_spec_l1PickInt : Env := ⟨Try.prog, tys, (Try.f70.body).getD .skip, 12, tysOk, mixedOk⟩
abbrev q_spec_l1PickInt_io1 (x0 : Value) (a0 : List UInt8) (r : Int × Int × Int) (σ' : ASt) : Prop := resAV E70_spec_l1PickInt.T σ' Try.f70.results.toList = some (.int .i64 r.1) ∧ keepO σ'.ob (namesO [(2100, .box [.lst x0 (.bytes a0), .int .i64 r.2.1, .int .i64 r.2.2])]) = [(2100, .box [.lst x0 (.bytes a0), .int .i64 r.2.1, .int .i64 r.2.2])]
noncomputable def m_spec_l1PickInt_io1 (a0 : List UInt8) (a1 : Int) (a2 : Int) (a3 : List Int) : Option (Int × Int × Int) :=
(m_spec_l1Below_io1 a0 a1 a2 (a3.length : Int)).bind fun (v1, v2, v3) =>
grd ((0 : Int) ≤ v1 ∧ v1 < (a3.length : Int)) <|
some (a3.getD v1.toNat 0, v2, v3)
theorem w_spec_l1PickInt_io1 (x0 : Value) (a0 : List UInt8) (a1 : Int) (a2 : Int) (a3 : List Int) (r : Int × Int × Int) (h : m_spec_l1PickInt_io1 a0 a1 a2 a3 = some r) : AM.Spec Try.prog 70 [.ptr 2100 0, .list (.ints a3)] [(2100, .box [.lst x0 (.bytes a0), .int .i64 a1, .int .i64 a2])] (.int .i64 r.1) [(2100, .box [.lst x0 (.bytes a0), .int .i64 r.2.1, .int .i64 r.2.2])] := by
  refine spec_of (E := E70_spec_l1PickInt) Try.func70 rfl rfl rfl rfl ?_
  refine Tri.run 1 [] [.keep [0, 1] [2100]] (K' := [.code [(1, 0)] 0, .code [] 2]) (σ' := ⟨[(0, .ptr 2100 0), (1, .list (.ints a3))], [(2100, .box [.lst x0 (.bytes a0), .int .i64 a1, .int .i64 a2])]⟩) rfl trivial rfl ?_
  obtain ⟨⟨v1, v2, v3⟩, hk1, h⟩ := bind_some h
  obtain ⟨hg2, h⟩ := grd_some h
  refine Tri.run 1 [.r ⟨[2100], .int .i64 v1, [(2100, .box [.undf, .int .i64 v2, .int .i64 v3])]⟩] [.keep [4] [2100]] (K' := [.code [] 2]) (σ' := ⟨[(4, .int .i64 (a3.getD v1.toNat 0))], [(2100, .box [.lst x0 (.bytes a0), .int .i64 v2, .int .i64 v3])]⟩) rfl ⟨hg2, (fun vf => ((w_spec_l1Below_io1 (vf 2100 0) a0 a1 a2 (a3.length : Int) (v1, v2, v3) hk1).swap 2060 2100)), trivial⟩ rfl ?_
  have h := Option.some.inj h
  subst h
  exact Tri.ret rfl ⟨.inl rfl, rfl, rfl⟩
/-! spec.l1Max -/
noncomputable def E69_spec_l1Max : Env := ⟨Try.prog, tys, (Try.f69.body).getD .skip, 10, tysOk, mixedOk⟩
abbrev q_spec_l1Max (r : Int) (σ' : ASt) : Prop := resAV E69_spec_l1Max.T σ' Try.f69.results.toList = some (.int .i64 r) ∧ keepO σ'.ob (namesO []) = []
noncomputable def m_spec_l1Max (a0 : Int) (a1 : Int) : Option Int :=
bif decide (a0 > a1) then
(some a0)
else
(some a1)
theorem w_spec_l1Max (a0 : Int) (a1 : Int) (r : Int) (h : m_spec_l1Max a0 a1 = some r) : AM.Spec Try.prog 69 [.int .i64 a0, .int .i64 a1] [] (.int .i64 r) [] := by
  refine spec_of (E := E69_spec_l1Max) Try.func69 rfl rfl rfl rfl ?_
  refine Tri.run 2 [] [.keep [0, 1, 7] []] (K' := [.code [(1, 0)] 1, .code [] 2]) (σ' := ⟨[(0, .int .i64 a0), (1, .int .i64 a1), (7, .bool (decide (a0 > a1)))], []⟩) rfl trivial rfl ?_
  rcases bif_some h with ⟨hd1, h⟩ | ⟨hd1, h⟩
  · refine Tri.run 2 [.g true] [.keep [4] []] (K' := [.code [(1, 0), (1, 0)] 1, .code [] 2]) (σ' := ⟨[(4, .int .i64 a0)], []⟩) rfl ⟨hd1, trivial⟩ rfl ?_
    have h := Option.some.inj h
    subst h
    exact Tri.ret rfl ⟨.inl rfl, rfl, rfl⟩
  · refine Tri.run 2 [.g false] [.keep [4] []] (K' := [.code [] 3]) (σ' := ⟨[(4, .int .i64 a1)], []⟩) rfl ⟨hd1, trivial⟩ rfl ?_
    have h := Option.some.inj h
    subst h
    exact Tri.ret rfl ⟨.inl rfl, rfl, rfl⟩
/-! spec.l1Bit -/
noncomputable def E107_spec_l1Bit : Env := ⟨Try.prog, tys, (Try.f107.body).getD .skip, 4, tysOk, mixedOk⟩
abbrev q_spec_l1Bit (r : Int) (σ' : ASt) : Prop := resAV E107_spec_l1Bit.T σ' Try.f107.results.toList = some (.int .i64 r) ∧ keepO σ'.ob (namesO []) = []
noncomputable def m_spec_l1Bit (a0 : Bool) : Option Int :=
bif a0 then
(some (1 : Int))
else
(some (0 : Int))
theorem w_spec_l1Bit (a0 : Bool) (r : Int) (h : m_spec_l1Bit a0 = some r) : AM.Spec Try.prog 107 [.bool a0] [] (.int .i64 r) [] := by
  refine spec_of (E := E107_spec_l1Bit) Try.func107 rfl rfl rfl rfl ?_
  refine Tri.run 2 [] [.keep [3] []] (K' := [.code [(1, 0)] 1, .code [] 2]) (σ' := ⟨[(3, .bool a0)], []⟩) rfl trivial rfl ?_
  rcases bif_some h with ⟨hd1, h⟩ | ⟨hd1, h⟩
  · refine Tri.run 2 [.g true] [.keep [2] []] (K' := [.code [(1, 0), (1, 0)] 1, .code [] 2]) (σ' := ⟨[(2, .int .i64 (1 : Int))], []⟩) rfl ⟨hd1, trivial⟩ rfl ?_
    have h := Option.some.inj h
    subst h
    exact Tri.ret rfl ⟨.inl rfl, rfl, rfl⟩
  · refine Tri.run 2 [.g false] [.keep [2] []] (K' := [.code [] 3]) (σ' := ⟨[(2, .int .i64 (0 : Int))], []⟩) rfl ⟨hd1, trivial⟩ rfl ?_
    have h := Option.some.inj h
    subst h
    exact Tri.ret rfl ⟨.inl rfl, rfl, rfl⟩
/-! spec.l8Draw -/
noncomputable def E98_spec_l8Draw : Env := ⟨Try.prog, tys, (Try.f98.body).getD .skip, 81, tysOk, mixedOk⟩
abbrev q_spec_l8Draw_io1 (x0 : Value) (a0 : List UInt8) (r : Int × (List Int) × Int × Int) (σ' : ASt) : Prop := resAV E98_spec_l8Draw.T σ' Try.f98.results.toList = some (.agg [.int .i64 r.1, .sl 1000 0]) ∧ keepO σ'.ob (namesO [(1000, .arr 3 0 0 (.ints r.2.1)), (2040, .box [.lst x0 (.bytes a0), .int .i64 r.2.2.1, .int .i64 r.2.2.2])]) = [(1000, .arr 3 0 0 (.ints r.2.1)), (2040, .box [.lst x0 (.bytes a0), .int .i64 r.2.2.1, .int .i64 r.2.2.2])]
noncomputable def l_spec_l8Draw_io1_0 (a0 : List UInt8) (v1 : Int) (v5 : Int) : (Int × (List Int) × Int × Int) → Option ((Int × (List Int) × Int × Int) ⊕ (((List Int) × Int × Int)))
  | (v8, v9, v10, v11) => (
bif decide (v8 < (v9.length : Int)) then
(bif v5 == (0 : Int) then
((m_spec_SizeOf v8).bind fun v12 =>
(m_spec_SizeOf v8).bind fun v13 =>
(m_spec_l1Below_io1 a0 v10 v11 (2 : Int)).bind fun (v14, v15, v16) =>
grd ((0 : Int) ≤ v8 ∧ v8 < (v9.length : Int)) <|
some (.inl (IntKind.i64.wrap (v8 + (1 : Int)), v9.set v8.toNat (IntKind.i64.wrap ((IntKind.i64.wrap (v12 * v13)) + v14)), v15, v16)))
else
(bif v5 == (1 : Int) then
((m_spec_l1PickInt_io1 a0 v10 v11 [(0 : Int), (1 : Int), (2 : Int), (3 : Int), (5 : Int), (8 : Int), (-2 : Int), (4 : Int)]).bind fun (v17, v18, v19) =>
grd ((0 : Int) ≤ v8 ∧ v8 < (v9.length : Int)) <|
some (.inl (IntKind.i64.wrap (v8 + (1 : Int)), v9.set v8.toNat v17, v18, v19)))
else
(bif v5 == (2 : Int) then
((m_spec_SizeOf v8).bind fun v20 =>
(m_spec_l1Below_io1 a0 v10 v11 (2 : Int)).bind fun (v21, v22, v23) =>
(m_spec_l1Max (0 : Int) (IntKind.i64.wrap ((IntKind.i64.wrap ((IntKind.i64.wrap ((3 : Int) * v20)) - (2 : Int))) - v21))).bind fun v24 =>
grd ((0 : Int) ≤ v8 ∧ v8 < (v9.length : Int)) <|
some (.inl (IntKind.i64.wrap (v8 + (1 : Int)), v9.set v8.toNat v24, v22, v23)))
else
((m_spec_SizeOf v8).bind fun v25 =>
(m_spec_l1Bit (decide ((IntKind.i64.wrap (v25 * (2 : Int))) > (IntKind.i64.wrap ((1 : Int) + v1))))).bind fun v26 =>
(m_spec_l1Below_io1 a0 v10 v11 (2 : Int)).bind fun (v27, v28, v29) =>
grd ((0 : Int) ≤ v8 ∧ v8 < (v9.length : Int)) <|
some (.inl (IntKind.i64.wrap (v8 + (1 : Int)), v9.set v8.toNat (IntKind.i64.wrap (v26 * (IntKind.i64.wrap ((3 : Int) + (IntKind.i64.wrap (v27 * (3 : Int))))))), v28, v29))))))
else
(some (.inr (v9, v10, v11))))
noncomputable def m_spec_l8Draw_io1 (a0 : List UInt8) (a1 : Int) (a2 : Int) (a3 : Int) : Option (Int × (List Int) × Int × Int) :=
(m_spec_l1Below_io1 a0 a1 a2 a3).bind fun (v1, v2, v3) =>
(m_spec_CountCoalitions (IntKind.i64.wrap ((1 : Int) + v1))).bind fun v4 =>
grd ((0 : Int) ≤ v4 ∧ v4 = v4 ∧ v4 ≤ (room : Int)) <|
(m_spec_l1Below_io1 a0 v2 v3 (4 : Int)).bind fun (v5, v6, v7) =>
(iter (l_spec_l8Draw_io1_0 a0 v1 v5) ((1 : Int), List.replicate v4.toNat (0 : Int), v6, v7)).bind fun
| (v30, v31, v32) => (
some (IntKind.i64.wrap ((1 : Int) + v1), v30, v31, v32))
theorem w_spec_l8Draw_io1 (x0 : Value) (a0 : List UInt8) (a1 : Int) (a2 : Int) (a3 : Int) (r : Int × (List Int) × Int × Int) (h : m_spec_l8Draw_io1 a0 a1 a2 a3 = some r) : AM.Spec Try.prog 98 [.ptr 2040 0, .int .i64 a3] [(2040, .box [.lst x0 (.bytes a0), .int .i64 a1, .int .i64 a2])] (.agg [.int .i64 r.1, .sl 1000 0]) [(1000, .arr 3 0 0 (.ints r.2.1)), (2040, .box [.lst x0 (.bytes a0), .int .i64 r.2.2.1, .int .i64 r.2.2.2])] := by
  refine spec_of (E := E98_spec_l8Draw) Try.func98 rfl rfl rfl rfl ?_
  refine Tri.run 1 [] [.keep [0, 1, 4] [4, 2040], .ownc 4 1 1100 3, .keep [0, 1, 4] [4, 1100, 2040]] (K' := [.code [(1, 0)] 0, .code [] 2]) (σ' := ⟨[(0, .ptr 2040 0), (1, .int .i64 a3), (4, .ptr 4 0)], [(4, .box [.int .i64 0, .sl 1100 0]), (1100, .arr 3 0 0 (.ints [])), (2040, .box [.lst x0 (.bytes a0), .int .i64 a1, .int .i64 a2])]⟩) rfl trivial rfl ?_
  obtain ⟨⟨v1, v2, v3⟩, hk1, h⟩ := bind_some h
  obtain ⟨v4, hk2, h⟩ := bind_some h
  obtain ⟨hg3, h⟩ := grd_some h
  refine Tri.run 2 [.r ⟨[2040], .int .i64 v1, [(2040, .box [.undf, .int .i64 v2, .int .i64 v3])]⟩, .r ⟨[], .int .i64 v4, []⟩] [.keep [0, 4, 5, 6] [4, 6, 16, 1100, 2040]] (K' := [.code [(3, 0)] 0, .code [] 4]) (σ' := ⟨[(0, .ptr 2040 0), (4, .ptr 4 0), (5, .int .i64 (IntKind.i64.wrap ((1 : Int) + v1))), (6, .ptr 6 0)], [(4, .box [.int .i64 0, .sl 1100 0]), (6, .box [.int .i64 (IntKind.i64.wrap ((1 : Int) + v1)), .sl 16 0]), (16, .arr 3 0 0 (.ints (List.replicate v4.toNat (0 : Int)))), (1100, .arr 3 0 0 (.ints [])), (2040, .box [.lst x0 (.bytes a0), .int .i64 v2, .int .i64 v3])]⟩) rfl ⟨hg3, (fun _ => (w_spec_CountCoalitions (IntKind.i64.wrap ((1 : Int) + v1)) v4 hk2)), (fun vf => ((w_spec_l1Below_io1 (vf 2040 0) a0 a1 a2 a3 (v1, v2, v3) hk1).swap 2060 2040)), trivial⟩ rfl ?_
  obtain ⟨⟨v5, v6, v7⟩, hk4, h⟩ := bind_some h
  refine Tri.run 2 [.r ⟨[2040], .int .i64 v5, [(2040, .box [.undf, .int .i64 v6, .int .i64 v7])]⟩] [.keep [0, 4, 5, 6, 7, 8] [4, 6, 16, 1100, 2040]] (K' := [.code [(4, 0), (1, 0)] 0, .blk 0, .code [] 5]) (σ' := ⟨[(0, .ptr 2040 0), (4, .ptr 4 0), (5, .int .i64 (IntKind.i64.wrap ((1 : Int) + v1))), (6, .ptr 6 0), (7, .int .i64 v5), (8, .int .i64 (1 : Int))], [(4, .box [.int .i64 0, .sl 1100 0]), (6, .box [.int .i64 (IntKind.i64.wrap ((1 : Int) + v1)), .sl 16 0]), (16, .arr 3 0 0 (.ints (List.replicate v4.toNat (0 : Int)))), (1100, .arr 3 0 0 (.ints [])), (2040, .box [.lst x0 (.bytes a0), .int .i64 v6, .int .i64 v7])]⟩) rfl ⟨(fun vf => ((w_spec_l1Below_io1 (vf 2040 0) a0 v2 v3 (4 : Int) (v5, v6, v7) hk4).swap 2060 2040)), trivial⟩ rfl ?_
  obtain ⟨x1, hk23, h⟩ := bind_some h
  refine Tri.loop (K1 := [.code [(4, 0), (1, 0), (0, 0)] 0]) (K2 := [.blk 0, .code [] 5]) (fun (v8, v9, v10, v11) => ⟨[(0, .ptr 2040 0), (4, .ptr 4 0), (5, .int .i64 (IntKind.i64.wrap ((1 : Int) + v1))), (6, .ptr 6 0), (7, .int .i64 v5), (8, .int .i64 v8)], [(4, .box [.int .i64 0, .sl 1100 0]), (6, .box [.int .i64 (IntKind.i64.wrap ((1 : Int) + v1)), .sl 16 0]), (16, .arr 3 0 0 (.ints v9)), (1100, .arr 3 0 0 (.ints [])), (2040, .box [.lst x0 (.bytes a0), .int .i64 v10, .int .i64 v11])]⟩) (fun x e σ' => match x with | (v30, v31, v32) => e = .exit 0 ∧ σ' = ⟨[(4, .ptr 4 0), (6, .ptr 6 0)], [(4, .box [.int .i64 0, .sl 1100 0]), (6, .box [.int .i64 (IntKind.i64.wrap ((1 : Int) + v1)), .sl 16 0]), (16, .arr 3 0 0 (.ints v30)), (1100, .arr 3 0 0 (.ints [])), (2040, .box [.lst x0 (.bytes a0), .int .i64 v31, .int .i64 v32])]⟩) hk23 rfl rfl ?_ ?_
  · intro s x hs
    clear h
    have h := hs
    clear hs
    obtain ⟨v8, v9, v10, v11⟩ := s
    refine Tri.run 1 [] [.keep [0, 4, 5, 6, 7, 8, 24] [4, 6, 16, 1100, 2040]] (K' := [.code [(4, 0), (1, 0), (0, 0), (0, 0)] 1, .code [(4, 0), (1, 0), (0, 0)] 1]) (σ' := ⟨[(0, .ptr 2040 0), (4, .ptr 4 0), (5, .int .i64 (IntKind.i64.wrap ((1 : Int) + v1))), (6, .ptr 6 0), (7, .int .i64 v5), (8, .int .i64 v8), (24, .bool (decide (v8 < (v9.length : Int))))], [(4, .box [.int .i64 0, .sl 1100 0]), (6, .box [.int .i64 (IntKind.i64.wrap ((1 : Int) + v1)), .sl 16 0]), (16, .arr 3 0 0 (.ints v9)), (1100, .arr 3 0 0 (.ints [])), (2040, .box [.lst x0 (.bytes a0), .int .i64 v10, .int .i64 v11])]⟩) rfl trivial rfl ?_
    rcases bif_some h with ⟨hd5, h⟩ | ⟨hd5, h⟩
    · refine Tri.run 3 [.g true] [.keep [0, 4, 5, 6, 7, 8, 27, 43] [4, 6, 16, 1100, 2040]] (K' := [.code [(4, 0), (1, 0), (0, 0), (1, 0), (0, 0), (1, 0)] 1, .blk 2, .blk 1, .code [(4, 0), (1, 0), (0, 0)] 2]) (σ' := ⟨[(0, .ptr 2040 0), (4, .ptr 4 0), (5, .int .i64 (IntKind.i64.wrap ((1 : Int) + v1))), (6, .ptr 6 0), (7, .int .i64 v5), (8, .int .i64 v8), (27, .int .i64 v5), (43, .bool (v5 == (0 : Int)))], [(4, .box [.int .i64 0, .sl 1100 0]), (6, .box [.int .i64 (IntKind.i64.wrap ((1 : Int) + v1)), .sl 16 0]), (16, .arr 3 0 0 (.ints v9)), (1100, .arr 3 0 0 (.ints [])), (2040, .box [.lst x0 (.bytes a0), .int .i64 v10, .int .i64 v11])]⟩) rfl ⟨hd5, trivial⟩ rfl ?_
      rcases bif_some h with ⟨hd6, h⟩ | ⟨hd6, h⟩
      · obtain ⟨v12, hk7, h⟩ := bind_some h
        obtain ⟨v13, hk8, h⟩ := bind_some h
        obtain ⟨⟨v14, v15, v16⟩, hk9, h⟩ := bind_some h
        obtain ⟨hg10, h⟩ := grd_some h
        refine Tri.run 3 [.g true, .r ⟨[], .int .i64 v12, []⟩, .r ⟨[], .int .i64 v13, []⟩, .r ⟨[2040], .int .i64 v14, [(2040, .box [.undf, .int .i64 v15, .int .i64 v16])]⟩] [.keep [0, 4, 5, 6, 7, 8] [4, 6, 16, 1100, 2040]] (K' := []) (σ' := ⟨[(0, .ptr 2040 0), (4, .ptr 4 0), (5, .int .i64 (IntKind.i64.wrap ((1 : Int) + v1))), (6, .ptr 6 0), (7, .int .i64 v5), (8, .int .i64 (IntKind.i64.wrap (v8 + (1 : Int))))], [(4, .box [.int .i64 0, .sl 1100 0]), (6, .box [.int .i64 (IntKind.i64.wrap ((1 : Int) + v1)), .sl 16 0]), (16, .arr 3 0 0 (.ints (v9.set v8.toNat (IntKind.i64.wrap ((IntKind.i64.wrap (v12 * v13)) + v14))))), (1100, .arr 3 0 0 (.ints [])), (2040, .box [.lst x0 (.bytes a0), .int .i64 v15, .int .i64 v16])]⟩) rfl ⟨hg10, (fun vf => ((w_spec_l1Below_io1 (vf 2040 0) a0 v10 v11 (2 : Int) (v14, v15, v16) hk9).swap 2060 2040)), (fun _ => (w_spec_SizeOf v8 v13 hk8)), (fun _ => (w_spec_SizeOf v8 v12 hk7)), hd6, trivial⟩ rfl ?_
        have h := Option.some.inj h
        subst h
        exact Tri.nil ⟨rfl, rfl⟩
      · refine Tri.run 2 [.g false] [.keep [0, 4, 5, 6, 7, 8, 27, 57] [4, 6, 16, 1100, 2040]] (K' := [.code [(4, 0), (1, 0), (0, 0), (1, 0), (0, 0), (1, 0), (1, 1)] 1, .blk 2, .blk 1, .code [(4, 0), (1, 0), (0, 0)] 2]) (σ' := ⟨[(0, .ptr 2040 0), (4, .ptr 4 0), (5, .int .i64 (IntKind.i64.wrap ((1 : Int) + v1))), (6, .ptr 6 0), (7, .int .i64 v5), (8, .int .i64 v8), (27, .int .i64 v5), (57, .bool (v5 == (1 : Int)))], [(4, .box [.int .i64 0, .sl 1100 0]), (6, .box [.int .i64 (IntKind.i64.wrap ((1 : Int) + v1)), .sl 16 0]), (16, .arr 3 0 0 (.ints v9)), (1100, .arr 3 0 0 (.ints [])), (2040, .box [.lst x0 (.bytes a0), .int .i64 v10, .int .i64 v11])]⟩) rfl ⟨hd6, trivial⟩ rfl ?_
        rcases bif_some h with ⟨hd11, h⟩ | ⟨hd11, h⟩
        · obtain ⟨⟨v17, v18, v19⟩, hk12, h⟩ := bind_some h
          obtain ⟨hg13, h⟩ := grd_some h
          refine Tri.run 3 [.g true, .r ⟨[2040], .int .i64 v17, [(2040, .box [.undf, .int .i64 v18, .int .i64 v19])]⟩] [.keep [0, 4, 5, 6, 7, 8] [4, 6, 16, 1100, 2040]] (K' := []) (σ' := ⟨[(0, .ptr 2040 0), (4, .ptr 4 0), (5, .int .i64 (IntKind.i64.wrap ((1 : Int) + v1))), (6, .ptr 6 0), (7, .int .i64 v5), (8, .int .i64 (IntKind.i64.wrap (v8 + (1 : Int))))], [(4, .box [.int .i64 0, .sl 1100 0]), (6, .box [.int .i64 (IntKind.i64.wrap ((1 : Int) + v1)), .sl 16 0]), (16, .arr 3 0 0 (.ints (v9.set v8.toNat v17))), (1100, .arr 3 0 0 (.ints [])), (2040, .box [.lst x0 (.bytes a0), .int .i64 v18, .int .i64 v19])]⟩) rfl ⟨hg13, (fun vf => ((w_spec_l1PickInt_io1 (vf 2040 0) a0 v10 v11 [(0 : Int), (1 : Int), (2 : Int), (3 : Int), (5 : Int), (8 : Int), (-2 : Int), (4 : Int)] (v17, v18, v19) hk12).swap 2100 2040)), hd11, trivial⟩ rfl ?_
          have h := Option.some.inj h
          subst h
          exact Tri.nil ⟨rfl, rfl⟩
        · refine Tri.run 2 [.g false] [.keep [0, 4, 5, 6, 7, 8, 66] [4, 6, 16, 1100, 2040]] (K' := [.code [(4, 0), (1, 0), (0, 0), (1, 0), (0, 0), (1, 0), (1, 1), (1, 1)] 1, .blk 2, .blk 1, .code [(4, 0), (1, 0), (0, 0)] 2]) (σ' := ⟨[(0, .ptr 2040 0), (4, .ptr 4 0), (5, .int .i64 (IntKind.i64.wrap ((1 : Int) + v1))), (6, .ptr 6 0), (7, .int .i64 v5), (8, .int .i64 v8), (66, .bool (v5 == (2 : Int)))], [(4, .box [.int .i64 0, .sl 1100 0]), (6, .box [.int .i64 (IntKind.i64.wrap ((1 : Int) + v1)), .sl 16 0]), (16, .arr 3 0 0 (.ints v9)), (1100, .arr 3 0 0 (.ints [])), (2040, .box [.lst x0 (.bytes a0), .int .i64 v10, .int .i64 v11])]⟩) rfl ⟨hd11, trivial⟩ rfl ?_
          rcases bif_some h with ⟨hd14, h⟩ | ⟨hd14, h⟩
          · obtain ⟨v20, hk15, h⟩ := bind_some h
            obtain ⟨⟨v21, v22, v23⟩, hk16, h⟩ := bind_some h
            obtain ⟨v24, hk17, h⟩ := bind_some h
            obtain ⟨hg18, h⟩ := grd_some h
            refine Tri.run 3 [.g true, .r ⟨[], .int .i64 v20, []⟩, .r ⟨[2040], .int .i64 v21, [(2040, .box [.undf, .int .i64 v22, .int .i64 v23])]⟩, .r ⟨[], .int .i64 v24, []⟩] [.keep [0, 4, 5, 6, 7, 8] [4, 6, 16, 1100, 2040]] (K' := []) (σ' := ⟨[(0, .ptr 2040 0), (4, .ptr 4 0), (5, .int .i64 (IntKind.i64.wrap ((1 : Int) + v1))), (6, .ptr 6 0), (7, .int .i64 v5), (8, .int .i64 (IntKind.i64.wrap (v8 + (1 : Int))))], [(4, .box [.int .i64 0, .sl 1100 0]), (6, .box [.int .i64 (IntKind.i64.wrap ((1 : Int) + v1)), .sl 16 0]), (16, .arr 3 0 0 (.ints (v9.set v8.toNat v24))), (1100, .arr 3 0 0 (.ints [])), (2040, .box [.lst x0 (.bytes a0), .int .i64 v22, .int .i64 v23])]⟩) rfl ⟨hg18, (fun _ => (w_spec_l1Max (0 : Int) (IntKind.i64.wrap ((IntKind.i64.wrap ((IntKind.i64.wrap ((3 : Int) * v20)) - (2 : Int))) - v21)) v24 hk17)), (fun vf => ((w_spec_l1Below_io1 (vf 2040 0) a0 v10 v11 (2 : Int) (v21, v22, v23) hk16).swap 2060 2040)), (fun _ => (w_spec_SizeOf v8 v20 hk15)), hd14, trivial⟩ rfl ?_
            have h := Option.some.inj h
            subst h
            exact Tri.nil ⟨rfl, rfl⟩
          · obtain ⟨v25, hk19, h⟩ := bind_some h
            obtain ⟨v26, hk20, h⟩ := bind_some h
            obtain ⟨⟨v27, v28, v29⟩, hk21, h⟩ := bind_some h
            obtain ⟨hg22, h⟩ := grd_some h
            refine Tri.run 3 [.g false, .r ⟨[], .int .i64 v25, []⟩, .r ⟨[], .int .i64 v26, []⟩, .r ⟨[2040], .int .i64 v27, [(2040, .box [.undf, .int .i64 v28, .int .i64 v29])]⟩] [.keep [0, 4, 5, 6, 7, 8] [4, 6, 16, 1100, 2040]] (K' := []) (σ' := ⟨[(0, .ptr 2040 0), (4, .ptr 4 0), (5, .int .i64 (IntKind.i64.wrap ((1 : Int) + v1))), (6, .ptr 6 0), (7, .int .i64 v5), (8, .int .i64 (IntKind.i64.wrap (v8 + (1 : Int))))], [(4, .box [.int .i64 0, .sl 1100 0]), (6, .box [.int .i64 (IntKind.i64.wrap ((1 : Int) + v1)), .sl 16 0]), (16, .arr 3 0 0 (.ints (v9.set v8.toNat (IntKind.i64.wrap (v26 * (IntKind.i64.wrap ((3 : Int) + (IntKind.i64.wrap (v27 * (3 : Int)))))))))), (1100, .arr 3 0 0 (.ints [])), (2040, .box [.lst x0 (.bytes a0), .int .i64 v28, .int .i64 v29])]⟩) rfl ⟨hg22, (fun vf => ((w_spec_l1Below_io1 (vf 2040 0) a0 v10 v11 (2 : Int) (v27, v28, v29) hk21).swap 2060 2040)), (fun _ => (w_spec_l1Bit (decide ((IntKind.i64.wrap (v25 * (2 : Int))) > (IntKind.i64.wrap ((1 : Int) + v1)))) v26 hk20)), (fun _ => (w_spec_SizeOf v8 v25 hk19)), hd14, trivial⟩ rfl ?_
            have h := Option.some.inj h
            subst h
            exact Tri.nil ⟨rfl, rfl⟩
    · refine Tri.run 1 [.g false] [.keep [4, 6] [4, 6, 16, 1100, 2040]] (K' := [.code [(4, 0), (1, 0), (0, 0), (0, 0), (1, 1)] 0, .code [(4, 0), (1, 0), (0, 0)] 1]) (σ' := ⟨[(4, .ptr 4 0), (6, .ptr 6 0)], [(4, .box [.int .i64 0, .sl 1100 0]), (6, .box [.int .i64 (IntKind.i64.wrap ((1 : Int) + v1)), .sl 16 0]), (16, .arr 3 0 0 (.ints v9)), (1100, .arr 3 0 0 (.ints [])), (2040, .box [.lst x0 (.bytes a0), .int .i64 v10, .int .i64 v11])]⟩) rfl ⟨hd5, trivial⟩ rfl ?_
      have h := Option.some.inj h
      subst h
      exact Tri.out 0 rfl ⟨nofun, rfl, rfl⟩
  · intro e σ' hne hq
    obtain ⟨v30, v31, v32⟩ := x1
    obtain ⟨rfl, rfl⟩ := hq
    refine TriX.exit (K' := [.code [] 5]) rfl ?_
    refine Tri.run 1 [] [.swap 16 1000, .keep [4] [4, 1000, 2040]] (K' := [.code [] 6]) (σ' := ⟨[(4, .ptr 4 0)], [(4, .box [.int .i64 (IntKind.i64.wrap ((1 : Int) + v1)), .sl 1000 0]), (1000, .arr 3 0 0 (.ints v30)), (2040, .box [.lst x0 (.bytes a0), .int .i64 v31, .int .i64 v32])]⟩) rfl trivial rfl ?_
    have h := Option.some.inj h
    subst h
    exact Tri.ret rfl ⟨.inl rfl, rfl, rfl⟩
/-! spec.l8Bent -/
noncomputable def E54_spec_l8Bent : Env := ⟨Try.prog, tys, (Try.f54.body).getD .skip, 39, tysOk, mixedOk⟩
abbrev q_spec_l8Bent_io1 (x0 : Value) (a0 : List UInt8) (r : Int × (List Int) × Int × Int) (σ' : ASt) : Prop := resAV E54_spec_l8Bent.T σ' Try.f54.results.toList = some (.agg [.int .i64 r.1, .sl 1000 0]) ∧ keepO σ'.ob (namesO [(1000, .arr 3 0 0 (.ints r.2.1)), (2020, .box [.lst x0 (.bytes a0), .int .i64 r.2.2.1, .int .i64 r.2.2.2])]) = [(1000, .arr 3 0 0 (.ints r.2.1)), (2020, .box [.lst x0 (.bytes a0), .int .i64 r.2.2.1, .int .i64 r.2.2.2])]
noncomputable def m_spec_l8Bent_io1 (a0 : List UInt8) (a1 : Int) (a2 : Int) : Option (Int × (List Int) × Int × Int) :=
(m_spec_l8Draw_io1 a0 a1 a2 (4 : Int)).bind fun (v1, v2, v3, v4) =>
(m_spec_l1Below_io1 a0 v3 v4 (12 : Int)).bind fun (v5, v6, v7) =>
bif v5 == (0 : Int) then
(grd ((0 : Int) ≤ (0 : Int) ∧ (0 : Int) < (v2.length : Int)) <|
some (v1, v2.set ((0 : Int).toNat) (1 : Int), v6, v7))
else
(bif v5 == (1 : Int) then
((m_spec_l1PickInt_io1 a0 v6 v7 [(0 : Int), (6 : Int), (2 : Int), (-1 : Int)]).bind fun (v8, v9, v10) =>
some (v8, v2, v9, v10))
else
(bif v5 == (2 : Int) then
(grd (v2.length + ([(1 : Int)] : List Int).length ≤ room) <|
some (v1, v2 ++ [(1 : Int)], v6, v7))
else
(bif v5 == (3 : Int) then
((m_spec_l1PickInt_io1 a0 v6 v7 [(500 : Int), (501 : Int), (-501 : Int)]).bind fun (v11, v12, v13) =>
grd ((0 : Int) ≤ IntKind.i64.wrap ((v2.length : Int) - (1 : Int)) ∧ IntKind.i64.wrap ((v2.length : Int) - (1 : Int)) < (v2.length : Int)) <|
some (v1, v2.set ((IntKind.i64.wrap ((v2.length : Int) - (1 : Int))).toNat) v11, v12, v13))
else
(some (v1, v2, v6, v7)))))
theorem w_spec_l8Bent_io1 (x0 : Value) (a0 : List UInt8) (a1 : Int) (a2 : Int) (r : Int × (List Int) × Int × Int) (h : m_spec_l8Bent_io1 a0 a1 a2 = some r) : AM.Spec Try.prog 54 [.ptr 2020 0] [(2020, .box [.lst x0 (.bytes a0), .int .i64 a1, .int .i64 a2])] (.agg [.int .i64 r.1, .sl 1000 0]) [(1000, .arr 3 0 0 (.ints r.2.1)), (2020, .box [.lst x0 (.bytes a0), .int .i64 r.2.2.1, .int .i64 r.2.2.2])] := by
  refine spec_of (E := E54_spec_l8Bent) Try.func54 rfl rfl rfl rfl ?_
  refine Tri.run 1 [] [.keep [0, 2] [2, 2020], .ownc 2 1 1100 3, .keep [0, 2] [2, 1100, 2020]] (K' := [.code [(1, 0)] 0, .code [] 2]) (σ' := ⟨[(0, .ptr 2020 0), (2, .ptr 2 0)], [(2, .box [.int .i64 0, .sl 1100 0]), (1100, .arr 3 0 0 (.ints [])), (2020, .box [.lst x0 (.bytes a0), .int .i64 a1, .int .i64 a2])]⟩) rfl trivial rfl ?_
  obtain ⟨⟨v1, v2, v3, v4⟩, hk1, h⟩ := bind_some h
  obtain ⟨⟨v5, v6, v7⟩, hk2, h⟩ := bind_some h
  refine Tri.run 3 [.r ⟨[2020], .agg [.int .i64 v1, .sl 1101 0], [(1101, .arr 3 0 0 (.ints v2)), (2020, .box [.undf, .int .i64 v3, .int .i64 v4])]⟩, .r ⟨[2020], .int .i64 v5, [(2020, .box [.undf, .int .i64 v6, .int .i64 v7])]⟩] [.keep [0, 2, 3, 7, 8] [2, 3, 1100, 1101, 2020]] (K' := [.code [(2, 0), (1, 0)] 1, .blk 0, .code [] 3]) (σ' := ⟨[(0, .ptr 2020 0), (2, .ptr 2 0), (3, .ptr 3 0), (7, .int .i64 v5), (8, .bool (v5 == (0 : Int)))], [(2, .box [.int .i64 0, .sl 1100 0]), (3, .box [.int .i64 v1, .sl 1101 0]), (1100, .arr 3 0 0 (.ints [])), (1101, .arr 3 0 0 (.ints v2)), (2020, .box [.lst x0 (.bytes a0), .int .i64 v6, .int .i64 v7])]⟩) rfl ⟨(fun vf => ((w_spec_l1Below_io1 (vf 2020 0) a0 v3 v4 (12 : Int) (v5, v6, v7) hk2).swap 2060 2020)), (fun vf => (((w_spec_l8Draw_io1 (vf 2020 0) a0 a1 a2 (4 : Int) (v1, v2, v3, v4) hk1).swap 1000 1101).swap 2040 2020)), trivial⟩ rfl ?_
  rcases bif_some h with ⟨hd3, h⟩ | ⟨hd3, h⟩
  · obtain ⟨hg4, h⟩ := grd_some h
    refine Tri.run 3 [.g true] [.swap 1101 1000, .keep [2] [2, 1000, 2020]] (K' := [.code [] 4]) (σ' := ⟨[(2, .ptr 2 0)], [(2, .box [.int .i64 v1, .sl 1000 0]), (1000, .arr 3 0 0 (.ints (v2.set ((0 : Int).toNat) (1 : Int)))), (2020, .box [.lst x0 (.bytes a0), .int .i64 v6, .int .i64 v7])]⟩) rfl ⟨hg4, hd3, trivial⟩ rfl ?_
    have h := Option.some.inj h
    subst h
    exact Tri.ret rfl ⟨.inl rfl, rfl, rfl⟩
  · refine Tri.run 2 [.g false] [.keep [0, 2, 3, 7, 13] [2, 3, 1100, 1101, 2020]] (K' := [.code [(2, 0), (1, 0), (1, 1)] 1, .blk 0, .code [] 3]) (σ' := ⟨[(0, .ptr 2020 0), (2, .ptr 2 0), (3, .ptr 3 0), (7, .int .i64 v5), (13, .bool (v5 == (1 : Int)))], [(2, .box [.int .i64 0, .sl 1100 0]), (3, .box [.int .i64 v1, .sl 1101 0]), (1100, .arr 3 0 0 (.ints [])), (1101, .arr 3 0 0 (.ints v2)), (2020, .box [.lst x0 (.bytes a0), .int .i64 v6, .int .i64 v7])]⟩) rfl ⟨hd3, trivial⟩ rfl ?_
    rcases bif_some h with ⟨hd5, h⟩ | ⟨hd5, h⟩
    · obtain ⟨⟨v8, v9, v10⟩, hk6, h⟩ := bind_some h
      refine Tri.run 3 [.g true, .r ⟨[2020], .int .i64 v8, [(2020, .box [.undf, .int .i64 v9, .int .i64 v10])]⟩] [.swap 1101 1000, .keep [2] [2, 1000, 2020]] (K' := [.code [] 4]) (σ' := ⟨[(2, .ptr 2 0)], [(2, .box [.int .i64 v8, .sl 1000 0]), (1000, .arr 3 0 0 (.ints v2)), (2020, .box [.lst x0 (.bytes a0), .int .i64 v9, .int .i64 v10])]⟩) rfl ⟨(fun vf => ((w_spec_l1PickInt_io1 (vf 2020 0) a0 v6 v7 [(0 : Int), (6 : Int), (2 : Int), (-1 : Int)] (v8, v9, v10) hk6).swap 2100 2020)), hd5, trivial⟩ rfl ?_
      have h := Option.some.inj h
      subst h
      exact Tri.ret rfl ⟨.inl rfl, rfl, rfl⟩
    · refine Tri.run 2 [.g false] [.keep [0, 2, 3, 7, 19] [2, 3, 1100, 1101, 2020]] (K' := [.code [(2, 0), (1, 0), (1, 1), (1, 1)] 1, .blk 0, .code [] 3]) (σ' := ⟨[(0, .ptr 2020 0), (2, .ptr 2 0), (3, .ptr 3 0), (7, .int .i64 v5), (19, .bool (v5 == (2 : Int)))], [(2, .box [.int .i64 0, .sl 1100 0]), (3, .box [.int .i64 v1, .sl 1101 0]), (1100, .arr 3 0 0 (.ints [])), (1101, .arr 3 0 0 (.ints v2)), (2020, .box [.lst x0 (.bytes a0), .int .i64 v6, .int .i64 v7])]⟩) rfl ⟨hd5, trivial⟩ rfl ?_
      rcases bif_some h with ⟨hd7, h⟩ | ⟨hd7, h⟩
      · obtain ⟨hg8, h⟩ := grd_some h
        refine Tri.run 3 [.g true] [.rever 1101, .swap 1101 1000, .keep [2] [2, 1000, 2020]] (K' := [.code [] 4]) (σ' := ⟨[(2, .ptr 2 0)], [(2, .box [.int .i64 v1, .sl 1000 0]), (1000, .arr 3 0 0 (.ints (v2 ++ [(1 : Int)]))), (2020, .box [.lst x0 (.bytes a0), .int .i64 v6, .int .i64 v7])]⟩) rfl ⟨hg8, hd7, trivial⟩ rfl ?_
        have h := Option.some.inj h
        subst h
        exact Tri.ret rfl ⟨.inl rfl, rfl, rfl⟩
      · refine Tri.run 2 [.g false] [.keep [0, 2, 3, 26] [2, 3, 1100, 1101, 2020]] (K' := [.code [(2, 0), (1, 0), (1, 1), (1, 1), (1, 1)] 1, .blk 0, .code [] 3]) (σ' := ⟨[(0, .ptr 2020 0), (2, .ptr 2 0), (3, .ptr 3 0), (26, .bool (v5 == (3 : Int)))], [(2, .box [.int .i64 0, .sl 1100 0]), (3, .box [.int .i64 v1, .sl 1101 0]), (1100, .arr 3 0 0 (.ints [])), (1101, .arr 3 0 0 (.ints v2)), (2020, .box [.lst x0 (.bytes a0), .int .i64 v6, .int .i64 v7])]⟩) rfl ⟨hd7, trivial⟩ rfl ?_
        rcases bif_some h with ⟨hd9, h⟩ | ⟨hd9, h⟩
        · obtain ⟨⟨v11, v12, v13⟩, hk10, h⟩ := bind_some h
          obtain ⟨hg11, h⟩ := grd_some h
          refine Tri.run 3 [.g true, .r ⟨[2020], .int .i64 v11, [(2020, .box [.undf, .int .i64 v12, .int .i64 v13])]⟩] [.swap 1101 1000, .keep [2] [2, 1000, 2020]] (K' := [.code [] 4]) (σ' := ⟨[(2, .ptr 2 0)], [(2, .box [.int .i64 v1, .sl 1000 0]), (1000, .arr 3 0 0 (.ints (v2.set ((IntKind.i64.wrap ((v2.length : Int) - (1 : Int))).toNat) v11))), (2020, .box [.lst x0 (.bytes a0), .int .i64 v12, .int .i64 v13])]⟩) rfl ⟨hg11, (fun vf => ((w_spec_l1PickInt_io1 (vf 2020 0) a0 v6 v7 [(500 : Int), (501 : Int), (-501 : Int)] (v11, v12, v13) hk10).swap 2100 2020)), hd9, trivial⟩ rfl ?_
          have h := Option.some.inj h
          subst h
          exact Tri.ret rfl ⟨.inl rfl, rfl, rfl⟩
        · refine Tri.run 2 [.g false] [.swap 1101 1000, .keep [2] [2, 1000, 2020]] (K' := [.code [] 4]) (σ' := ⟨[(2, .ptr 2 0)], [(2, .box [.int .i64 v1, .sl 1000 0]), (1000, .arr 3 0 0 (.ints v2)), (2020, .box [.lst x0 (.bytes a0), .int .i64 v6, .int .i64 v7])]⟩) rfl ⟨hd9, trivial⟩ rfl ?_
          have h := Option.some.inj h
          subst h
          exact Tri.ret rfl ⟨.inl rfl, rfl, rfl⟩
/-! spec.l1Once -/
noncomputable def E63_spec_l1Once : Env := ⟨Try.prog, tys, (Try.f63.body).getD .skip, 9, tysOk, mixedOk⟩
abbrev q_spec_l1Once_io1 (x0 : Value) (a0 : List UInt8) (r : Bool × Int × Int) (σ' : ASt) : Prop := resAV E63_spec_l1Once.T σ' Try.f63.results.toList = some (.bool r.1) ∧ keepO σ'.ob (namesO [(2120, .box [.lst x0 (.bytes a0), .int .i64 r.2.1, .int .i64 r.2.2])]) = [(2120, .box [.lst x0 (.bytes a0), .int .i64 r.2.1, .int .i64 r.2.2])]
noncomputable def m_spec_l1Once_io1 (a0 : List UInt8) (a1 : Int) (a2 : Int) (a3 : Int) : Option (Bool × Int × Int) :=
(m_spec_l1Below_io1 a0 a1 a2 a3).bind fun (v1, v2, v3) =>
some (v1 == (0 : Int), v2, v3)
theorem w_spec_l1Once_io1 (x0 : Value) (a0 : List UInt8) (a1 : Int) (a2 : Int) (a3 : Int) (r : Bool × Int × Int) (h : m_spec_l1Once_io1 a0 a1 a2 a3 = some r) : AM.Spec Try.prog 63 [.ptr 2120 0, .int .i64 a3] [(2120, .box [.lst x0 (.bytes a0), .int .i64 a1, .int .i64 a2])] (.bool r.1) [(2120, .box [.lst x0 (.bytes a0), .int .i64 r.2.1, .int .i64 r.2.2])] := by
  refine spec_of (E := E63_spec_l1Once) Try.func63 rfl rfl rfl rfl ?_
  refine Tri.run 1 [] [.keep [0, 1] [2120]] (K' := [.code [(1, 0)] 0, .code [] 2]) (σ' := ⟨[(0, .ptr 2120 0), (1, .int .i64 a3)], [(2120, .box [.lst x0 (.bytes a0), .int .i64 a1, .int .i64 a2])]⟩) rfl trivial rfl ?_
  obtain ⟨⟨v1, v2, v3⟩, hk1, h⟩ := bind_some h
  refine Tri.run 1 [.r ⟨[2120], .int .i64 v1, [(2120, .box [.undf, .int .i64 v2, .int .i64 v3])]⟩] [.keep [4] [2120]] (K' := [.code [] 2]) (σ' := ⟨[(4, .bool (v1 == (0 : Int)))], [(2120, .box [.lst x0 (.bytes a0), .int .i64 v2, .int .i64 v3])]⟩) rfl ⟨(fun vf => ((w_spec_l1Below_io1 (vf 2120 0) a0 a1 a2 a3 (v1, v2, v3) hk1).swap 2060 2120)), trivial⟩ rfl ?_
  have h := Option.some.inj h
  subst h
  exact Tri.ret rfl ⟨.inl rfl, rfl, rfl⟩
/-! spec.l8Copy -/
noncomputable def E67_spec_l8Copy : Env := ⟨Try.prog, tys, (Try.f67.body).getD .skip, 10, tysOk, mixedOk⟩
abbrev q_spec_l8Copy (r : Int × (List Int)) (σ' : ASt) : Prop := resAV E67_spec_l8Copy.T σ' Try.f67.results.toList = some (.agg [.int .i64 r.1, .sl 1000 0]) ∧ keepO σ'.ob (namesO [(1000, .arr 3 0 0 (.ints r.2))]) = [(1000, .arr 3 0 0 (.ints r.2))]
noncomputable def m_spec_l8Copy (a0 : Int) (a1 : List Int) : Option (Int × (List Int)) :=
grd (([] : List Int).length + a1.length ≤ room) <|
some (a0, [] ++ a1)
theorem w_spec_l8Copy (a0 : Int) (a1 : List Int) (r : Int × (List Int)) (h : m_spec_l8Copy a0 a1 = some r) : AM.Spec Try.prog 67 [.agg [.int .i64 a0, .list (.ints a1)]] [] (.agg [.int .i64 r.1, .sl 1000 0]) [(1000, .arr 3 0 0 (.ints r.2))] := by
  refine spec_of (E := E67_spec_l8Copy) Try.func67 rfl rfl rfl rfl ?_
  obtain ⟨hg1, h⟩ := grd_some h
  refine Tri.run 2 [] [.rever 5, .swap 5 1000, .keep [2] [2, 1000]] (K' := [.code [] 2]) (σ' := ⟨[(2, .ptr 2 0)], [(2, .box [.int .i64 a0, .sl 1000 0]), (1000, .arr 3 0 0 (.ints ([] ++ a1)))]⟩) rfl ⟨hg1, trivial⟩ rfl ?_
  have h := Option.some.inj h
  subst h
  exact Tri.ret rfl ⟨.inl rfl, rfl, rfl⟩
/-! spec.l8Mate -/
noncomputable def E64_spec_l8Mate : Env := ⟨Try.prog, tys, (Try.f64.body).getD .skip, 24, tysOk, mixedOk⟩
abbrev q_spec_l8Mate_io1 (x0 : Value) (a0 : List UInt8) (r : Int × (List Int) × Int × Int) (σ' : ASt) : Prop := resAV E64_spec_l8Mate.T σ' Try.f64.results.toList = some (.agg [.int .i64 r.1, .sl 1000 0]) ∧ keepO σ'.ob (namesO [(1000, .arr 3 0 0 (.ints r.2.1)), (2140, .box [.lst x0 (.bytes a0), .int .i64 r.2.2.1, .int .i64 r.2.2.2])]) = [(1000, .arr 3 0 0 (.ints r.2.1)), (2140, .box [.lst x0 (.bytes a0), .int .i64 r.2.2.1, .int .i64 r.2.2.2])]
noncomputable def l_spec_l8Mate_io1_0 (a0 : List UInt8) : (Int × (List Int) × Int × Int) → Option ((Int × (List Int) × Int × Int) ⊕ (((List Int) × Int × Int)))
  | (v3, v4, v5, v6) => (
bif decide (v3 < (v4.length : Int)) then
((m_spec_l1PickInt_io1 a0 v5 v6 [(0 : Int), (1 : Int), (4 : Int), (-3 : Int), (7 : Int)]).bind fun (v7, v8, v9) =>
grd ((0 : Int) ≤ v3 ∧ v3 < (v4.length : Int)) <|
some (.inl (IntKind.i64.wrap (v3 + (1 : Int)), v4.set v3.toNat v7, v8, v9)))
else
(some (.inr (v4, v5, v6))))
noncomputable def m_spec_l8Mate_io1 (a0 : List UInt8) (a1 : Int) (a2 : Int) (a3 : Int) (a4 : List Int) : Option (Int × (List Int) × Int × Int) :=
(m_spec_l8Copy a3 a4).bind fun (v1, v2) =>
(iter (l_spec_l8Mate_io1_0 a0) ((1 : Int), v2, a1, a2)).bind fun
| (v10, v11, v12) => (
some (v1, v10, v11, v12))
theorem w_spec_l8Mate_io1 (x0 : Value) (a0 : List UInt8) (a1 : Int) (a2 : Int) (a3 : Int) (a4 : List Int) (r : Int × (List Int) × Int × Int) (h : m_spec_l8Mate_io1 a0 a1 a2 a3 a4 = some r) : AM.Spec Try.prog 64 [.ptr 2140 0, .agg [.int .i64 a3, .list (.ints a4)]] [(2140, .box [.lst x0 (.bytes a0), .int .i64 a1, .int .i64 a2])] (.agg [.int .i64 r.1, .sl 1000 0]) [(1000, .arr 3 0 0 (.ints r.2.1)), (2140, .box [.lst x0 (.bytes a0), .int .i64 r.2.2.1, .int .i64 r.2.2.2])] := by
  refine spec_of (E := E64_spec_l8Mate) Try.func64 rfl rfl rfl rfl ?_
  refine Tri.run 1 [] [.keep [0, 3, 4] [3, 4, 2140], .ownc 4 1 1100 3, .keep [0, 3, 4] [3, 4, 1100, 2140]] (K' := [.code [(1, 0)] 0, .code [] 2]) (σ' := ⟨[(0, .ptr 2140 0), (3, .ptr 3 0), (4, .ptr 4 0)], [(3, .box [.int .i64 a3, .list (.ints a4)]), (4, .box [.int .i64 0, .sl 1100 0]), (1100, .arr 3 0 0 (.ints [])), (2140, .box [.lst x0 (.bytes a0), .int .i64 a1, .int .i64 a2])]⟩) rfl trivial rfl ?_
  obtain ⟨⟨v1, v2⟩, hk1, h⟩ := bind_some h
  refine Tri.run 2 [.r ⟨[], .agg [.int .i64 v1, .sl 1101 0], [(1101, .arr 3 0 0 (.ints v2))]⟩] [.keep [0, 4, 5, 6] [4, 5, 1100, 1101, 2140]] (K' := [.code [(2, 0), (1, 0)] 0, .blk 0, .code [] 3]) (σ' := ⟨[(0, .ptr 2140 0), (4, .ptr 4 0), (5, .ptr 5 0), (6, .int .i64 (1 : Int))], [(4, .box [.int .i64 0, .sl 1100 0]), (5, .box [.int .i64 v1, .sl 1101 0]), (1100, .arr 3 0 0 (.ints [])), (1101, .arr 3 0 0 (.ints v2)), (2140, .box [.lst x0 (.bytes a0), .int .i64 a1, .int .i64 a2])]⟩) rfl ⟨(fun _ => ((w_spec_l8Copy a3 a4 (v1, v2) hk1).swap 1000 1101)), trivial⟩ rfl ?_
  obtain ⟨x1, hk5, h⟩ := bind_some h
  refine Tri.loop (K1 := [.code [(2, 0), (1, 0), (0, 0)] 0]) (K2 := [.blk 0, .code [] 3]) (fun (v3, v4, v5, v6) => ⟨[(0, .ptr 2140 0), (4, .ptr 4 0), (5, .ptr 5 0), (6, .int .i64 v3)], [(4, .box [.int .i64 0, .sl 1100 0]), (5, .box [.int .i64 v1, .sl 1101 0]), (1100, .arr 3 0 0 (.ints [])), (1101, .arr 3 0 0 (.ints v4)), (2140, .box [.lst x0 (.bytes a0), .int .i64 v5, .int .i64 v6])]⟩) (fun x e σ' => match x with | (v10, v11, v12) => e = .exit 0 ∧ σ' = ⟨[(4, .ptr 4 0), (5, .ptr 5 0)], [(4, .box [.int .i64 0, .sl 1100 0]), (5, .box [.int .i64 v1, .sl 1101 0]), (1100, .arr 3 0 0 (.ints [])), (1101, .arr 3 0 0 (.ints v10)), (2140, .box [.lst x0 (.bytes a0), .int .i64 v11, .int .i64 v12])]⟩) hk5 rfl rfl ?_ ?_
  · intro s x hs
    clear h
    have h := hs
    clear hs
    obtain ⟨v3, v4, v5, v6⟩ := s
    refine Tri.run 1 [] [.keep [0, 4, 5, 6, 13] [4, 5, 1100, 1101, 2140]] (K' := [.code [(2, 0), (1, 0), (0, 0), (0, 0)] 1, .code [(2, 0), (1, 0), (0, 0)] 1]) (σ' := ⟨[(0, .ptr 2140 0), (4, .ptr 4 0), (5, .ptr 5 0), (6, .int .i64 v3), (13, .bool (decide (v3 < (v4.length : Int))))], [(4, .box [.int .i64 0, .sl 1100 0]), (5, .box [.int .i64 v1, .sl 1101 0]), (1100, .arr 3 0 0 (.ints [])), (1101, .arr 3 0 0 (.ints v4)), (2140, .box [.lst x0 (.bytes a0), .int .i64 v5, .int .i64 v6])]⟩) rfl trivial rfl ?_
    rcases bif_some h with ⟨hd2, h⟩ | ⟨hd2, h⟩
    · obtain ⟨⟨v7, v8, v9⟩, hk3, h⟩ := bind_some h
      obtain ⟨hg4, h⟩ := grd_some h
      refine Tri.run 3 [.g true, .r ⟨[2140], .int .i64 v7, [(2140, .box [.undf, .int .i64 v8, .int .i64 v9])]⟩] [.keep [0, 4, 5, 6] [4, 5, 1100, 1101, 2140]] (K' := []) (σ' := ⟨[(0, .ptr 2140 0), (4, .ptr 4 0), (5, .ptr 5 0), (6, .int .i64 (IntKind.i64.wrap (v3 + (1 : Int))))], [(4, .box [.int .i64 0, .sl 1100 0]), (5, .box [.int .i64 v1, .sl 1101 0]), (1100, .arr 3 0 0 (.ints [])), (1101, .arr 3 0 0 (.ints (v4.set v3.toNat v7))), (2140, .box [.lst x0 (.bytes a0), .int .i64 v8, .int .i64 v9])]⟩) rfl ⟨hg4, (fun vf => ((w_spec_l1PickInt_io1 (vf 2140 0) a0 v5 v6 [(0 : Int), (1 : Int), (4 : Int), (-3 : Int), (7 : Int)] (v7, v8, v9) hk3).swap 2100 2140)), hd2, trivial⟩ rfl ?_
      have h := Option.some.inj h
      subst h
      exact Tri.nil ⟨rfl, rfl⟩
    · refine Tri.run 1 [.g false] [.keep [4, 5] [4, 5, 1100, 1101, 2140]] (K' := [.code [(2, 0), (1, 0), (0, 0), (0, 0), (1, 1)] 0, .code [(2, 0), (1, 0), (0, 0)] 1]) (σ' := ⟨[(4, .ptr 4 0), (5, .ptr 5 0)], [(4, .box [.int .i64 0, .sl 1100 0]), (5, .box [.int .i64 v1, .sl 1101 0]), (1100, .arr 3 0 0 (.ints [])), (1101, .arr 3 0 0 (.ints v4)), (2140, .box [.lst x0 (.bytes a0), .int .i64 v5, .int .i64 v6])]⟩) rfl ⟨hd2, trivial⟩ rfl ?_
      have h := Option.some.inj h
      subst h
      exact Tri.out 0 rfl ⟨nofun, rfl, rfl⟩
  · intro e σ' hne hq
    obtain ⟨v10, v11, v12⟩ := x1
    obtain ⟨rfl, rfl⟩ := hq
    refine TriX.exit (K' := [.code [] 3]) rfl ?_
    refine Tri.run 1 [] [.swap 1101 1000, .keep [4] [4, 1000, 2140]] (K' := [.code [] 4]) (σ' := ⟨[(4, .ptr 4 0)], [(4, .box [.int .i64 v1, .sl 1000 0]), (1000, .arr 3 0 0 (.ints v10)), (2140, .box [.lst x0 (.bytes a0), .int .i64 v11, .int .i64 v12])]⟩) rfl trivial rfl ?_
    have h := Option.some.inj h
    subst h
    exact Tri.ret rfl ⟨.inl rfl, rfl, rfl⟩
/-! spec.DrawAddGames -/
noncomputable def E23_spec_DrawAddGames : Env := ⟨Try.prog, tys, (Try.f23.body).getD .skip, 19, tysOk, mixedOk⟩
abbrev q_spec_DrawAddGames (r : Int × Int × (List Int) × (List Int)) (σ' : ASt) : Prop := resAV E23_spec_DrawAddGames.T σ' Try.f23.results.toList = some (.tuple [.agg [.int .i64 r.1, .sl 1000 0], .agg [.int .i64 r.2.1, .sl 1001 0]]) ∧ keepO σ'.ob (namesO [(1000, .arr 3 0 0 (.ints r.2.2.1)), (1001, .arr 3 0 0 (.ints r.2.2.2))]) = [(1000, .arr 3 0 0 (.ints r.2.2.1)), (1001, .arr 3 0 0 (.ints r.2.2.2))]
noncomputable def m_spec_DrawAddGames (a0 : List UInt8) : Option (Int × Int × (List Int) × (List Int)) :=
(m_spec_l1New_io4 0 [] 0 [] a0).bind fun (v1, v2, v3, _, _, _, _) =>
(m_spec_l8Bent_io1 v1 v2 v3).bind fun (v8, v9, v10, v11) =>
(m_spec_l1Once_io1 v1 v10 v11 (10 : Int)).bind fun (v12, v13, v14) =>
bif v12 then
((m_spec_l8Bent_io1 v1 v13 v14).bind fun (v15, v16, _, _) =>
some (v8, v15, v9, v16))
else
((m_spec_l8Mate_io1 v1 v13 v14 v8 v9).bind fun (v19, v20, _, _) =>
some (v8, v19, v9, v20))
theorem w_spec_DrawAddGames (a0 : List UInt8) (r : Int × Int × (List Int) × (List Int)) (h : m_spec_DrawAddGames a0 = some r) : AM.Spec Try.prog 23 [.list (.bytes a0)] [] (.tuple [.agg [.int .i64 r.1, .sl 1000 0], .agg [.int .i64 r.2.1, .sl 1001 0]]) [(1000, .arr 3 0 0 (.ints r.2.2.1)), (1001, .arr 3 0 0 (.ints r.2.2.2))] := by
  refine spec_of (E := E23_spec_DrawAddGames) Try.func23 rfl rfl rfl rfl ?_
  refine Tri.run 1 [] [.keep [0, 2, 3] [2, 3], .ownc 2 1 1100 3, .ownc 3 1 1101 3, .keep [0, 2, 3] [2, 3, 1100, 1101]] (K' := [.code [(1, 0)] 0, .code [] 2]) (σ' := ⟨[(0, .list (.bytes a0)), (2, .ptr 2 0), (3, .ptr 3 0)], [(2, .box [.int .i64 0, .sl 1100 0]), (3, .box [.int .i64 0, .sl 1101 0]), (1100, .arr 3 0 0 (.ints [])), (1101, .arr 3 0 0 (.ints []))]⟩) rfl trivial rfl ?_
  obtain ⟨⟨v1, v2, v3, v4, v5, v6, v7⟩, hk1, h⟩ := bind_some h
  obtain ⟨⟨v8, v9, v10, v11⟩, hk2, h⟩ := bind_some h
  refine Tri.run 2 [.r ⟨[2, 1100, 3, 1101], .ptr 1102 0, [(1102, .box [.list (.bytes v1), .int .i64 v2, .int .i64 v3]), (1103, .arr 3 0 0 (.ints v4)), (1104, .arr 3 0 0 (.ints v5)), (2, .box [.int .i64 v6, .sl 1103 0]), (3, .box [.int .i64 v7, .sl 1104 0])]⟩, .r ⟨[1102], .agg [.int .i64 v8, .sl 1105 0], [(1105, .arr 3 0 0 (.ints v9)), (1102, .box [.undf, .int .i64 v10, .int .i64 v11])]⟩] [.keep [2, 3, 4, 5] [2, 3, 5, 1102, 1103, 1104, 1105]] (K' := [.code [(3, 0), (0, 0)] 0, .code [(3, 0)] 1, .code [] 4]) (σ' := ⟨[(2, .ptr 2 0), (3, .ptr 3 0), (4, .ptr 1102 0), (5, .ptr 5 0)], [(2, .box [.int .i64 v6, .sl 1103 0]), (3, .box [.int .i64 v7, .sl 1104 0]), (5, .box [.int .i64 v8, .sl 1105 0]), (1102, .box [.list (.bytes v1), .int .i64 v10, .int .i64 v11]), (1103, .arr 3 0 0 (.ints v4)), (1104, .arr 3 0 0 (.ints v5)), (1105, .arr 3 0 0 (.ints v9))]⟩) rfl ⟨(fun vf => (((w_spec_l8Bent_io1 (vf 1102 0) v1 v2 v3 (v8, v9, v10, v11) hk2).swap 1000 1105).swap 2020 1102)), (fun _ => ((((((((w_spec_l1New_io4 0 [] 0 [] a0 (v1, v2, v3, v4, v5, v6, v7) hk1).swap 1000 1102).swap 1001 1103).swap 1002 1104).swap 2000 2).swap 2001 1100).swap 2002 3).swap 2003 1101)), trivial⟩ rfl ?_
  obtain ⟨⟨v12, v13, v14⟩, hk3, h⟩ := bind_some h
  refine Tri.run 1 [.r ⟨[1102], .bool v12, [(1102, .box [.undf, .int .i64 v13, .int .i64 v14])]⟩] [.keep [2, 3, 4, 5, 11] [2, 3, 5, 1102, 1103, 1104, 1105]] (K' := [.code [(3, 0)] 1, .code [] 4]) (σ' := ⟨[(2, .ptr 2 0), (3, .ptr 3 0), (4, .ptr 1102 0), (5, .ptr 5 0), (11, .bool v12)], [(2, .box [.int .i64 v6, .sl 1103 0]), (3, .box [.int .i64 v7, .sl 1104 0]), (5, .box [.int .i64 v8, .sl 1105 0]), (1102, .box [.list (.bytes v1), .int .i64 v13, .int .i64 v14]), (1103, .arr 3 0 0 (.ints v4)), (1104, .arr 3 0 0 (.ints v5)), (1105, .arr 3 0 0 (.ints v9))]⟩) rfl ⟨(fun vf => ((w_spec_l1Once_io1 (vf 1102 0) v1 v10 v11 (10 : Int) (v12, v13, v14) hk3).swap 2120 1102)), trivial⟩ rfl ?_
  rcases bif_some h with ⟨hd4, h⟩ | ⟨hd4, h⟩
  · obtain ⟨⟨v15, v16, v17, v18⟩, hk5, h⟩ := bind_some h
    refine Tri.run 2 [.g true, .r ⟨[1102], .agg [.int .i64 v15, .sl 1106 0], [(1106, .arr 3 0 0 (.ints v16)), (1102, .box [.undf, .int .i64 v17, .int .i64 v18])]⟩] [.swap 1105 1000, .swap 1106 1001, .keep [2, 3] [2, 3, 1000, 1001]] (K' := [.code [(3, 0), (1, 0)] 1, .code [] 4]) (σ' := ⟨[(2, .ptr 2 0), (3, .ptr 3 0)], [(2, .box [.int .i64 v8, .sl 1000 0]), (3, .box [.int .i64 v15, .sl 1001 0]), (1000, .arr 3 0 0 (.ints v9)), (1001, .arr 3 0 0 (.ints v16))]⟩) rfl ⟨(fun vf => (((w_spec_l8Bent_io1 (vf 1102 0) v1 v13 v14 (v15, v16, v17, v18) hk5).swap 1000 1106).swap 2020 1102)), hd4, trivial⟩ rfl ?_
    have h := Option.some.inj h
    subst h
    exact Tri.ret rfl ⟨.inl rfl, rfl, rfl⟩
  · obtain ⟨⟨v19, v20, v21, v22⟩, hk6, h⟩ := bind_some h
    refine Tri.run 2 [.g false, .r ⟨[1102], .agg [.int .i64 v19, .sl 1107 0], [(1107, .arr 3 0 0 (.ints v20)), (1102, .box [.undf, .int .i64 v21, .int .i64 v22])]⟩] [.swap 1105 1000, .swap 1107 1001, .keep [2, 3] [2, 3, 1000, 1001]] (K' := [.code [] 5]) (σ' := ⟨[(2, .ptr 2 0), (3, .ptr 3 0)], [(2, .box [.int .i64 v8, .sl 1000 0]), (3, .box [.int .i64 v19, .sl 1001 0]), (1000, .arr 3 0 0 (.ints v9)), (1001, .arr 3 0 0 (.ints v20))]⟩) rfl ⟨(fun vf => (((w_spec_l8Mate_io1 (vf 1102 0) v1 v13 v14 v8 v9 (v19, v20, v21, v22) hk6).swap 1000 1107).swap 2140 1102)), hd4, trivial⟩ rfl ?_
    have h := Option.some.inj h
    subst h
    exact Tri.ret rfl ⟨.inl rfl, rfl, rfl⟩
/-! impl.within -/
noncomputable def E59_impl_within : Env := ⟨Try.prog, tys, (Try.f59.body).getD .skip, 15, tysOk, mixedOk⟩
abbrev q_impl_within (r : Bool) (σ' : ASt) : Prop := resAV E59_impl_within.T σ' Try.f59.results.toList = some (.bool r) ∧ keepO σ'.ob (namesO []) = []
noncomputable def m_impl_within (a0 : Int) (a1 : Int) (a2 : Int) : Option Bool :=
bif decide (a0 ≥ a1) then
(some (decide (a0 ≤ a2)))
else
(some false)
theorem w_impl_within (a0 : Int) (a1 : Int) (a2 : Int) (r : Bool) (h : m_impl_within a0 a1 a2 = some r) : AM.Spec Try.prog 59 [.int .i64 a0, .int .i64 a1, .int .i64 a2] [] (.bool r) [] := by
  refine spec_of (E := E59_impl_within) Try.func59 rfl rfl rfl rfl ?_
  refine Tri.run 1 [] [.keep [0, 1, 2] []] (K' := [.code [(1, 0)] 0, .code [] 2]) (σ' := ⟨[(0, .int .i64 a0), (1, .int .i64 a1), (2, .int .i64 a2)], []⟩) rfl trivial rfl ?_
  rcases bif_some h with ⟨hd1, h⟩ | ⟨hd1, h⟩
  · refine Tri.run 1 [.g true] [.keep [6] []] (K' := [.code [] 2]) (σ' := ⟨[(6, .bool (decide (a0 ≤ a2)))], []⟩) rfl ⟨hd1, trivial⟩ rfl ?_
    have h := Option.some.inj h
    subst h
    exact Tri.ret rfl ⟨.inl rfl, rfl, rfl⟩
  · refine Tri.run 1 [.g false] [.keep [6] []] (K' := [.code [] 2]) (σ' := ⟨[(6, .bool false)], []⟩) rfl ⟨hd1, trivial⟩ rfl ?_
    have h := Option.some.inj h
    subst h
    exact Tri.ret rfl ⟨.inl rfl, rfl, rfl⟩
/-! impl.IsValidGame$1 -/
noncomputable def E82_impl_IsValidGame_1 : Env := ⟨Try.prog, tys, (Try.f82.body).getD .skip, 6, tysOk, mixedOk⟩
abbrev q_impl_IsValidGame_1 (r : Bool) (σ' : ASt) : Prop := resAV E82_impl_IsValidGame_1.T σ' Try.f82.results.toList = some (.bool r) ∧ keepO σ'.ob (namesO []) = []
noncomputable def m_impl_IsValidGame_1 (a0 : Int) : Option Bool :=
(m_impl_within a0 (-500 : Int) (500 : Int)).bind fun v1 =>
some (!v1)
theorem w_impl_IsValidGame_1 (a0 : Int) (r : Bool) (h : m_impl_IsValidGame_1 a0 = some r) : AM.Spec Try.prog 82 [.int .i64 a0] [] (.bool r) [] := by
  refine spec_of (E := E82_impl_IsValidGame_1) Try.func82 rfl rfl rfl rfl ?_
  refine Tri.run 1 [] [.keep [0] []] (K' := [.code [(1, 0)] 0, .code [] 2]) (σ' := ⟨[(0, .int .i64 a0)], []⟩) rfl trivial rfl ?_
  obtain ⟨v1, hk1, h⟩ := bind_some h
  refine Tri.run 1 [.r ⟨[], .bool v1, []⟩] [.keep [2] []] (K' := [.code [] 2]) (σ' := ⟨[(2, .bool (!v1))], []⟩) rfl ⟨(fun _ => (w_impl_within a0 (-500 : Int) (500 : Int) v1 hk1)), trivial⟩ rfl ?_
  have h := Option.some.inj h
  subst h
  exact Tri.ret rfl ⟨.inl rfl, rfl, rfl⟩
/-! slices.IndexFunc(()int,int) -/
noncomputable def E102_slices_IndexFunc_int_int : Env := ⟨Try.prog, tys, (Try.f102.body).getD .skip, 19, tysOk, mixedOk⟩
abbrev q_slices_IndexFunc_int_int_impl_IsValidGame_1 (r : Int) (σ' : ASt) : Prop := resAV E102_slices_IndexFunc_int_int.T σ' Try.f102.results.toList = some (.int .i64 r) ∧ keepO σ'.ob (namesO []) = []
noncomputable def l_slices_IndexFunc_int_int_impl_IsValidGame_1_0 (a0 : List Int) (v1 : Int) : Option (Int ⊕ (Unit ⊕ Int)) :=
bif decide (v1 < (a0.length : Int)) then
(grd ((0 : Int) ≤ v1 ∧ v1 < (a0.length : Int)) <|
(m_impl_IsValidGame_1 (a0.getD v1.toNat 0)).bind fun v2 =>
bif v2 then
(some (.inr (.inr v1)))
else
(some (.inl (IntKind.i64.wrap (v1 + (1 : Int))))))
else
(some (.inr (.inl ())))
noncomputable def m_slices_IndexFunc_int_int_impl_IsValidGame_1 (a0 : List Int) : Option Int :=
(iter (l_slices_IndexFunc_int_int_impl_IsValidGame_1_0 a0) (0 : Int)).bind fun
| (.inl _) => (
some (-1 : Int))
| (.inr r) => some r
theorem w_slices_IndexFunc_int_int_impl_IsValidGame_1 (a0 : List Int) (r : Int) (h : m_slices_IndexFunc_int_int_impl_IsValidGame_1 a0 = some r) : AM.Spec Try.prog 102 [.list (.ints a0), .func 82 [] []] [] (.int .i64 r) [] := by
  refine spec_of (E := E102_slices_IndexFunc_int_int) Try.func102 rfl rfl rfl rfl ?_
  refine Tri.run 2 [] [.keep [0, 1, 7, 8] []] (K' := [.code [(1, 0), (1, 0)] 0, .blk 0, .code [] 2]) (σ' := ⟨[(0, .list (.ints a0)), (1, .func 82 [] []), (7, .int .i64 (a0.length : Int)), (8, .int .i64 (0 : Int))], []⟩) rfl trivial rfl ?_
  obtain ⟨x1, hk5, h⟩ := bind_some h
  refine Tri.loop (K1 := [.code [(1, 0), (1, 0), (0, 0)] 0]) (K2 := [.blk 0, .code [] 2]) (fun v1 => ⟨[(0, .list (.ints a0)), (1, .func 82 [] []), (7, .int .i64 (a0.length : Int)), (8, .int .i64 v1)], []⟩) (fun x e σ' => match x with | (.inl _) => e = .exit 0 ∧ σ' = ⟨[], []⟩ | (.inr r) => e = .ret ∧ q_slices_IndexFunc_int_int_impl_IsValidGame_1 r σ') hk5 rfl rfl ?_ ?_
  · intro v1 x hs
    clear h
    have h := hs
    clear hs
    refine Tri.run 1 [] [.keep [0, 1, 7, 8, 9] []] (K' := [.code [(1, 0), (1, 0), (0, 0), (1, 0)] 0, .code [(1, 0), (1, 0), (0, 0)] 2]) (σ' := ⟨[(0, .list (.ints a0)), (1, .func 82 [] []), (7, .int .i64 (a0.length : Int)), (8, .int .i64 v1), (9, .bool (decide (v1 < (a0.length : Int))))], []⟩) rfl trivial rfl ?_
    rcases bif_some h with ⟨hd1, h⟩ | ⟨hd1, h⟩
    · refine Tri.run 2 [.g true] [.keep [0, 1, 5, 7, 8] []] (K' := [.code [(1, 0), (1, 0), (0, 0), (2, 0), (0, 0), (1, 0)] 0, .code [(1, 0), (1, 0), (0, 0), (2, 0), (0, 0)] 2, .blk 1, .code [(1, 0), (1, 0), (0, 0)] 3]) (σ' := ⟨[(0, .list (.ints a0)), (1, .func 82 [] []), (5, .int .i64 v1), (7, .int .i64 (a0.length : Int)), (8, .int .i64 v1)], []⟩) rfl ⟨hd1, trivial⟩ rfl ?_
      obtain ⟨hg2, h⟩ := grd_some h
      obtain ⟨v2, hk3, h⟩ := bind_some h
      refine Tri.run 1 [.r ⟨[], .bool v2, []⟩] [.keep [0, 1, 5, 7, 8, 16] []] (K' := [.code [(1, 0), (1, 0), (0, 0), (2, 0), (0, 0)] 2, .blk 1, .code [(1, 0), (1, 0), (0, 0)] 3]) (σ' := ⟨[(0, .list (.ints a0)), (1, .func 82 [] []), (5, .int .i64 v1), (7, .int .i64 (a0.length : Int)), (8, .int .i64 v1), (16, .bool v2)], []⟩) rfl ⟨(fun _ => (w_impl_IsValidGame_1 (a0.getD v1.toNat 0) v2 hk3)), hg2, trivial⟩ rfl ?_
      rcases bif_some h with ⟨hd4, h⟩ | ⟨hd4, h⟩
      · refine Tri.run 2 [.g true] [.keep [4] []] (K' := [.code [(1, 0), (1, 0), (0, 0), (2, 0), (0, 0), (2, 0)] 1, .blk 1, .code [(1, 0), (1, 0), (0, 0)] 3]) (σ' := ⟨[(4, .int .i64 v1)], []⟩) rfl ⟨hd4, trivial⟩ rfl ?_
        have h := Option.some.inj h
        subst h
        exact Tri.ret rfl ⟨nofun, rfl, rfl, rfl⟩
      · refine Tri.run 2 [.g false] [.keep [0, 1, 7, 8] []] (K' := []) (σ' := ⟨[(0, .list (.ints a0)), (1, .func 82 [] []), (7, .int .i64 (a0.length : Int)), (8, .int .i64 (IntKind.i64.wrap (v1 + (1 : Int))))], []⟩) rfl ⟨hd4, trivial⟩ rfl ?_
        have h := Option.some.inj h
        subst h
        exact Tri.nil ⟨rfl, rfl⟩
    · refine Tri.run 1 [.g false] [.keep [] []] (K' := [.code [(1, 0), (1, 0), (0, 0), (1, 0), (0, 1)] 0, .code [(1, 0), (1, 0), (0, 0)] 2]) (σ' := ⟨[], []⟩) rfl ⟨hd1, trivial⟩ rfl ?_
      have h := Option.some.inj h
      subst h
      exact Tri.out 0 rfl ⟨nofun, rfl, rfl⟩
  · intro e σ' hne hq
    rcases x1 with _ | r
    · obtain ⟨rfl, rfl⟩ := hq
      refine TriX.exit (K' := [.code [] 2]) rfl ?_
      refine Tri.run 1 [] [.keep [4] []] (K' := [.code [] 3]) (σ' := ⟨[(4, .int .i64 (-1 : Int))], []⟩) rfl trivial rfl ?_
      have h := Option.some.inj h
      subst h
      exact Tri.ret rfl ⟨.inl rfl, rfl, rfl⟩
    · obtain ⟨rfl, hq⟩ := hq
      have h := Option.some.inj h
      subst h
      exact TriX.ret ⟨.inl rfl, hq⟩
/-! slices.ContainsFunc(()int,int) -/
noncomputable def E72_slices_ContainsFunc_int_int : Env := ⟨Try.prog, tys, (Try.f72.body).getD .skip, 9, tysOk, mixedOk⟩
abbrev q_slices_ContainsFunc_int_int_impl_IsValidGame_1 (r : Bool) (σ' : ASt) : Prop := resAV E72_slices_ContainsFunc_int_int.T σ' Try.f72.results.toList = some (.bool r) ∧ keepO σ'.ob (namesO []) = []
noncomputable def m_slices_ContainsFunc_int_int_impl_IsValidGame_1 (a0 : List Int) : Option Bool :=
(m_slices_IndexFunc_int_int_impl_IsValidGame_1 a0).bind fun v1 =>
some (decide (v1 ≥ (0 : Int)))
theorem w_slices_ContainsFunc_int_int_impl_IsValidGame_1 (a0 : List Int) (r : Bool) (h : m_slices_ContainsFunc_int_int_impl_IsValidGame_1 a0 = some r) : AM.Spec Try.prog 72 [.list (.ints a0), .func 82 [] []] [] (.bool r) [] := by
  refine spec_of (E := E72_slices_ContainsFunc_int_int) Try.func72 rfl rfl rfl rfl ?_
  refine Tri.run 1 [] [.keep [0, 1] []] (K' := [.code [(1, 0)] 0, .code [] 2]) (σ' := ⟨[(0, .list (.ints a0)), (1, .func 82 [] [])], []⟩) rfl trivial rfl ?_
  obtain ⟨v1, hk1, h⟩ := bind_some h
  refine Tri.run 1 [.r ⟨[], .int .i64 v1, []⟩] [.keep [4] []] (K' := [.code [] 2]) (σ' := ⟨[(4, .bool (decide (v1 ≥ (0 : Int))))], []⟩) rfl ⟨(fun _ => (w_slices_IndexFunc_int_int_impl_IsValidGame_1 a0 v1 hk1)), trivial⟩ rfl ?_
  have h := Option.some.inj h
  subst h
  exact Tri.ret rfl ⟨.inl rfl, rfl, rfl⟩
/-! impl.IsValidGame -/
noncomputable def E35_impl_IsValidGame : Env := ⟨Try.prog, tys, (Try.f35.body).getD .skip, 27, tysOk, mixedOk⟩
abbrev q_impl_IsValidGame (r : Bool) (σ' : ASt) : Prop := resAV E35_impl_IsValidGame.T σ' Try.f35.results.toList = some (.bool r) ∧ keepO σ'.ob (namesO []) = []
noncomputable def m_impl_IsValidGame (a0 : Int) (a1 : List Int) : Option Bool :=
(m_impl_within a0 (1 : Int) (5 : Int)).bind fun v1 =>
bif !v1 then
(some false)
else
(grd ((0 : Int) ≤ a0) <|
bif (a1.length : Int) != (IntKind.i64.wrap ((1 : Int) * 2 ^ (min a0.toNat 64))) then
(some false)
else
(grd ((0 : Int) ≤ (0 : Int) ∧ (0 : Int) < (a1.length : Int)) <|
bif (a1.getD ((0 : Int).toNat) 0) != (0 : Int) then
(some false)
else
((m_slices_ContainsFunc_int_int_impl_IsValidGame_1 a1).bind fun v2 =>
some (!v2))))
theorem w_impl_IsValidGame (a0 : Int) (a1 : List Int) (r : Bool) (h : m_impl_IsValidGame a0 a1 = some r) : AM.Spec Try.prog 35 [.agg [.int .i64 a0, .list (.ints a1)]] [] (.bool r) [] := by
  refine spec_of (E := E35_impl_IsValidGame) Try.func35 rfl rfl rfl rfl ?_
  refine Tri.run 1 [] [.keep [1] [1]] (K' := [.code [(1, 0), (0, 0)] 0, .code [(1, 0)] 1, .code [] 2]) (σ' := ⟨[(1, .ptr 1 0)], [(1, .box [.int .i64 a0, .list (.ints a1)])]⟩) rfl trivial rfl ?_
  obtain ⟨v1, hk1, h⟩ := bind_some h
  rcases bif_some h with ⟨hd2, h⟩ | ⟨hd2, h⟩
  · refine Tri.run 1 [.r ⟨[], .bool v1, []⟩, .g true, .g true] [.keep [1, 22] [1]] (K' := [.code [(1, 0)] 1, .code [] 2]) (σ' := ⟨[(1, .ptr 1 0), (22, .bool true)], [(1, .box [.int .i64 a0, .list (.ints a1)])]⟩) rfl ⟨rfl, hd2, (fun _ => (w_impl_within a0 (1 : Int) (5 : Int) v1 hk1)), trivial⟩ rfl ?_
    refine Tri.run 2 [.g true] [.keep [2] []] (K' := [.code [(1, 0), (1, 0)] 1, .code [] 2]) (σ' := ⟨[(2, .bool false)], []⟩) rfl ⟨rfl, trivial⟩ rfl ?_
    have h := Option.some.inj h
    subst h
    exact Tri.ret rfl ⟨.inl rfl, rfl, rfl⟩
  · obtain ⟨hg3, h⟩ := grd_some h
    rcases bif_some h with ⟨hd4, h⟩ | ⟨hd4, h⟩
    · refine Tri.run 1 [.r ⟨[], .bool v1, []⟩, .g false, .g true] [.keep [1, 22] [1]] (K' := [.code [(1, 0)] 1, .code [] 2]) (σ' := ⟨[(1, .ptr 1 0), (22, .bool true)], [(1, .box [.int .i64 a0, .list (.ints a1)])]⟩) rfl ⟨hd4, hg3, hd2, (fun _ => (w_impl_within a0 (1 : Int) (5 : Int) v1 hk1)), trivial⟩ rfl ?_
      refine Tri.run 2 [.g true] [.keep [2] []] (K' := [.code [(1, 0), (1, 0)] 1, .code [] 2]) (σ' := ⟨[(2, .bool false)], []⟩) rfl ⟨rfl, trivial⟩ rfl ?_
      have h := Option.some.inj h
      subst h
      exact Tri.ret rfl ⟨.inl rfl, rfl, rfl⟩
    · obtain ⟨hg5, h⟩ := grd_some h
      refine Tri.run 1 [.r ⟨[], .bool v1, []⟩, .g false, .g false] [.keep [1, 22] [1]] (K' := [.code [(1, 0)] 1, .code [] 2]) (σ' := ⟨[(1, .ptr 1 0), (22, .bool ((a1.getD ((0 : Int).toNat) 0) != (0 : Int)))], [(1, .box [.int .i64 a0, .list (.ints a1)])]⟩) rfl ⟨hg5, hd4, hg3, hd2, (fun _ => (w_impl_within a0 (1 : Int) (5 : Int) v1 hk1)), trivial⟩ rfl ?_
      rcases bif_some h with ⟨hd6, h⟩ | ⟨hd6, h⟩
      · refine Tri.run 2 [.g true] [.keep [2] []] (K' := [.code [(1, 0), (1, 0)] 1, .code [] 2]) (σ' := ⟨[(2, .bool false)], []⟩) rfl ⟨hd6, trivial⟩ rfl ?_
        have h := Option.some.inj h
        subst h
        exact Tri.ret rfl ⟨.inl rfl, rfl, rfl⟩
      · obtain ⟨v2, hk7, h⟩ := bind_some h
        refine Tri.run 2 [.g false, .r ⟨[], .bool v2, []⟩] [.keep [2] []] (K' := [.code [] 3]) (σ' := ⟨[(2, .bool (!v2))], []⟩) rfl ⟨(fun _ => (w_slices_ContainsFunc_int_int_impl_IsValidGame_1 a1 v2 hk7)), hd6, trivial⟩ rfl ?_
        have h := Option.some.inj h
        subst h
        exact Tri.ret rfl ⟨.inl rfl, rfl, rfl⟩
/-! impl.CountCoalitions -/
noncomputable def E84_impl_CountCoalitions : Env := ⟨Try.prog, tys, (Try.f84.body).getD .skip, 8, tysOk, mixedOk⟩
abbrev q_impl_CountCoalitions (r : Int) (σ' : ASt) : Prop := resAV E84_impl_CountCoalitions.T σ' Try.f84.results.toList = some (.int .i64 r) ∧ keepO σ'.ob (namesO []) = []
noncomputable def m_impl_CountCoalitions (a0 : Int) : Option Int :=
(m_impl_within a0 (0 : Int) (5 : Int)).bind fun v1 =>
bif !v1 then
(some (0 : Int))
else
(grd ((0 : Int) ≤ a0) <|
some (IntKind.i64.wrap ((1 : Int) * 2 ^ (min a0.toNat 64))))
theorem w_impl_CountCoalitions (a0 : Int) (r : Int) (h : m_impl_CountCoalitions a0 = some r) : AM.Spec Try.prog 84 [.int .i64 a0] [] (.int .i64 r) [] := by
  refine spec_of (E := E84_impl_CountCoalitions) Try.func84 rfl rfl rfl rfl ?_
  refine Tri.run 1 [] [.keep [0] []] (K' := [.code [(1, 0), (0, 0)] 0, .code [(1, 0)] 1, .code [] 2]) (σ' := ⟨[(0, .int .i64 a0)], []⟩) rfl trivial rfl ?_
  obtain ⟨v1, hk1, h⟩ := bind_some h
  refine Tri.run 1 [.r ⟨[], .bool v1, []⟩] [.keep [0, 5] []] (K' := [.code [(1, 0)] 1, .code [] 2]) (σ' := ⟨[(0, .int .i64 a0), (5, .bool (!v1))], []⟩) rfl ⟨(fun _ => (w_impl_within a0 (0 : Int) (5 : Int) v1 hk1)), trivial⟩ rfl ?_
  rcases bif_some h with ⟨hd2, h⟩ | ⟨hd2, h⟩
  · refine Tri.run 2 [.g true] [.keep [2] []] (K' := [.code [(1, 0), (1, 0)] 1, .code [] 2]) (σ' := ⟨[(2, .int .i64 (0 : Int))], []⟩) rfl ⟨hd2, trivial⟩ rfl ?_
    have h := Option.some.inj h
    subst h
    exact Tri.ret rfl ⟨.inl rfl, rfl, rfl⟩
  · obtain ⟨hg3, h⟩ := grd_some h
    refine Tri.run 2 [.g false] [.keep [2] []] (K' := [.code [] 3]) (σ' := ⟨[(2, .int .i64 (IntKind.i64.wrap ((1 : Int) * 2 ^ (min a0.toNat 64))))], []⟩) rfl ⟨hg3, hd2, trivial⟩ rfl ?_
    have h := Option.some.inj h
    subst h
    exact Tri.ret rfl ⟨.inl rfl, rfl, rfl⟩
/-! impl.AddGames$1 -/
noncomputable def E66_impl_AddGames_1 : Env := ⟨Try.prog, tys, (Try.f66.body).getD .skip, 16, tysOk, mixedOk⟩
abbrev q_impl_AddGames_1 (r : Int) (σ' : ASt) : Prop := resAV E66_impl_AddGames_1.T σ' Try.f66.results.toList = some (.int .i64 r) ∧ keepO σ'.ob (namesO []) = []
noncomputable def m_impl_AddGames_1 (a0 : Int) (_a1 : Int) (a2 : List Int) (_a3 : Int) (a4 : List Int) : Option Int :=
grd ((0 : Int) ≤ a0 ∧ a0 < (a2.length : Int)) <|
grd ((0 : Int) ≤ a0 ∧ a0 < (a4.length : Int)) <|
some (IntKind.i64.wrap ((a2.getD a0.toNat 0) + (a4.getD a0.toNat 0)))
theorem w_impl_AddGames_1 (a0 : Int) (a1 : Int) (a2 : List Int) (a3 : Int) (a4 : List Int) (r : Int) (h : m_impl_AddGames_1 a0 a1 a2 a3 a4 = some r) : AM.Spec Try.prog 66 [.int .i64 a0, .pbox [.int .i64 a1, .list (.ints a2)] 0, .pbox [.int .i64 a3, .list (.ints a4)] 0] [] (.int .i64 r) [] := by
  refine spec_of (E := E66_impl_AddGames_1) Try.func66 rfl rfl rfl rfl ?_
  obtain ⟨hg1, h⟩ := grd_some h
  obtain ⟨hg2, h⟩ := grd_some h
  refine Tri.run 2 [] [.keep [4] []] (K' := [.code [] 2]) (σ' := ⟨[(4, .int .i64 (IntKind.i64.wrap ((a2.getD a0.toNat 0) + (a4.getD a0.toNat 0))))], []⟩) rfl ⟨hg2, hg1, trivial⟩ rfl ?_
  have h := Option.some.inj h
  subst h
  exact Tri.ret rfl ⟨.inl rfl, rfl, rfl⟩
/-! impl.made -/
noncomputable def E65_impl_made : Env := ⟨Try.prog, tys, (Try.f65.body).getD .skip, 29, tysOk, mixedOk⟩
abbrev q_impl_made_impl_AddGames_1 (r : Int × Bool × (List Int)) (σ' : ASt) : Prop := resAV E65_impl_made.T σ' Try.f65.results.toList = some (.tuple [.agg [.int .i64 r.1, .sl 1000 0], .bool r.2.1]) ∧ keepO σ'.ob (namesO [(1000, .arr 3 0 0 (.ints r.2.2))]) = [(1000, .arr 3 0 0 (.ints r.2.2))]
noncomputable def l_impl_made_impl_AddGames_1_0 (a1 : Int) (a2 : List Int) (a3 : Int) (a4 : List Int) (v1 : Int) : (Int × (List Int)) → Option ((Int × (List Int)) ⊕ ((List Int)))
  | (v2, v3) => (
bif decide (v2 < v1) then
((m_impl_AddGames_1 v2 a1 a2 a3 a4).bind fun v4 =>
grd (v3.length + ([v4] : List Int).length ≤ room) <|
some (.inl (IntKind.i64.wrap (v2 + (1 : Int)), v3 ++ [v4])))
else
(some (.inr v3)))
noncomputable def m_impl_made_impl_AddGames_1 (a0 : Int) (a1 : Int) (a2 : List Int) (a3 : Int) (a4 : List Int) : Option (Int × Bool × (List Int)) :=
(m_impl_CountCoalitions a0).bind fun v1 =>
(iter (l_impl_made_impl_AddGames_1_0 a1 a2 a3 a4 v1) ((0 : Int), [])).bind fun
| v5 => (
(m_impl_IsValidGame a0 v5).bind fun v6 =>
bif !v6 then
(some (0, false, []))
else
(some (a0, true, v5)))
theorem w_impl_made_impl_AddGames_1 (a0 : Int) (a1 : Int) (a2 : List Int) (a3 : Int) (a4 : List Int) (r : Int × Bool × (List Int)) (h : m_impl_made_impl_AddGames_1 a0 a1 a2 a3 a4 = some r) : AM.Spec Try.prog 65 [.int .i64 a0, .func 66 [] [.pbox [.int .i64 a1, .list (.ints a2)] 0, .pbox [.int .i64 a3, .list (.ints a4)] 0]] [] (.tuple [.agg [.int .i64 r.1, .sl 1000 0], .bool r.2.1]) [(1000, .arr 3 0 0 (.ints r.2.2))] := by
  refine spec_of (E := E65_impl_made) Try.func65 rfl rfl rfl rfl ?_
  refine Tri.run 2 [] [.keep [0, 1, 4, 6] [4, 6], .ownc 4 1 1100 3, .ownc 6 1 1101 3, .keep [0, 1, 4, 6] [4, 6, 1100, 1101]] (K' := [.code [(2, 0), (0, 0)] 0, .code [(2, 0)] 1, .code [] 3]) (σ' := ⟨[(0, .int .i64 a0), (1, .func 66 [] [.pbox [.int .i64 a1, .list (.ints a2)] 0, .pbox [.int .i64 a3, .list (.ints a4)] 0]), (4, .ptr 4 0), (6, .ptr 6 0)], [(4, .box [.int .i64 0, .sl 1100 0]), (6, .box [.int .i64 a0, .sl 1101 0]), (1100, .arr 3 0 0 (.ints [])), (1101, .arr 3 0 0 (.ints []))]⟩) rfl trivial rfl ?_
  obtain ⟨v1, hk1, h⟩ := bind_some h
  refine Tri.run 1 [.r ⟨[], .int .i64 v1, []⟩] [.keep [1, 4, 6, 11, 12] [4, 6, 1100, 1101]] (K' := [.code [(2, 0), (1, 0)] 0, .blk 0, .code [] 3]) (σ' := ⟨[(1, .func 66 [] [.pbox [.int .i64 a1, .list (.ints a2)] 0, .pbox [.int .i64 a3, .list (.ints a4)] 0]), (4, .ptr 4 0), (6, .ptr 6 0), (11, .int .i64 v1), (12, .int .i64 (0 : Int))], [(4, .box [.int .i64 0, .sl 1100 0]), (6, .box [.int .i64 a0, .sl 1101 0]), (1100, .arr 3 0 0 (.ints [])), (1101, .arr 3 0 0 (.ints []))]⟩) rfl ⟨(fun _ => (w_impl_CountCoalitions a0 v1 hk1)), trivial⟩ rfl ?_
  obtain ⟨v5, hk5, h⟩ := bind_some h
  refine Tri.loop (K1 := [.code [(2, 0), (1, 0), (0, 0)] 0]) (K2 := [.blk 0, .code [] 3]) (fun (v2, v3) => ⟨[(1, .func 66 [] [.pbox [.int .i64 a1, .list (.ints a2)] 0, .pbox [.int .i64 a3, .list (.ints a4)] 0]), (4, .ptr 4 0), (6, .ptr 6 0), (11, .int .i64 v1), (12, .int .i64 v2)], [(4, .box [.int .i64 0, .sl 1100 0]), (6, .box [.int .i64 a0, .sl 1101 0]), (1100, .arr 3 0 0 (.ints [])), (1101, .arr 3 0 0 (.ints v3))]⟩) (fun x e σ' => match x with | v5 => e = .exit 0 ∧ σ' = ⟨[(4, .ptr 4 0), (6, .ptr 6 0)], [(4, .box [.int .i64 0, .sl 1100 0]), (6, .box [.int .i64 a0, .sl 1101 0]), (1100, .arr 3 0 0 (.ints [])), (1101, .arr 3 0 0 (.ints v5))]⟩) hk5 rfl rfl ?_ ?_
  · intro s x hs
    clear h
    have h := hs
    clear hs
    obtain ⟨v2, v3⟩ := s
    refine Tri.run 1 [] [.keep [1, 4, 6, 11, 12, 13] [4, 6, 1100, 1101]] (K' := [.code [(2, 0), (1, 0), (0, 0), (1, 0)] 0, .code [(2, 0), (1, 0), (0, 0)] 2]) (σ' := ⟨[(1, .func 66 [] [.pbox [.int .i64 a1, .list (.ints a2)] 0, .pbox [.int .i64 a3, .list (.ints a4)] 0]), (4, .ptr 4 0), (6, .ptr 6 0), (11, .int .i64 v1), (12, .int .i64 v2), (13, .bool (decide (v2 < v1)))], [(4, .box [.int .i64 0, .sl 1100 0]), (6, .box [.int .i64 a0, .sl 1101 0]), (1100, .arr 3 0 0 (.ints [])), (1101, .arr 3 0 0 (.ints v3))]⟩) rfl trivial rfl ?_
    rcases bif_some h with ⟨hd2, h⟩ | ⟨hd2, h⟩
    · refine Tri.run 2 [.g true] [.keep [1, 4, 6, 7, 11, 12] [4, 6, 1100, 1101]] (K' := [.code [(2, 0), (1, 0), (0, 0), (2, 0), (0, 0)] 1, .blk 1, .code [(2, 0), (1, 0), (0, 0)] 3]) (σ' := ⟨[(1, .func 66 [] [.pbox [.int .i64 a1, .list (.ints a2)] 0, .pbox [.int .i64 a3, .list (.ints a4)] 0]), (4, .ptr 4 0), (6, .ptr 6 0), (7, .int .i64 v2), (11, .int .i64 v1), (12, .int .i64 v2)], [(4, .box [.int .i64 0, .sl 1100 0]), (6, .box [.int .i64 a0, .sl 1101 0]), (1100, .arr 3 0 0 (.ints [])), (1101, .arr 3 0 0 (.ints v3))]⟩) rfl ⟨hd2, trivial⟩ rfl ?_
      obtain ⟨v4, hk3, h⟩ := bind_some h
      obtain ⟨hg4, h⟩ := grd_some h
      refine Tri.run 2 [.r ⟨[], .int .i64 v4, []⟩] [.rever 1101, .keep [1, 4, 6, 11, 12] [4, 6, 1100, 1101]] (K' := []) (σ' := ⟨[(1, .func 66 [] [.pbox [.int .i64 a1, .list (.ints a2)] 0, .pbox [.int .i64 a3, .list (.ints a4)] 0]), (4, .ptr 4 0), (6, .ptr 6 0), (11, .int .i64 v1), (12, .int .i64 (IntKind.i64.wrap (v2 + (1 : Int))))], [(4, .box [.int .i64 0, .sl 1100 0]), (6, .box [.int .i64 a0, .sl 1101 0]), (1100, .arr 3 0 0 (.ints [])), (1101, .arr 3 0 0 (.ints (v3 ++ [v4])))]⟩) rfl ⟨hg4, (fun _ => (w_impl_AddGames_1 v2 a1 a2 a3 a4 v4 hk3)), trivial⟩ rfl ?_
      have h := Option.some.inj h
      subst h
      exact Tri.nil ⟨rfl, rfl⟩
    · refine Tri.run 1 [.g false] [.keep [4, 6] [4, 6, 1100, 1101]] (K' := [.code [(2, 0), (1, 0), (0, 0), (1, 0), (0, 1)] 0, .code [(2, 0), (1, 0), (0, 0)] 2]) (σ' := ⟨[(4, .ptr 4 0), (6, .ptr 6 0)], [(4, .box [.int .i64 0, .sl 1100 0]), (6, .box [.int .i64 a0, .sl 1101 0]), (1100, .arr 3 0 0 (.ints [])), (1101, .arr 3 0 0 (.ints v3))]⟩) rfl ⟨hd2, trivial⟩ rfl ?_
      have h := Option.some.inj h
      subst h
      exact Tri.out 0 rfl ⟨nofun, rfl, rfl⟩
  · intro e σ' hne hq
    obtain ⟨rfl, rfl⟩ := hq
    refine TriX.exit (K' := [.code [] 3]) rfl ?_
    obtain ⟨v6, hk6, h⟩ := bind_some h
    refine Tri.run 1 [.r ⟨[], .bool v6, []⟩] [.keep [4, 6, 26] [4, 6, 1100, 1101]] (K' := [.code [(3, 0)] 1, .code [] 4]) (σ' := ⟨[(4, .ptr 4 0), (6, .ptr 6 0), (26, .bool (!v6))], [(4, .box [.int .i64 0, .sl 1100 0]), (6, .box [.int .i64 a0, .sl 1101 0]), (1100, .arr 3 0 0 (.ints [])), (1101, .arr 3 0 0 (.ints v5))]⟩) rfl ⟨(fun _ => (w_impl_IsValidGame a0 v5 v6 hk6)), trivial⟩ rfl ?_
    rcases bif_some h with ⟨hd7, h⟩ | ⟨hd7, h⟩
    · refine Tri.run 2 [.g true] [.ownc 4 1 1102 3, .swap 1102 1000, .keep [4, 5] [4, 1000]] (K' := [.code [(3, 0), (1, 0)] 1, .code [] 4]) (σ' := ⟨[(4, .ptr 4 0), (5, .bool false)], [(4, .box [.int .i64 0, .sl 1000 0]), (1000, .arr 3 0 0 (.ints []))]⟩) rfl ⟨hd7, trivial⟩ rfl ?_
      have h := Option.some.inj h
      subst h
      exact Tri.ret rfl ⟨.inl rfl, rfl, rfl⟩
    · refine Tri.run 2 [.g false] [.swap 1101 1000, .keep [4, 5] [4, 1000]] (K' := [.code [] 5]) (σ' := ⟨[(4, .ptr 4 0), (5, .bool true)], [(4, .box [.int .i64 a0, .sl 1000 0]), (1000, .arr 3 0 0 (.ints v5))]⟩) rfl ⟨hd7, trivial⟩ rfl ?_
      have h := Option.some.inj h
      subst h
      exact Tri.ret rfl ⟨.inl rfl, rfl, rfl⟩
/-! impl.AddGames -/
noncomputable def E24_impl_AddGames : Env := ⟨Try.prog, tys, (Try.f24.body).getD .skip, 28, tysOk, mixedOk⟩
abbrev q_impl_AddGames (r : Int × Bool × (List Int)) (σ' : ASt) : Prop := resAV E24_impl_AddGames.T σ' Try.f24.results.toList = some (.tuple [.agg [.int .i64 r.1, .sl 1000 0], .bool r.2.1]) ∧ keepO σ'.ob (namesO [(1000, .arr 3 0 0 (.ints r.2.2))]) = [(1000, .arr 3 0 0 (.ints r.2.2))]
noncomputable def m_impl_AddGames (a0 : Int) (a1 : List Int) (a2 : Int) (a3 : List Int) : Option (Int × Bool × (List Int)) :=
(m_impl_IsValidGame a0 a1).bind fun v1 =>
bif !v1 then
(some (0, false, []))
else
((m_impl_IsValidGame a2 a3).bind fun v2 =>
bif !v2 then
(some (0, false, []))
else
(bif a0 != a2 then
(some (0, false, []))
else
((m_impl_made_impl_AddGames_1 a0 a0 a1 a2 a3).bind fun (v3, v4, v5) =>
some (v3, v4, v5))))
theorem w_impl_AddGames (a0 : Int) (a1 : List Int) (a2 : Int) (a3 : List Int) (r : Int × Bool × (List Int)) (h : m_impl_AddGames a0 a1 a2 a3 = some r) : AM.Spec Try.prog 24 [.agg [.int .i64 a0, .list (.ints a1)], .agg [.int .i64 a2, .list (.ints a3)]] [] (.tuple [.agg [.int .i64 r.1, .sl 1000 0], .bool r.2.1]) [(1000, .arr 3 0 0 (.ints r.2.2))] := by
  refine spec_of (E := E24_impl_AddGames) Try.func24 rfl rfl rfl rfl ?_
  refine Tri.run 1 [] [.keep [2, 3, 4] [2, 3, 4], .ownc 4 1 1100 3, .keep [2, 3, 4] [2, 3, 4, 1100]] (K' := [.code [(1, 0), (0, 0)] 0, .code [(1, 0)] 1, .code [] 2]) (σ' := ⟨[(2, .ptr 2 0), (3, .ptr 3 0), (4, .ptr 4 0)], [(2, .box [.int .i64 a0, .list (.ints a1)]), (3, .box [.int .i64 a2, .list (.ints a3)]), (4, .box [.int .i64 0, .sl 1100 0]), (1100, .arr 3 0 0 (.ints []))]⟩) rfl trivial rfl ?_
  obtain ⟨v1, hk1, h⟩ := bind_some h
  rcases bif_some h with ⟨hd2, h⟩ | ⟨hd2, h⟩
  · refine Tri.run 1 [.r ⟨[], .bool v1, []⟩, .g true, .g true] [.keep [2, 3, 4, 20] [2, 3, 4, 1100]] (K' := [.code [(1, 0)] 1, .code [] 2]) (σ' := ⟨[(2, .ptr 2 0), (3, .ptr 3 0), (4, .ptr 4 0), (20, .bool true)], [(2, .box [.int .i64 a0, .list (.ints a1)]), (3, .box [.int .i64 a2, .list (.ints a3)]), (4, .box [.int .i64 0, .sl 1100 0]), (1100, .arr 3 0 0 (.ints []))]⟩) rfl ⟨rfl, hd2, (fun _ => (w_impl_IsValidGame a0 a1 v1 hk1)), trivial⟩ rfl ?_
    refine Tri.run 2 [.g true] [.ownc 4 1 1101 3, .swap 1101 1000, .keep [4, 5] [4, 1000]] (K' := [.code [(1, 0), (1, 0)] 1, .code [] 2]) (σ' := ⟨[(4, .ptr 4 0), (5, .bool false)], [(4, .box [.int .i64 0, .sl 1000 0]), (1000, .arr 3 0 0 (.ints []))]⟩) rfl ⟨rfl, trivial⟩ rfl ?_
    have h := Option.some.inj h
    subst h
    exact Tri.ret rfl ⟨.inl rfl, rfl, rfl⟩
  · obtain ⟨v2, hk3, h⟩ := bind_some h
    rcases bif_some h with ⟨hd4, h⟩ | ⟨hd4, h⟩
    · refine Tri.run 1 [.r ⟨[], .bool v1, []⟩, .g false, .r ⟨[], .bool v2, []⟩, .g true] [.keep [2, 3, 4, 20] [2, 3, 4, 1100]] (K' := [.code [(1, 0)] 1, .code [] 2]) (σ' := ⟨[(2, .ptr 2 0), (3, .ptr 3 0), (4, .ptr 4 0), (20, .bool true)], [(2, .box [.int .i64 a0, .list (.ints a1)]), (3, .box [.int .i64 a2, .list (.ints a3)]), (4, .box [.int .i64 0, .sl 1100 0]), (1100, .arr 3 0 0 (.ints []))]⟩) rfl ⟨hd4, (fun _ => (w_impl_IsValidGame a2 a3 v2 hk3)), hd2, (fun _ => (w_impl_IsValidGame a0 a1 v1 hk1)), trivial⟩ rfl ?_
      refine Tri.run 2 [.g true] [.ownc 4 1 1102 3, .swap 1102 1000, .keep [4, 5] [4, 1000]] (K' := [.code [(1, 0), (1, 0)] 1, .code [] 2]) (σ' := ⟨[(4, .ptr 4 0), (5, .bool false)], [(4, .box [.int .i64 0, .sl 1000 0]), (1000, .arr 3 0 0 (.ints []))]⟩) rfl ⟨rfl, trivial⟩ rfl ?_
      have h := Option.some.inj h
      subst h
      exact Tri.ret rfl ⟨.inl rfl, rfl, rfl⟩
    · refine Tri.run 1 [.r ⟨[], .bool v1, []⟩, .g false, .r ⟨[], .bool v2, []⟩, .g false] [.keep [2, 3, 4, 20] [2, 3, 4, 1100]] (K' := [.code [(1, 0)] 1, .code [] 2]) (σ' := ⟨[(2, .ptr 2 0), (3, .ptr 3 0), (4, .ptr 4 0), (20, .bool (a0 != a2))], [(2, .box [.int .i64 a0, .list (.ints a1)]), (3, .box [.int .i64 a2, .list (.ints a3)]), (4, .box [.int .i64 0, .sl 1100 0]), (1100, .arr 3 0 0 (.ints []))]⟩) rfl ⟨hd4, (fun _ => (w_impl_IsValidGame a2 a3 v2 hk3)), hd2, (fun _ => (w_impl_IsValidGame a0 a1 v1 hk1)), trivial⟩ rfl ?_
      rcases bif_some h with ⟨hd5, h⟩ | ⟨hd5, h⟩
      · refine Tri.run 2 [.g true] [.ownc 4 1 1103 3, .swap 1103 1000, .keep [4, 5] [4, 1000]] (K' := [.code [(1, 0), (1, 0)] 1, .code [] 2]) (σ' := ⟨[(4, .ptr 4 0), (5, .bool false)], [(4, .box [.int .i64 0, .sl 1000 0]), (1000, .arr 3 0 0 (.ints []))]⟩) rfl ⟨hd5, trivial⟩ rfl ?_
        have h := Option.some.inj h
        subst h
        exact Tri.ret rfl ⟨.inl rfl, rfl, rfl⟩
      · obtain ⟨⟨v3, v4, v5⟩, hk6, h⟩ := bind_some h
        refine Tri.run 2 [.g false, .r ⟨[], .tuple [.agg [.int .i64 v3, .sl 1104 0], .bool v4], [(1104, .arr 3 0 0 (.ints v5))]⟩] [.swap 1104 1000, .keep [4, 5] [4, 1000]] (K' := [.code [] 3]) (σ' := ⟨[(4, .ptr 4 0), (5, .bool v4)], [(4, .box [.int .i64 v3, .sl 1000 0]), (1000, .arr 3 0 0 (.ints v5))]⟩) rfl ⟨(fun _ => ((w_impl_made_impl_AddGames_1 a0 a0 a1 a2 a3 (v3, v4, v5) hk6).swap 1000 1104)), hd5, trivial⟩ rfl ?_
        have h := Option.some.inj h
        subst h
        exact Tri.ret rfl ⟨.inl rfl, rfl, rfl⟩
/-! spec.IsValidGame -/
noncomputable def E22_spec_IsValidGame : Env := ⟨Try.prog, tys, (Try.f22.body).getD .skip, 37, tysOk, mixedOk⟩
abbrev q_spec_IsValidGame (r : Bool) (σ' : ASt) : Prop := resAV E22_spec_IsValidGame.T σ' Try.f22.results.toList = some (.bool r) ∧ keepO σ'.ob (namesO []) = []
noncomputable def l_spec_IsValidGame_0 (a1 : List Int) (v1 : Int) : Option (Int ⊕ (Unit ⊕ Bool)) :=
bif decide (v1 < (a1.length : Int)) then
(grd ((0 : Int) ≤ v1 ∧ v1 < (a1.length : Int)) <|
(m_spec_l1In (a1.getD v1.toNat 0) (-500 : Int) (500 : Int)).bind fun v2 =>
bif !v2 then
(some (.inr (.inr false)))
else
(some (.inl (IntKind.i64.wrap (v1 + (1 : Int))))))
else
(some (.inr (.inl ())))
noncomputable def m_spec_IsValidGame (a0 : Int) (a1 : List Int) : Option Bool :=
(iter (l_spec_IsValidGame_0 a1) (0 : Int)).bind fun
| (.inl _) => (
(m_spec_l1In a0 (1 : Int) (5 : Int)).bind fun v3 =>
bif v3 then
((m_spec_CountCoalitions a0).bind fun v4 =>
bif (a1.length : Int) == v4 then
(grd ((0 : Int) ≤ (0 : Int) ∧ (0 : Int) < (a1.length : Int)) <|
some ((a1.getD ((0 : Int).toNat) 0) == (0 : Int)))
else
(some false))
else
(some false))
| (.inr r) => some r
theorem w_spec_IsValidGame (a0 : Int) (a1 : List Int) (r : Bool) (h : m_spec_IsValidGame a0 a1 = some r) : AM.Spec Try.prog 22 [.agg [.int .i64 a0, .list (.ints a1)]] [] (.bool r) [] := by
  refine spec_of (E := E22_spec_IsValidGame) Try.func22 rfl rfl rfl rfl ?_
  refine Tri.run 2 [] [.keep [1, 3] [1]] (K' := [.code [(1, 0), (1, 0)] 0, .blk 0, .code [] 2]) (σ' := ⟨[(1, .ptr 1 0), (3, .int .i64 (0 : Int))], [(1, .box [.int .i64 a0, .list (.ints a1)])]⟩) rfl trivial rfl ?_
  obtain ⟨x1, hk5, h⟩ := bind_some h
  refine Tri.loop (K1 := [.code [(1, 0), (1, 0), (0, 0)] 0]) (K2 := [.blk 0, .code [] 2]) (fun v1 => ⟨[(1, .ptr 1 0), (3, .int .i64 v1)], [(1, .box [.int .i64 a0, .list (.ints a1)])]⟩) (fun x e σ' => match x with | (.inl _) => e = .exit 0 ∧ σ' = ⟨[(1, .ptr 1 0)], [(1, .box [.int .i64 a0, .list (.ints a1)])]⟩ | (.inr r) => e = .ret ∧ q_spec_IsValidGame r σ') hk5 rfl rfl ?_ ?_
  · intro v1 x hs
    clear h
    have h := hs
    clear hs
    refine Tri.run 1 [] [.keep [1, 3, 8] [1]] (K' := [.code [(1, 0), (1, 0), (0, 0), (0, 0)] 1, .code [(1, 0), (1, 0), (0, 0)] 1]) (σ' := ⟨[(1, .ptr 1 0), (3, .int .i64 v1), (8, .bool (decide (v1 < (a1.length : Int))))], [(1, .box [.int .i64 a0, .list (.ints a1)])]⟩) rfl trivial rfl ?_
    rcases bif_some h with ⟨hd1, h⟩ | ⟨hd1, h⟩
    · obtain ⟨hg2, h⟩ := grd_some h
      obtain ⟨v2, hk3, h⟩ := bind_some h
      refine Tri.run 2 [.g true, .r ⟨[], .bool v2, []⟩] [.keep [1, 3, 17] [1]] (K' := [.code [(1, 0), (1, 0), (0, 0), (1, 0), (0, 0)] 1, .blk 1, .code [(1, 0), (1, 0), (0, 0)] 2]) (σ' := ⟨[(1, .ptr 1 0), (3, .int .i64 v1), (17, .bool (!v2))], [(1, .box [.int .i64 a0, .list (.ints a1)])]⟩) rfl ⟨(fun _ => (w_spec_l1In (a1.getD v1.toNat 0) (-500 : Int) (500 : Int) v2 hk3)), hg2, hd1, trivial⟩ rfl ?_
      rcases bif_some h with ⟨hd4, h⟩ | ⟨hd4, h⟩
      · refine Tri.run 2 [.g true] [.keep [2] []] (K' := [.code [(1, 0), (1, 0), (0, 0), (1, 0), (0, 0), (1, 0)] 1, .blk 1, .code [(1, 0), (1, 0), (0, 0)] 2]) (σ' := ⟨[(2, .bool false)], []⟩) rfl ⟨hd4, trivial⟩ rfl ?_
        have h := Option.some.inj h
        subst h
        exact Tri.ret rfl ⟨nofun, rfl, rfl, rfl⟩
      · refine Tri.run 2 [.g false] [.keep [1, 3] [1]] (K' := []) (σ' := ⟨[(1, .ptr 1 0), (3, .int .i64 (IntKind.i64.wrap (v1 + (1 : Int))))], [(1, .box [.int .i64 a0, .list (.ints a1)])]⟩) rfl ⟨hd4, trivial⟩ rfl ?_
        have h := Option.some.inj h
        subst h
        exact Tri.nil ⟨rfl, rfl⟩
    · refine Tri.run 1 [.g false] [.keep [1] [1]] (K' := [.code [(1, 0), (1, 0), (0, 0), (0, 0), (1, 1)] 0, .code [(1, 0), (1, 0), (0, 0)] 1]) (σ' := ⟨[(1, .ptr 1 0)], [(1, .box [.int .i64 a0, .list (.ints a1)])]⟩) rfl ⟨hd1, trivial⟩ rfl ?_
      have h := Option.some.inj h
      subst h
      exact Tri.out 0 rfl ⟨nofun, rfl, rfl⟩
  · intro e σ' hne hq
    rcases x1 with _ | r
    · obtain ⟨rfl, rfl⟩ := hq
      refine TriX.exit (K' := [.code [] 2]) rfl ?_
      obtain ⟨v3, hk6, h⟩ := bind_some h
      rcases bif_some h with ⟨hd7, h⟩ | ⟨hd7, h⟩
      · obtain ⟨v4, hk8, h⟩ := bind_some h
        rcases bif_some h with ⟨hd9, h⟩ | ⟨hd9, h⟩
        · obtain ⟨hg10, h⟩ := grd_some h
          refine Tri.run 1 [.r ⟨[], .bool v3, []⟩, .g true, .r ⟨[], .int .i64 v4, []⟩, .g true] [.keep [2] []] (K' := [.code [] 3]) (σ' := ⟨[(2, .bool ((a1.getD ((0 : Int).toNat) 0) == (0 : Int)))], []⟩) rfl ⟨hg10, hd9, (fun _ => (w_spec_CountCoalitions a0 v4 hk8)), hd7, (fun _ => (w_spec_l1In a0 (1 : Int) (5 : Int) v3 hk6)), trivial⟩ rfl ?_
          have h := Option.some.inj h
          subst h
          exact Tri.ret rfl ⟨.inl rfl, rfl, rfl⟩
        · refine Tri.run 1 [.r ⟨[], .bool v3, []⟩, .g true, .r ⟨[], .int .i64 v4, []⟩, .g false] [.keep [2] []] (K' := [.code [] 3]) (σ' := ⟨[(2, .bool false)], []⟩) rfl ⟨hd9, (fun _ => (w_spec_CountCoalitions a0 v4 hk8)), hd7, (fun _ => (w_spec_l1In a0 (1 : Int) (5 : Int) v3 hk6)), trivial⟩ rfl ?_
          have h := Option.some.inj h
          subst h
          exact Tri.ret rfl ⟨.inl rfl, rfl, rfl⟩
      · refine Tri.run 1 [.r ⟨[], .bool v3, []⟩, .g false, .g false] [.keep [2] []] (K' := [.code [] 3]) (σ' := ⟨[(2, .bool false)], []⟩) rfl ⟨rfl, hd7, (fun _ => (w_spec_l1In a0 (1 : Int) (5 : Int) v3 hk6)), trivial⟩ rfl ?_
        have h := Option.some.inj h
        subst h
        exact Tri.ret rfl ⟨.inl rfl, rfl, rfl⟩
    · obtain ⟨rfl, hq⟩ := hq
      have h := Option.some.inj h
      subst h
      exact TriX.ret ⟨.inl rfl, hq⟩
/-! spec.AddGames -/
noncomputable def E25_spec_AddGames : Env := ⟨Try.prog, tys, (Try.f25.body).getD .skip, 53, tysOk, mixedOk⟩
abbrev q_spec_AddGames (r : Int × Bool × (List Int)) (σ' : ASt) : Prop := resAV E25_spec_AddGames.T σ' Try.f25.results.toList = some (.tuple [.agg [.int .i64 r.1, .sl 1000 0], .bool r.2.1]) ∧ keepO σ'.ob (namesO [(1000, .arr 3 0 0 (.ints r.2.2))]) = [(1000, .arr 3 0 0 (.ints r.2.2))]
noncomputable def l_spec_AddGames_0 (a1 : List Int) (a3 : List Int) : (Int × (List Int)) → Option ((Int × (List Int)) ⊕ ((List Int)))
  | (v5, v6) => (
bif decide (v5 < (v6.length : Int)) then
(grd ((0 : Int) ≤ v5 ∧ v5 < (a1.length : Int)) <|
grd ((0 : Int) ≤ v5 ∧ v5 < (a3.length : Int)) <|
grd ((0 : Int) ≤ v5 ∧ v5 < (v6.length : Int)) <|
some (.inl (IntKind.i64.wrap (v5 + (1 : Int)), v6.set v5.toNat (IntKind.i64.wrap ((a1.getD v5.toNat 0) + (a3.getD v5.toNat 0))))))
else
(some (.inr v6)))
noncomputable def m_spec_AddGames (a0 : Int) (a1 : List Int) (a2 : Int) (a3 : List Int) : Option (Int × Bool × (List Int)) :=
(m_spec_IsValidGame a0 a1).bind fun v1 =>
bif !v1 then
(some (0, false, []))
else
((m_spec_IsValidGame a2 a3).bind fun v2 =>
bif !v2 then
(some (0, false, []))
else
(bif a0 != a2 then
(some (0, false, []))
else
((m_spec_l8Copy a0 a1).bind fun (v3, v4) =>
(iter (l_spec_AddGames_0 a1 a3) ((0 : Int), v4)).bind fun
| v7 => (
(m_spec_IsValidGame v3 v7).bind fun v8 =>
bif !v8 then
(some (0, false, []))
else
(some (v3, true, v7))))))
theorem w_spec_AddGames (a0 : Int) (a1 : List Int) (a2 : Int) (a3 : List Int) (r : Int × Bool × (List Int)) (h : m_spec_AddGames a0 a1 a2 a3 = some r) : AM.Spec Try.prog 25 [.agg [.int .i64 a0, .list (.ints a1)], .agg [.int .i64 a2, .list (.ints a3)]] [] (.tuple [.agg [.int .i64 r.1, .sl 1000 0], .bool r.2.1]) [(1000, .arr 3 0 0 (.ints r.2.2))] := by
  refine spec_of (E := E25_spec_AddGames) Try.func25 rfl rfl rfl rfl ?_
  refine Tri.run 1 [] [.keep [2, 3, 4] [2, 3, 4], .ownc 4 1 1100 3, .keep [2, 3, 4] [2, 3, 4, 1100]] (K' := [.code [(1, 0), (0, 0)] 0, .code [(1, 0)] 1, .code [] 2]) (σ' := ⟨[(2, .ptr 2 0), (3, .ptr 3 0), (4, .ptr 4 0)], [(2, .box [.int .i64 a0, .list (.ints a1)]), (3, .box [.int .i64 a2, .list (.ints a3)]), (4, .box [.int .i64 0, .sl 1100 0]), (1100, .arr 3 0 0 (.ints []))]⟩) rfl trivial rfl ?_
  obtain ⟨v1, hk1, h⟩ := bind_some h
  rcases bif_some h with ⟨hd2, h⟩ | ⟨hd2, h⟩
  · refine Tri.run 1 [.r ⟨[], .bool v1, []⟩, .g true, .g true] [.keep [2, 3, 4, 22] [2, 3, 4, 1100]] (K' := [.code [(1, 0)] 1, .code [] 2]) (σ' := ⟨[(2, .ptr 2 0), (3, .ptr 3 0), (4, .ptr 4 0), (22, .bool true)], [(2, .box [.int .i64 a0, .list (.ints a1)]), (3, .box [.int .i64 a2, .list (.ints a3)]), (4, .box [.int .i64 0, .sl 1100 0]), (1100, .arr 3 0 0 (.ints []))]⟩) rfl ⟨rfl, hd2, (fun _ => (w_spec_IsValidGame a0 a1 v1 hk1)), trivial⟩ rfl ?_
    refine Tri.run 2 [.g true] [.ownc 4 1 1101 3, .swap 1101 1000, .keep [4, 5] [4, 1000]] (K' := [.code [(1, 0), (1, 0)] 1, .code [] 2]) (σ' := ⟨[(4, .ptr 4 0), (5, .bool false)], [(4, .box [.int .i64 0, .sl 1000 0]), (1000, .arr 3 0 0 (.ints []))]⟩) rfl ⟨rfl, trivial⟩ rfl ?_
    have h := Option.some.inj h
    subst h
    exact Tri.ret rfl ⟨.inl rfl, rfl, rfl⟩
  · obtain ⟨v2, hk3, h⟩ := bind_some h
    rcases bif_some h with ⟨hd4, h⟩ | ⟨hd4, h⟩
    · refine Tri.run 1 [.r ⟨[], .bool v1, []⟩, .g false, .r ⟨[], .bool v2, []⟩, .g true] [.keep [2, 3, 4, 22] [2, 3, 4, 1100]] (K' := [.code [(1, 0)] 1, .code [] 2]) (σ' := ⟨[(2, .ptr 2 0), (3, .ptr 3 0), (4, .ptr 4 0), (22, .bool true)], [(2, .box [.int .i64 a0, .list (.ints a1)]), (3, .box [.int .i64 a2, .list (.ints a3)]), (4, .box [.int .i64 0, .sl 1100 0]), (1100, .arr 3 0 0 (.ints []))]⟩) rfl ⟨hd4, (fun _ => (w_spec_IsValidGame a2 a3 v2 hk3)), hd2, (fun _ => (w_spec_IsValidGame a0 a1 v1 hk1)), trivial⟩ rfl ?_
      refine Tri.run 2 [.g true] [.ownc 4 1 1102 3, .swap 1102 1000, .keep [4, 5] [4, 1000]] (K' := [.code [(1, 0), (1, 0)] 1, .code [] 2]) (σ' := ⟨[(4, .ptr 4 0), (5, .bool false)], [(4, .box [.int .i64 0, .sl 1000 0]), (1000, .arr 3 0 0 (.ints []))]⟩) rfl ⟨rfl, trivial⟩ rfl ?_
      have h := Option.some.inj h
      subst h
      exact Tri.ret rfl ⟨.inl rfl, rfl, rfl⟩
    · refine Tri.run 1 [.r ⟨[], .bool v1, []⟩, .g false, .r ⟨[], .bool v2, []⟩, .g false] [.keep [2, 3, 4, 22] [2, 3, 4, 1100]] (K' := [.code [(1, 0)] 1, .code [] 2]) (σ' := ⟨[(2, .ptr 2 0), (3, .ptr 3 0), (4, .ptr 4 0), (22, .bool (a0 != a2))], [(2, .box [.int .i64 a0, .list (.ints a1)]), (3, .box [.int .i64 a2, .list (.ints a3)]), (4, .box [.int .i64 0, .sl 1100 0]), (1100, .arr 3 0 0 (.ints []))]⟩) rfl ⟨hd4, (fun _ => (w_spec_IsValidGame a2 a3 v2 hk3)), hd2, (fun _ => (w_spec_IsValidGame a0 a1 v1 hk1)), trivial⟩ rfl ?_
      rcases bif_some h with ⟨hd5, h⟩ | ⟨hd5, h⟩
      · refine Tri.run 2 [.g true] [.ownc 4 1 1103 3, .swap 1103 1000, .keep [4, 5] [4, 1000]] (K' := [.code [(1, 0), (1, 0)] 1, .code [] 2]) (σ' := ⟨[(4, .ptr 4 0), (5, .bool false)], [(4, .box [.int .i64 0, .sl 1000 0]), (1000, .arr 3 0 0 (.ints []))]⟩) rfl ⟨hd5, trivial⟩ rfl ?_
        have h := Option.some.inj h
        subst h
        exact Tri.ret rfl ⟨.inl rfl, rfl, rfl⟩
      · obtain ⟨⟨v3, v4⟩, hk6, h⟩ := bind_some h
        refine Tri.run 3 [.g false, .r ⟨[], .agg [.int .i64 v3, .sl 1104 0], [(1104, .arr 3 0 0 (.ints v4))]⟩] [.keep [2, 3, 4, 6, 7] [2, 3, 4, 6, 1100, 1104]] (K' := [.code [(3, 0), (1, 0)] 0, .blk 0, .code [] 4]) (σ' := ⟨[(2, .ptr 2 0), (3, .ptr 3 0), (4, .ptr 4 0), (6, .ptr 6 0), (7, .int .i64 (0 : Int))], [(2, .box [.int .i64 a0, .list (.ints a1)]), (3, .box [.int .i64 a2, .list (.ints a3)]), (4, .box [.int .i64 0, .sl 1100 0]), (6, .box [.int .i64 v3, .sl 1104 0]), (1100, .arr 3 0 0 (.ints [])), (1104, .arr 3 0 0 (.ints v4))]⟩) rfl ⟨(fun _ => ((w_spec_l8Copy a0 a1 (v3, v4) hk6).swap 1000 1104)), hd5, trivial⟩ rfl ?_
        obtain ⟨v7, hk11, h⟩ := bind_some h
        refine Tri.loop (K1 := [.code [(3, 0), (1, 0), (0, 0)] 0]) (K2 := [.blk 0, .code [] 4]) (fun (v5, v6) => ⟨[(2, .ptr 2 0), (3, .ptr 3 0), (4, .ptr 4 0), (6, .ptr 6 0), (7, .int .i64 v5)], [(2, .box [.int .i64 a0, .list (.ints a1)]), (3, .box [.int .i64 a2, .list (.ints a3)]), (4, .box [.int .i64 0, .sl 1100 0]), (6, .box [.int .i64 v3, .sl 1104 0]), (1100, .arr 3 0 0 (.ints [])), (1104, .arr 3 0 0 (.ints v6))]⟩) (fun x e σ' => match x with | v7 => e = .exit 0 ∧ σ' = ⟨[(4, .ptr 4 0), (6, .ptr 6 0)], [(4, .box [.int .i64 0, .sl 1100 0]), (6, .box [.int .i64 v3, .sl 1104 0]), (1100, .arr 3 0 0 (.ints [])), (1104, .arr 3 0 0 (.ints v7))]⟩) hk11 rfl rfl ?_ ?_
        · intro s x hs
          clear h
          have h := hs
          clear hs
          obtain ⟨v5, v6⟩ := s
          refine Tri.run 1 [] [.keep [2, 3, 4, 6, 7, 30] [2, 3, 4, 6, 1100, 1104]] (K' := [.code [(3, 0), (1, 0), (0, 0), (0, 0)] 1, .code [(3, 0), (1, 0), (0, 0)] 1]) (σ' := ⟨[(2, .ptr 2 0), (3, .ptr 3 0), (4, .ptr 4 0), (6, .ptr 6 0), (7, .int .i64 v5), (30, .bool (decide (v5 < (v6.length : Int))))], [(2, .box [.int .i64 a0, .list (.ints a1)]), (3, .box [.int .i64 a2, .list (.ints a3)]), (4, .box [.int .i64 0, .sl 1100 0]), (6, .box [.int .i64 v3, .sl 1104 0]), (1100, .arr 3 0 0 (.ints [])), (1104, .arr 3 0 0 (.ints v6))]⟩) rfl trivial rfl ?_
          rcases bif_some h with ⟨hd7, h⟩ | ⟨hd7, h⟩
          · obtain ⟨hg8, h⟩ := grd_some h
            obtain ⟨hg9, h⟩ := grd_some h
            obtain ⟨hg10, h⟩ := grd_some h
            refine Tri.run 3 [.g true] [.keep [2, 3, 4, 6, 7] [2, 3, 4, 6, 1100, 1104]] (K' := []) (σ' := ⟨[(2, .ptr 2 0), (3, .ptr 3 0), (4, .ptr 4 0), (6, .ptr 6 0), (7, .int .i64 (IntKind.i64.wrap (v5 + (1 : Int))))], [(2, .box [.int .i64 a0, .list (.ints a1)]), (3, .box [.int .i64 a2, .list (.ints a3)]), (4, .box [.int .i64 0, .sl 1100 0]), (6, .box [.int .i64 v3, .sl 1104 0]), (1100, .arr 3 0 0 (.ints [])), (1104, .arr 3 0 0 (.ints (v6.set v5.toNat (IntKind.i64.wrap ((a1.getD v5.toNat 0) + (a3.getD v5.toNat 0))))))]⟩) rfl ⟨hg10, hg9, hg8, hd7, trivial⟩ rfl ?_
            have h := Option.some.inj h
            subst h
            exact Tri.nil ⟨rfl, rfl⟩
          · refine Tri.run 1 [.g false] [.keep [4, 6] [4, 6, 1100, 1104]] (K' := [.code [(3, 0), (1, 0), (0, 0), (0, 0), (1, 1)] 0, .code [(3, 0), (1, 0), (0, 0)] 1]) (σ' := ⟨[(4, .ptr 4 0), (6, .ptr 6 0)], [(4, .box [.int .i64 0, .sl 1100 0]), (6, .box [.int .i64 v3, .sl 1104 0]), (1100, .arr 3 0 0 (.ints [])), (1104, .arr 3 0 0 (.ints v6))]⟩) rfl ⟨hd7, trivial⟩ rfl ?_
            have h := Option.some.inj h
            subst h
            exact Tri.out 0 rfl ⟨nofun, rfl, rfl⟩
        · intro e σ' hne hq
          obtain ⟨rfl, rfl⟩ := hq
          refine TriX.exit (K' := [.code [] 4]) rfl ?_
          obtain ⟨v8, hk12, h⟩ := bind_some h
          refine Tri.run 1 [.r ⟨[], .bool v8, []⟩] [.keep [4, 6, 50] [4, 6, 1100, 1104]] (K' := [.code [(4, 0)] 1, .code [] 5]) (σ' := ⟨[(4, .ptr 4 0), (6, .ptr 6 0), (50, .bool (!v8))], [(4, .box [.int .i64 0, .sl 1100 0]), (6, .box [.int .i64 v3, .sl 1104 0]), (1100, .arr 3 0 0 (.ints [])), (1104, .arr 3 0 0 (.ints v7))]⟩) rfl ⟨(fun _ => (w_spec_IsValidGame v3 v7 v8 hk12)), trivial⟩ rfl ?_
          rcases bif_some h with ⟨hd13, h⟩ | ⟨hd13, h⟩
          · refine Tri.run 2 [.g true] [.ownc 4 1 1105 3, .swap 1105 1000, .keep [4, 5] [4, 1000]] (K' := [.code [(4, 0), (1, 0)] 1, .code [] 5]) (σ' := ⟨[(4, .ptr 4 0), (5, .bool false)], [(4, .box [.int .i64 0, .sl 1000 0]), (1000, .arr 3 0 0 (.ints []))]⟩) rfl ⟨hd13, trivial⟩ rfl ?_
            have h := Option.some.inj h
            subst h
            exact Tri.ret rfl ⟨.inl rfl, rfl, rfl⟩
          · refine Tri.run 2 [.g false] [.swap 1104 1000, .keep [4, 5] [4, 1000]] (K' := [.code [] 6]) (σ' := ⟨[(4, .ptr 4 0), (5, .bool true)], [(4, .box [.int .i64 v3, .sl 1000 0]), (1000, .arr 3 0 0 (.ints v7))]⟩) rfl ⟨hd13, trivial⟩ rfl ?_
            have h := Option.some.inj h
            subst h
            exact Tri.ret rfl ⟨.inl rfl, rfl, rfl⟩
/-! spec.l1New -/
abbrev q_spec_l1New_io2 (r : (List UInt8) × Int × Int × (List Int) × Int) (σ' : ASt) : Prop := resAV E55_spec_l1New.T σ' Try.f55.results.toList = some (.ptr 1000 0) ∧ keepO σ'.ob (namesO [(1000, .box [.list (.bytes r.1), .int .i64 r.2.1, .int .i64 r.2.2.1]), (1001, .arr 3 0 0 (.ints r.2.2.2.1)), (2000, .box [.int .i64 r.2.2.2.2, .sl 1001 0])]) = [(1000, .box [.list (.bytes r.1), .int .i64 r.2.1, .int .i64 r.2.2.1]), (1001, .arr 3 0 0 (.ints r.2.2.2.1)), (2000, .box [.int .i64 r.2.2.2.2, .sl 1001 0])]
noncomputable def l_spec_l1New_io2_0 (a2 : List UInt8) : (Int × Int) → Option ((Int × Int) ⊕ Int)
  | (v1, v2) => (
bif decide (v2 < (a2.length : Int)) then
(bif decide (v2 < (4000 : Int)) then
(grd ((0 : Int) ≤ v2 ∧ v2 < (a2.length : Int)) <|
some (.inl (bitsOf .and .i64 (IntKind.i64.wrap ((IntKind.i64.wrap ((IntKind.i64.wrap (v1 * (131 : Int))) + (IntKind.i64.wrap (((a2.getD v2.toNat 0).toNat : Int))))) + (7 : Int))) (1073741823 : Int), IntKind.i64.wrap (v2 + (1 : Int)))))
else
(some (.inr v1)))
else
(some (.inr v1)))
noncomputable def m_spec_l1New_io2 (a0 : Int) (a1 : List Int) (a2 : List UInt8) : Option ((List UInt8) × Int × Int × (List Int) × Int) :=
(iter (l_spec_l1New_io2_0 a2) (IntKind.i64.wrap ((26583 : Int) + (a2.length : Int)), (0 : Int))).bind fun
| v3 => (
some (a2, 0, v3, a1, a0))
theorem w_spec_l1New_io2 (a0 : Int) (a1 : List Int) (a2 : List UInt8) (r : (List UInt8) × Int × Int × (List Int) × Int) (h : m_spec_l1New_io2 a0 a1 a2 = some r) : AM.Spec Try.prog 55 [.list (.bytes a2)] [(2000, .box [.int .i64 a0, .sl 2001 0]), (2001, .arr 3 0 0 (.ints a1))] (.ptr 1000 0) [(1000, .box [.list (.bytes r.1), .int .i64 r.2.1, .int .i64 r.2.2.1]), (1001, .arr 3 0 0 (.ints r.2.2.2.1)), (2000, .box [.int .i64 r.2.2.2.2, .sl 1001 0])] := by
  refine spec_of (E := E55_spec_l1New) Try.func55 rfl rfl rfl rfl ?_
  refine Tri.run 3 [] [.keep [0, 3, 4] [2000, 2001]] (K' := [.code [(2, 0), (1, 0)] 0, .blk 0, .code [] 3]) (σ' := ⟨[(0, .list (.bytes a2)), (3, .int .i64 (IntKind.i64.wrap ((26583 : Int) + (a2.length : Int)))), (4, .int .i64 (0 : Int))], [(2000, .box [.int .i64 a0, .sl 2001 0]), (2001, .arr 3 0 0 (.ints a1))]⟩) rfl trivial rfl ?_
  obtain ⟨v3, hk4, h⟩ := bind_some h
  refine Tri.loop (K1 := [.code [(2, 0), (1, 0), (0, 0)] 0]) (K2 := [.blk 0, .code [] 3]) (fun (v1, v2) => ⟨[(0, .list (.bytes a2)), (3, .int .i64 v1), (4, .int .i64 v2)], [(2000, .box [.int .i64 a0, .sl 2001 0]), (2001, .arr 3 0 0 (.ints a1))]⟩) (fun x e σ' => match x with | v3 => e = .exit 0 ∧ σ' = ⟨[(0, .list (.bytes a2)), (3, .int .i64 v3)], [(2000, .box [.int .i64 a0, .sl 2001 0]), (2001, .arr 3 0 0 (.ints a1))]⟩) hk4 rfl rfl ?_ ?_
  · intro s x hs
    clear h
    have h := hs
    clear hs
    obtain ⟨v1, v2⟩ := s
    rcases bif_some h with ⟨hd1, h⟩ | ⟨hd1, h⟩
    · refine Tri.run 1 [.g true] [.keep [0, 3, 4, 15] [2000, 2001]] (K' := [.code [(2, 0), (1, 0), (0, 0), (0, 0)] 1, .code [(2, 0), (1, 0), (0, 0)] 1]) (σ' := ⟨[(0, .list (.bytes a2)), (3, .int .i64 v1), (4, .int .i64 v2), (15, .bool (decide (v2 < (4000 : Int))))], [(2000, .box [.int .i64 a0, .sl 2001 0]), (2001, .arr 3 0 0 (.ints a1))]⟩) rfl ⟨hd1, trivial⟩ rfl ?_
      rcases bif_some h with ⟨hd2, h⟩ | ⟨hd2, h⟩
      · obtain ⟨hg3, h⟩ := grd_some h
        refine Tri.run 3 [.g true] [.keep [0, 3, 4] [2000, 2001]] (K' := []) (σ' := ⟨[(0, .list (.bytes a2)), (3, .int .i64 (bitsOf .and .i64 (IntKind.i64.wrap ((IntKind.i64.wrap ((IntKind.i64.wrap (v1 * (131 : Int))) + (IntKind.i64.wrap (((a2.getD v2.toNat 0).toNat : Int))))) + (7 : Int))) (1073741823 : Int))), (4, .int .i64 (IntKind.i64.wrap (v2 + (1 : Int))))], [(2000, .box [.int .i64 a0, .sl 2001 0]), (2001, .arr 3 0 0 (.ints a1))]⟩) rfl ⟨hg3, hd2, trivial⟩ rfl ?_
        have h := Option.some.inj h
        subst h
        exact Tri.nil ⟨rfl, rfl⟩
      · refine Tri.run 1 [.g false] [.keep [0, 3] [2000, 2001]] (K' := [.code [(2, 0), (1, 0), (0, 0), (0, 0), (1, 1)] 0, .code [(2, 0), (1, 0), (0, 0)] 1]) (σ' := ⟨[(0, .list (.bytes a2)), (3, .int .i64 v1)], [(2000, .box [.int .i64 a0, .sl 2001 0]), (2001, .arr 3 0 0 (.ints a1))]⟩) rfl ⟨hd2, trivial⟩ rfl ?_
        have h := Option.some.inj h
        subst h
        exact Tri.out 0 rfl ⟨nofun, rfl, rfl⟩
    · refine Tri.run 1 [.g false] [.keep [0, 3, 4, 15] [2000, 2001]] (K' := [.code [(2, 0), (1, 0), (0, 0), (0, 0)] 1, .code [(2, 0), (1, 0), (0, 0)] 1]) (σ' := ⟨[(0, .list (.bytes a2)), (3, .int .i64 v1), (4, .int .i64 v2), (15, .bool false)], [(2000, .box [.int .i64 a0, .sl 2001 0]), (2001, .arr 3 0 0 (.ints a1))]⟩) rfl ⟨hd1, trivial⟩ rfl ?_
      refine Tri.run 1 [.g false] [.keep [0, 3] [2000, 2001]] (K' := [.code [(2, 0), (1, 0), (0, 0), (0, 0), (1, 1)] 0, .code [(2, 0), (1, 0), (0, 0)] 1]) (σ' := ⟨[(0, .list (.bytes a2)), (3, .int .i64 v1)], [(2000, .box [.int .i64 a0, .sl 2001 0]), (2001, .arr 3 0 0 (.ints a1))]⟩) rfl ⟨rfl, trivial⟩ rfl ?_
      have h := Option.some.inj h
      subst h
      exact Tri.out 0 rfl ⟨nofun, rfl, rfl⟩
  · intro e σ' hne hq
    obtain ⟨rfl, rfl⟩ := hq
    refine TriX.exit (K' := [.code [] 3]) rfl ?_
    refine Tri.run 1 [] [.swap 2001 1100, .swap 31 1000, .swap 1100 1001, .keep [2] [1000, 1001, 2000]] (K' := [.code [] 4]) (σ' := ⟨[(2, .ptr 1000 0)], [(1000, .box [.list (.bytes a2), .int .i64 0, .int .i64 v3]), (1001, .arr 3 0 0 (.ints a1)), (2000, .box [.int .i64 a0, .sl 1001 0])]⟩) rfl trivial rfl ?_
    have h := Option.some.inj h
    subst h
    exact Tri.ret rfl ⟨.inl rfl, rfl, rfl⟩
/-! spec.l1Min -/
noncomputable def E68_spec_l1Min : Env := ⟨Try.prog, tys, (Try.f68.body).getD .skip, 10, tysOk, mixedOk⟩
abbrev q_spec_l1Min (r : Int) (σ' : ASt) : Prop := resAV E68_spec_l1Min.T σ' Try.f68.results.toList = some (.int .i64 r) ∧ keepO σ'.ob (namesO []) = []
noncomputable def m_spec_l1Min (a0 : Int) (a1 : Int) : Option Int :=
bif decide (a0 < a1) then
(some a0)
else
(some a1)
theorem w_spec_l1Min (a0 : Int) (a1 : Int) (r : Int) (h : m_spec_l1Min a0 a1 = some r) : AM.Spec Try.prog 68 [.int .i64 a0, .int .i64 a1] [] (.int .i64 r) [] := by
  refine spec_of (E := E68_spec_l1Min) Try.func68 rfl rfl rfl rfl ?_
  refine Tri.run 2 [] [.keep [0, 1, 7] []] (K' := [.code [(1, 0)] 1, .code [] 2]) (σ' := ⟨[(0, .int .i64 a0), (1, .int .i64 a1), (7, .bool (decide (a0 < a1)))], []⟩) rfl trivial rfl ?_
  rcases bif_some h with ⟨hd1, h⟩ | ⟨hd1, h⟩
  · refine Tri.run 2 [.g true] [.keep [4] []] (K' := [.code [(1, 0), (1, 0)] 1, .code [] 2]) (σ' := ⟨[(4, .int .i64 a0)], []⟩) rfl ⟨hd1, trivial⟩ rfl ?_
    have h := Option.some.inj h
    subst h
    exact Tri.ret rfl ⟨.inl rfl, rfl, rfl⟩
  · refine Tri.run 2 [.g false] [.keep [4] []] (K' := [.code [] 3]) (σ' := ⟨[(4, .int .i64 a1)], []⟩) rfl ⟨hd1, trivial⟩ rfl ?_
    have h := Option.some.inj h
    subst h
    exact Tri.ret rfl ⟨.inl rfl, rfl, rfl⟩
/-! spec.DrawScaleGame -/
noncomputable def E26_spec_DrawScaleGame : Env := ⟨Try.prog, tys, (Try.f26.body).getD .skip, 39, tysOk, mixedOk⟩
abbrev q_spec_DrawScaleGame (r : Int × Int × (List Int) × (List Int)) (σ' : ASt) : Prop := resAV E26_spec_DrawScaleGame.T σ' Try.f26.results.toList = some (.tuple [.agg [.int .i64 r.1, .sl 1000 0], .int .i64 r.2.1, .sl 1001 0]) ∧ keepO σ'.ob (namesO [(1000, .arr 3 0 0 (.ints r.2.2.1)), (1001, .arr 3 0 0 (.ints r.2.2.2))]) = [(1000, .arr 3 0 0 (.ints r.2.2.1)), (1001, .arr 3 0 0 (.ints r.2.2.2))]
noncomputable def l_spec_DrawScaleGame_0 (v1 : List UInt8) (v11 : Int) (v12 : Int) : (Int × (List Int) × Int × Int) → Option ((Int × (List Int) × Int × Int) ⊕ (((List Int) × Int × Int)))
  | (v15, v16, v17, v18) => (
bif decide (v15 < (IntKind.i64.wrap (v11 + v12))) then
((m_spec_l1PickInt_io1 v1 v17 v18 [(0 : Int), (2 : Int), (-5 : Int), (100 : Int)]).bind fun (v19, v20, v21) =>
grd (v16.length + ([v19] : List Int).length ≤ room) <|
some (.inl (IntKind.i64.wrap (v15 + (1 : Int)), v16 ++ [v19], v20, v21)))
else
(some (.inr (v16, v17, v18))))
noncomputable def m_spec_DrawScaleGame (a0 : List UInt8) : Option (Int × Int × (List Int) × (List Int)) :=
(m_spec_l1New_io2 0 [] a0).bind fun (v1, v2, v3, _, _) =>
(m_spec_l8Bent_io1 v1 v2 v3).bind fun (v6, v7, v8, v9) =>
(m_spec_l1Max v6 (0 : Int)).bind fun v10 =>
(m_spec_l1Min v10 (6 : Int)).bind fun v11 =>
(m_spec_l1PickInt_io1 v1 v8 v9 [(0 : Int), (0 : Int), (0 : Int), (0 : Int), (1 : Int)]).bind fun (v12, v13, v14) =>
(iter (l_spec_DrawScaleGame_0 v1 v11 v12) ((0 : Int), [], v13, v14)).bind fun
| (v22, v23, v24) => (
(m_spec_l1PickInt_io1 v1 v23 v24 [(1 : Int), (2 : Int), (0 : Int), (-3 : Int), (501 : Int), (100 : Int)]).bind fun (v25, _, _) =>
some (v6, v25, v7, v22))
theorem w_spec_DrawScaleGame (a0 : List UInt8) (r : Int × Int × (List Int) × (List Int)) (h : m_spec_DrawScaleGame a0 = some r) : AM.Spec Try.prog 26 [.list (.bytes a0)] [] (.tuple [.agg [.int .i64 r.1, .sl 1000 0], .int .i64 r.2.1, .sl 1001 0]) [(1000, .arr 3 0 0 (.ints r.2.2.1)), (1001, .arr 3 0 0 (.ints r.2.2.2))] := by
  refine spec_of (E := E26_spec_DrawScaleGame) Try.func26 rfl rfl rfl rfl ?_
  refine Tri.run 1 [] [.keep [0, 2] [2], .ownc 2 1 1100 3, .keep [0, 2] [2, 1100]] (K' := [.code [(1, 0)] 0, .code [] 2]) (σ' := ⟨[(0, .list (.bytes a0)), (2, .ptr 2 0)], [(2, .box [.int .i64 0, .sl 1100 0]), (1100, .arr 3 0 0 (.ints []))]⟩) rfl trivial rfl ?_
  obtain ⟨⟨v1, v2, v3, v4, v5⟩, hk1, h⟩ := bind_some h
  obtain ⟨⟨v6, v7, v8, v9⟩, hk2, h⟩ := bind_some h
  refine Tri.run 3 [.r ⟨[2, 1100], .ptr 1101 0, [(1101, .box [.list (.bytes v1), .int .i64 v2, .int .i64 v3]), (1102, .arr 3 0 0 (.ints v4)), (2, .box [.int .i64 v5, .sl 1102 0])]⟩, .r ⟨[1101], .agg [.int .i64 v6, .sl 1103 0], [(1103, .arr 3 0 0 (.ints v7)), (1101, .box [.undf, .int .i64 v8, .int .i64 v9])]⟩] [.keep [2, 5, 6, 7] [2, 6, 14, 1101, 1102, 1103]] (K' := [.code [(4, 0)] 0, .code [] 5]) (σ' := ⟨[(2, .ptr 2 0), (5, .ptr 1101 0), (6, .ptr 6 0), (7, .sl 14 0)], [(2, .box [.int .i64 v5, .sl 1102 0]), (6, .box [.int .i64 v6, .sl 1103 0]), (14, .arr 3 0 0 (.ints [])), (1101, .box [.list (.bytes v1), .int .i64 v8, .int .i64 v9]), (1102, .arr 3 0 0 (.ints v4)), (1103, .arr 3 0 0 (.ints v7))]⟩) rfl ⟨(fun vf => (((w_spec_l8Bent_io1 (vf 1101 0) v1 v2 v3 (v6, v7, v8, v9) hk2).swap 1000 1103).swap 2020 1101)), (fun _ => (((((w_spec_l1New_io2 0 [] a0 (v1, v2, v3, v4, v5) hk1).swap 1000 1101).swap 1001 1102).swap 2000 2).swap 2001 1100)), trivial⟩ rfl ?_
  obtain ⟨v10, hk3, h⟩ := bind_some h
  obtain ⟨v11, hk4, h⟩ := bind_some h
  obtain ⟨⟨v12, v13, v14⟩, hk5, h⟩ := bind_some h
  refine Tri.run 2 [.r ⟨[], .int .i64 v10, []⟩, .r ⟨[], .int .i64 v11, []⟩, .r ⟨[1101], .int .i64 v12, [(1101, .box [.undf, .int .i64 v13, .int .i64 v14])]⟩] [.keep [2, 5, 6, 7, 8, 9] [2, 6, 14, 1101, 1102, 1103]] (K' := [.code [(5, 0), (1, 0)] 0, .blk 0, .code [] 6]) (σ' := ⟨[(2, .ptr 2 0), (5, .ptr 1101 0), (6, .ptr 6 0), (7, .sl 14 0), (8, .int .i64 (IntKind.i64.wrap (v11 + v12))), (9, .int .i64 (0 : Int))], [(2, .box [.int .i64 v5, .sl 1102 0]), (6, .box [.int .i64 v6, .sl 1103 0]), (14, .arr 3 0 0 (.ints [])), (1101, .box [.list (.bytes v1), .int .i64 v13, .int .i64 v14]), (1102, .arr 3 0 0 (.ints v4)), (1103, .arr 3 0 0 (.ints v7))]⟩) rfl ⟨(fun vf => ((w_spec_l1PickInt_io1 (vf 1101 0) v1 v8 v9 [(0 : Int), (0 : Int), (0 : Int), (0 : Int), (1 : Int)] (v12, v13, v14) hk5).swap 2100 1101)), (fun _ => (w_spec_l1Min v10 (6 : Int) v11 hk4)), (fun _ => (w_spec_l1Max v6 (0 : Int) v10 hk3)), trivial⟩ rfl ?_
  obtain ⟨x1, hk9, h⟩ := bind_some h
  refine Tri.loop (K1 := [.code [(5, 0), (1, 0), (0, 0)] 0]) (K2 := [.blk 0, .code [] 6]) (fun (v15, v16, v17, v18) => ⟨[(2, .ptr 2 0), (5, .ptr 1101 0), (6, .ptr 6 0), (7, .sl 14 0), (8, .int .i64 (IntKind.i64.wrap (v11 + v12))), (9, .int .i64 v15)], [(2, .box [.int .i64 v5, .sl 1102 0]), (6, .box [.int .i64 v6, .sl 1103 0]), (14, .arr 3 0 0 (.ints v16)), (1101, .box [.list (.bytes v1), .int .i64 v17, .int .i64 v18]), (1102, .arr 3 0 0 (.ints v4)), (1103, .arr 3 0 0 (.ints v7))]⟩) (fun x e σ' => match x with | (v22, v23, v24) => e = .exit 0 ∧ σ' = ⟨[(2, .ptr 2 0), (5, .ptr 1101 0), (6, .ptr 6 0), (7, .sl 14 0)], [(2, .box [.int .i64 v5, .sl 1102 0]), (6, .box [.int .i64 v6, .sl 1103 0]), (14, .arr 3 0 0 (.ints v22)), (1101, .box [.list (.bytes v1), .int .i64 v23, .int .i64 v24]), (1102, .arr 3 0 0 (.ints v4)), (1103, .arr 3 0 0 (.ints v7))]⟩) hk9 rfl rfl ?_ ?_
  · intro s x hs
    clear h
    have h := hs
    clear hs
    obtain ⟨v15, v16, v17, v18⟩ := s
    refine Tri.run 1 [] [.keep [2, 5, 6, 7, 8, 9, 25] [2, 6, 14, 1101, 1102, 1103]] (K' := [.code [(5, 0), (1, 0), (0, 0), (0, 0)] 1, .code [(5, 0), (1, 0), (0, 0)] 1]) (σ' := ⟨[(2, .ptr 2 0), (5, .ptr 1101 0), (6, .ptr 6 0), (7, .sl 14 0), (8, .int .i64 (IntKind.i64.wrap (v11 + v12))), (9, .int .i64 v15), (25, .bool (decide (v15 < (IntKind.i64.wrap (v11 + v12)))))], [(2, .box [.int .i64 v5, .sl 1102 0]), (6, .box [.int .i64 v6, .sl 1103 0]), (14, .arr 3 0 0 (.ints v16)), (1101, .box [.list (.bytes v1), .int .i64 v17, .int .i64 v18]), (1102, .arr 3 0 0 (.ints v4)), (1103, .arr 3 0 0 (.ints v7))]⟩) rfl trivial rfl ?_
    rcases bif_some h with ⟨hd6, h⟩ | ⟨hd6, h⟩
    · obtain ⟨⟨v19, v20, v21⟩, hk7, h⟩ := bind_some h
      obtain ⟨hg8, h⟩ := grd_some h
      refine Tri.run 3 [.g true, .r ⟨[1101], .int .i64 v19, [(1101, .box [.undf, .int .i64 v20, .int .i64 v21])]⟩] [.rever 14, .keep [2, 5, 6, 7, 8, 9] [2, 6, 14, 1101, 1102, 1103]] (K' := []) (σ' := ⟨[(2, .ptr 2 0), (5, .ptr 1101 0), (6, .ptr 6 0), (7, .sl 14 0), (8, .int .i64 (IntKind.i64.wrap (v11 + v12))), (9, .int .i64 (IntKind.i64.wrap (v15 + (1 : Int))))], [(2, .box [.int .i64 v5, .sl 1102 0]), (6, .box [.int .i64 v6, .sl 1103 0]), (14, .arr 3 0 0 (.ints (v16 ++ [v19]))), (1101, .box [.list (.bytes v1), .int .i64 v20, .int .i64 v21]), (1102, .arr 3 0 0 (.ints v4)), (1103, .arr 3 0 0 (.ints v7))]⟩) rfl ⟨hg8, (fun vf => ((w_spec_l1PickInt_io1 (vf 1101 0) v1 v17 v18 [(0 : Int), (2 : Int), (-5 : Int), (100 : Int)] (v19, v20, v21) hk7).swap 2100 1101)), hd6, trivial⟩ rfl ?_
      have h := Option.some.inj h
      subst h
      exact Tri.nil ⟨rfl, rfl⟩
    · refine Tri.run 1 [.g false] [.keep [2, 5, 6, 7] [2, 6, 14, 1101, 1102, 1103]] (K' := [.code [(5, 0), (1, 0), (0, 0), (0, 0), (1, 1)] 0, .code [(5, 0), (1, 0), (0, 0)] 1]) (σ' := ⟨[(2, .ptr 2 0), (5, .ptr 1101 0), (6, .ptr 6 0), (7, .sl 14 0)], [(2, .box [.int .i64 v5, .sl 1102 0]), (6, .box [.int .i64 v6, .sl 1103 0]), (14, .arr 3 0 0 (.ints v16)), (1101, .box [.list (.bytes v1), .int .i64 v17, .int .i64 v18]), (1102, .arr 3 0 0 (.ints v4)), (1103, .arr 3 0 0 (.ints v7))]⟩) rfl ⟨hd6, trivial⟩ rfl ?_
      have h := Option.some.inj h
      subst h
      exact Tri.out 0 rfl ⟨nofun, rfl, rfl⟩
  · intro e σ' hne hq
    obtain ⟨v22, v23, v24⟩ := x1
    obtain ⟨rfl, rfl⟩ := hq
    refine TriX.exit (K' := [.code [] 6]) rfl ?_
    obtain ⟨⟨v25, v26, v27⟩, hk10, h⟩ := bind_some h
    refine Tri.run 1 [.r ⟨[1101], .int .i64 v25, [(1101, .box [.undf, .int .i64 v26, .int .i64 v27])]⟩] [.swap 1103 1000, .swap 14 1001, .keep [2, 3, 4] [2, 1000, 1001]] (K' := [.code [] 7]) (σ' := ⟨[(2, .ptr 2 0), (3, .int .i64 v25), (4, .sl 1001 0)], [(2, .box [.int .i64 v6, .sl 1000 0]), (1000, .arr 3 0 0 (.ints v7)), (1001, .arr 3 0 0 (.ints v22))]⟩) rfl ⟨(fun vf => ((w_spec_l1PickInt_io1 (vf 1101 0) v1 v23 v24 [(1 : Int), (2 : Int), (0 : Int), (-3 : Int), (501 : Int), (100 : Int)] (v25, v26, v27) hk10).swap 2100 1101)), trivial⟩ rfl ?_
    have h := Option.some.inj h
    subst h
    exact Tri.ret rfl ⟨.inl rfl, rfl, rfl⟩
/-! impl.ScaleGame$1 -/
noncomputable def E71_impl_ScaleGame_1 : Env := ⟨Try.prog, tys, (Try.f71.body).getD .skip, 6, tysOk, mixedOk⟩
abbrev q_impl_ScaleGame_1 (r : Bool) (σ' : ASt) : Prop := resAV E71_impl_ScaleGame_1.T σ' Try.f71.results.toList = some (.bool r) ∧ keepO σ'.ob (namesO []) = []
noncomputable def m_impl_ScaleGame_1 (a0 : Int) : Option Bool :=
(m_impl_within a0 (-500 : Int) (500 : Int)).bind fun v1 =>
some (!v1)
theorem w_impl_ScaleGame_1 (a0 : Int) (r : Bool) (h : m_impl_ScaleGame_1 a0 = some r) : AM.Spec Try.prog 71 [.int .i64 a0] [] (.bool r) [] := by
  refine spec_of (E := E71_impl_ScaleGame_1) Try.func71 rfl rfl rfl rfl ?_
  refine Tri.run 1 [] [.keep [0] []] (K' := [.code [(1, 0)] 0, .code [] 2]) (σ' := ⟨[(0, .int .i64 a0)], []⟩) rfl trivial rfl ?_
  obtain ⟨v1, hk1, h⟩ := bind_some h
  refine Tri.run 1 [.r ⟨[], .bool v1, []⟩] [.keep [2] []] (K' := [.code [] 2]) (σ' := ⟨[(2, .bool (!v1))], []⟩) rfl ⟨(fun _ => (w_impl_within a0 (-500 : Int) (500 : Int) v1 hk1)), trivial⟩ rfl ?_
  have h := Option.some.inj h
  subst h
  exact Tri.ret rfl ⟨.inl rfl, rfl, rfl⟩
/-! slices.IndexFunc(()int,int) -/
abbrev q_slices_IndexFunc_int_int_impl_ScaleGame_1 (r : Int) (σ' : ASt) : Prop := resAV E102_slices_IndexFunc_int_int.T σ' Try.f102.results.toList = some (.int .i64 r) ∧ keepO σ'.ob (namesO []) = []
noncomputable def l_slices_IndexFunc_int_int_impl_ScaleGame_1_0 (a0 : List Int) (v1 : Int) : Option (Int ⊕ (Unit ⊕ Int)) :=
bif decide (v1 < (a0.length : Int)) then
(grd ((0 : Int) ≤ v1 ∧ v1 < (a0.length : Int)) <|
(m_impl_ScaleGame_1 (a0.getD v1.toNat 0)).bind fun v2 =>
bif v2 then
(some (.inr (.inr v1)))
else
(some (.inl (IntKind.i64.wrap (v1 + (1 : Int))))))
else
(some (.inr (.inl ())))
noncomputable def m_slices_IndexFunc_int_int_impl_ScaleGame_1 (a0 : List Int) : Option Int :=
(iter (l_slices_IndexFunc_int_int_impl_ScaleGame_1_0 a0) (0 : Int)).bind fun
| (.inl _) => (
some (-1 : Int))
| (.inr r) => some r
theorem w_slices_IndexFunc_int_int_impl_ScaleGame_1 (a0 : List Int) (r : Int) (h : m_slices_IndexFunc_int_int_impl_ScaleGame_1 a0 = some r) : AM.Spec Try.prog 102 [.list (.ints a0), .func 71 [] []] [] (.int .i64 r) [] := by
  refine spec_of (E := E102_slices_IndexFunc_int_int) Try.func102 rfl rfl rfl rfl ?_
  refine Tri.run 2 [] [.keep [0, 1, 7, 8] []] (K' := [.code [(1, 0), (1, 0)] 0, .blk 0, .code [] 2]) (σ' := ⟨[(0, .list (.ints a0)), (1, .func 71 [] []), (7, .int .i64 (a0.length : Int)), (8, .int .i64 (0 : Int))], []⟩) rfl trivial rfl ?_
  obtain ⟨x1, hk5, h⟩ := bind_some h
  refine Tri.loop (K1 := [.code [(1, 0), (1, 0), (0, 0)] 0]) (K2 := [.blk 0, .code [] 2]) (fun v1 => ⟨[(0, .list (.ints a0)), (1, .func 71 [] []), (7, .int .i64 (a0.length : Int)), (8, .int .i64 v1)], []⟩) (fun x e σ' => match x with | (.inl _) => e = .exit 0 ∧ σ' = ⟨[], []⟩ | (.inr r) => e = .ret ∧ q_slices_IndexFunc_int_int_impl_ScaleGame_1 r σ') hk5 rfl rfl ?_ ?_
  · intro v1 x hs
    clear h
    have h := hs
    clear hs
    refine Tri.run 1 [] [.keep [0, 1, 7, 8, 9] []] (K' := [.code [(1, 0), (1, 0), (0, 0), (1, 0)] 0, .code [(1, 0), (1, 0), (0, 0)] 2]) (σ' := ⟨[(0, .list (.ints a0)), (1, .func 71 [] []), (7, .int .i64 (a0.length : Int)), (8, .int .i64 v1), (9, .bool (decide (v1 < (a0.length : Int))))], []⟩) rfl trivial rfl ?_
    rcases bif_some h with ⟨hd1, h⟩ | ⟨hd1, h⟩
    · refine Tri.run 2 [.g true] [.keep [0, 1, 5, 7, 8] []] (K' := [.code [(1, 0), (1, 0), (0, 0), (2, 0), (0, 0), (1, 0)] 0, .code [(1, 0), (1, 0), (0, 0), (2, 0), (0, 0)] 2, .blk 1, .code [(1, 0), (1, 0), (0, 0)] 3]) (σ' := ⟨[(0, .list (.ints a0)), (1, .func 71 [] []), (5, .int .i64 v1), (7, .int .i64 (a0.length : Int)), (8, .int .i64 v1)], []⟩) rfl ⟨hd1, trivial⟩ rfl ?_
      obtain ⟨hg2, h⟩ := grd_some h
      obtain ⟨v2, hk3, h⟩ := bind_some h
      refine Tri.run 1 [.r ⟨[], .bool v2, []⟩] [.keep [0, 1, 5, 7, 8, 16] []] (K' := [.code [(1, 0), (1, 0), (0, 0), (2, 0), (0, 0)] 2, .blk 1, .code [(1, 0), (1, 0), (0, 0)] 3]) (σ' := ⟨[(0, .list (.ints a0)), (1, .func 71 [] []), (5, .int .i64 v1), (7, .int .i64 (a0.length : Int)), (8, .int .i64 v1), (16, .bool v2)], []⟩) rfl ⟨(fun _ => (w_impl_ScaleGame_1 (a0.getD v1.toNat 0) v2 hk3)), hg2, trivial⟩ rfl ?_
      rcases bif_some h with ⟨hd4, h⟩ | ⟨hd4, h⟩
      · refine Tri.run 2 [.g true] [.keep [4] []] (K' := [.code [(1, 0), (1, 0), (0, 0), (2, 0), (0, 0), (2, 0)] 1, .blk 1, .code [(1, 0), (1, 0), (0, 0)] 3]) (σ' := ⟨[(4, .int .i64 v1)], []⟩) rfl ⟨hd4, trivial⟩ rfl ?_
        have h := Option.some.inj h
        subst h
        exact Tri.ret rfl ⟨nofun, rfl, rfl, rfl⟩
      · refine Tri.run 2 [.g false] [.keep [0, 1, 7, 8] []] (K' := []) (σ' := ⟨[(0, .list (.ints a0)), (1, .func 71 [] []), (7, .int .i64 (a0.length : Int)), (8, .int .i64 (IntKind.i64.wrap (v1 + (1 : Int))))], []⟩) rfl ⟨hd4, trivial⟩ rfl ?_
        have h := Option.some.inj h
        subst h
        exact Tri.nil ⟨rfl, rfl⟩
    · refine Tri.run 1 [.g false] [.keep [] []] (K' := [.code [(1, 0), (1, 0), (0, 0), (1, 0), (0, 1)] 0, .code [(1, 0), (1, 0), (0, 0)] 2]) (σ' := ⟨[], []⟩) rfl ⟨hd1, trivial⟩ rfl ?_
      have h := Option.some.inj h
      subst h
      exact Tri.out 0 rfl ⟨nofun, rfl, rfl⟩
  · intro e σ' hne hq
    rcases x1 with _ | r
    · obtain ⟨rfl, rfl⟩ := hq
      refine TriX.exit (K' := [.code [] 2]) rfl ?_
      refine Tri.run 1 [] [.keep [4] []] (K' := [.code [] 3]) (σ' := ⟨[(4, .int .i64 (-1 : Int))], []⟩) rfl trivial rfl ?_
      have h := Option.some.inj h
      subst h
      exact Tri.ret rfl ⟨.inl rfl, rfl, rfl⟩
    · obtain ⟨rfl, hq⟩ := hq
      have h := Option.some.inj h
      subst h
      exact TriX.ret ⟨.inl rfl, hq⟩
/-! slices.ContainsFunc(()int,int) -/
abbrev q_slices_ContainsFunc_int_int_impl_ScaleGame_1 (r : Bool) (σ' : ASt) : Prop := resAV E72_slices_ContainsFunc_int_int.T σ' Try.f72.results.toList = some (.bool r) ∧ keepO σ'.ob (namesO []) = []
noncomputable def m_slices_ContainsFunc_int_int_impl_ScaleGame_1 (a0 : List Int) : Option Bool :=
(m_slices_IndexFunc_int_int_impl_ScaleGame_1 a0).bind fun v1 =>
some (decide (v1 ≥ (0 : Int)))
theorem w_slices_ContainsFunc_int_int_impl_ScaleGame_1 (a0 : List Int) (r : Bool) (h : m_slices_ContainsFunc_int_int_impl_ScaleGame_1 a0 = some r) : AM.Spec Try.prog 72 [.list (.ints a0), .func 71 [] []] [] (.bool r) [] := by
  refine spec_of (E := E72_slices_ContainsFunc_int_int) Try.func72 rfl rfl rfl rfl ?_
  refine Tri.run 1 [] [.keep [0, 1] []] (K' := [.code [(1, 0)] 0, .code [] 2]) (σ' := ⟨[(0, .list (.ints a0)), (1, .func 71 [] [])], []⟩) rfl trivial rfl ?_
  obtain ⟨v1, hk1, h⟩ := bind_some h
  refine Tri.run 1 [.r ⟨[], .int .i64 v1, []⟩] [.keep [4] []] (K' := [.code [] 2]) (σ' := ⟨[(4, .bool (decide (v1 ≥ (0 : Int))))], []⟩) rfl ⟨(fun _ => (w_slices_IndexFunc_int_int_impl_ScaleGame_1 a0 v1 hk1)), trivial⟩ rfl ?_
  have h := Option.some.inj h
  subst h
  exact Tri.ret rfl ⟨.inl rfl, rfl, rfl⟩
/-! impl.sumOver -/
noncomputable def E74_impl_sumOver : Env := ⟨Try.prog, tys, (Try.f74.body).getD .skip, 25, tysOk, mixedOk⟩
abbrev q_impl_sumOver (r : Int) (σ' : ASt) : Prop := resAV E74_impl_sumOver.T σ' Try.f74.results.toList = some (.int .i64 r) ∧ keepO σ'.ob (namesO []) = []
noncomputable def l_impl_sumOver_0 (a0 : List Int) (a1 : Int) : (Int × Int) → Option ((Int × Int) ⊕ Int)
  | (v1, v2) => (
bif decide (v2 < (a0.length : Int)) then
(grd ((0 : Int) ≤ v2 ∧ v2 < (a0.length : Int)) <|
grd ((0 : Int) ≤ v2) <|
bif (bitsOf .and .i64 (a1.fdiv (2 ^ (min v2.toNat 64))) (1 : Int)) == (1 : Int) then
(some (.inl (IntKind.i64.wrap (v1 + (a0.getD v2.toNat 0)), IntKind.i64.wrap (v2 + (1 : Int)))))
else
(some (.inl (v1, IntKind.i64.wrap (v2 + (1 : Int))))))
else
(some (.inr v1)))
noncomputable def m_impl_sumOver (a0 : List Int) (a1 : Int) : Option Int :=
(iter (l_impl_sumOver_0 a0 a1) ((0 : Int), (0 : Int))).bind fun
| v3 => (
some v3)
theorem w_impl_sumOver (a0 : List Int) (a1 : Int) (r : Int) (h : m_impl_sumOver a0 a1 = some r) : AM.Spec Try.prog 74 [.list (.ints a0), .int .i64 a1] [] (.int .i64 r) [] := by
  refine spec_of (E := E74_impl_sumOver) Try.func74 rfl rfl rfl rfl ?_
  refine Tri.run 3 [] [.keep [1, 5, 8, 9, 10] []] (K' := [.code [(2, 0), (1, 0)] 0, .blk 0, .code [] 3]) (σ' := ⟨[(1, .int .i64 a1), (5, .int .i64 (0 : Int)), (8, .list (.ints a0)), (9, .int .i64 (a0.length : Int)), (10, .int .i64 (0 : Int))], []⟩) rfl trivial rfl ?_
  obtain ⟨v3, hk5, h⟩ := bind_some h
  refine Tri.loop (K1 := [.code [(2, 0), (1, 0), (0, 0)] 0]) (K2 := [.blk 0, .code [] 3]) (fun (v1, v2) => ⟨[(1, .int .i64 a1), (5, .int .i64 v1), (8, .list (.ints a0)), (9, .int .i64 (a0.length : Int)), (10, .int .i64 v2)], []⟩) (fun x e σ' => match x with | v3 => e = .exit 0 ∧ σ' = ⟨[(5, .int .i64 v3)], []⟩) hk5 rfl rfl ?_ ?_
  · intro s x hs
    clear h
    have h := hs
    clear hs
    obtain ⟨v1, v2⟩ := s
    refine Tri.run 1 [] [.keep [1, 5, 8, 9, 10, 11] []] (K' := [.code [(2, 0), (1, 0), (0, 0), (1, 0)] 0, .code [(2, 0), (1, 0), (0, 0)] 2]) (σ' := ⟨[(1, .int .i64 a1), (5, .int .i64 v1), (8, .list (.ints a0)), (9, .int .i64 (a0.length : Int)), (10, .int .i64 v2), (11, .bool (decide (v2 < (a0.length : Int))))], []⟩) rfl trivial rfl ?_
    rcases bif_some h with ⟨hd1, h⟩ | ⟨hd1, h⟩
    · obtain ⟨hg2, h⟩ := grd_some h
      obtain ⟨hg3, h⟩ := grd_some h
      refine Tri.run 3 [.g true] [.keep [1, 5, 7, 8, 9, 10, 19] []] (K' := [.code [(2, 0), (1, 0), (0, 0), (2, 0), (0, 0)] 2, .blk 1, .code [(2, 0), (1, 0), (0, 0)] 3]) (σ' := ⟨[(1, .int .i64 a1), (5, .int .i64 v1), (7, .int .i64 (a0.getD v2.toNat 0)), (8, .list (.ints a0)), (9, .int .i64 (a0.length : Int)), (10, .int .i64 v2), (19, .bool ((bitsOf .and .i64 (a1.fdiv (2 ^ (min v2.toNat 64))) (1 : Int)) == (1 : Int)))], []⟩) rfl ⟨hg3, hg2, hd1, trivial⟩ rfl ?_
      rcases bif_some h with ⟨hd4, h⟩ | ⟨hd4, h⟩
      · refine Tri.run 3 [.g true] [.keep [1, 5, 8, 9, 10] []] (K' := []) (σ' := ⟨[(1, .int .i64 a1), (5, .int .i64 (IntKind.i64.wrap (v1 + (a0.getD v2.toNat 0)))), (8, .list (.ints a0)), (9, .int .i64 (a0.length : Int)), (10, .int .i64 (IntKind.i64.wrap (v2 + (1 : Int))))], []⟩) rfl ⟨hd4, trivial⟩ rfl ?_
        have h := Option.some.inj h
        subst h
        exact Tri.nil ⟨rfl, rfl⟩
      · refine Tri.run 2 [.g false] [.keep [1, 5, 8, 9, 10] []] (K' := []) (σ' := ⟨[(1, .int .i64 a1), (5, .int .i64 v1), (8, .list (.ints a0)), (9, .int .i64 (a0.length : Int)), (10, .int .i64 (IntKind.i64.wrap (v2 + (1 : Int))))], []⟩) rfl ⟨hd4, trivial⟩ rfl ?_
        have h := Option.some.inj h
        subst h
        exact Tri.nil ⟨rfl, rfl⟩
    · refine Tri.run 1 [.g false] [.keep [5] []] (K' := [.code [(2, 0), (1, 0), (0, 0), (1, 0), (0, 1)] 0, .code [(2, 0), (1, 0), (0, 0)] 2]) (σ' := ⟨[(5, .int .i64 v1)], []⟩) rfl ⟨hd1, trivial⟩ rfl ?_
      have h := Option.some.inj h
      subst h
      exact Tri.out 0 rfl ⟨nofun, rfl, rfl⟩
  · intro e σ' hne hq
    obtain ⟨rfl, rfl⟩ := hq
    refine TriX.exit (K' := [.code [] 3]) rfl ?_
    refine Tri.run 1 [] [.keep [4] []] (K' := [.code [] 4]) (σ' := ⟨[(4, .int .i64 v3)], []⟩) rfl trivial rfl ?_
    have h := Option.some.inj h
    subst h
    exact Tri.ret rfl ⟨.inl rfl, rfl, rfl⟩
/-! impl.ScaleGame$2 -/
noncomputable def E73_impl_ScaleGame_2 : Env := ⟨Try.prog, tys, (Try.f73.body).getD .skip, 17, tysOk, mixedOk⟩
abbrev q_impl_ScaleGame_2 (r : Int) (σ' : ASt) : Prop := resAV E73_impl_ScaleGame_2.T σ' Try.f73.results.toList = some (.int .i64 r) ∧ keepO σ'.ob (namesO []) = []
noncomputable def m_impl_ScaleGame_2 (a0 : Int) (a1 : Int) (_a2 : Int) (a3 : List Int) (a4 : List Int) : Option Int :=
grd ((0 : Int) ≤ a0 ∧ a0 < (a3.length : Int)) <|
(m_impl_sumOver a4 a0).bind fun v1 =>
some (IntKind.i64.wrap ((IntKind.i64.wrap (a1 * (a3.getD a0.toNat 0))) + v1))
theorem w_impl_ScaleGame_2 (a0 : Int) (a1 : Int) (a2 : Int) (a3 : List Int) (a4 : List Int) (r : Int) (h : m_impl_ScaleGame_2 a0 a1 a2 a3 a4 = some r) : AM.Spec Try.prog 73 [.int .i64 a0, .pbox [.int .i64 a1] 0, .pbox [.int .i64 a2, .list (.ints a3)] 0, .pbox [.list (.ints a4)] 0] [] (.int .i64 r) [] := by
  refine spec_of (E := E73_impl_ScaleGame_2) Try.func73 rfl rfl rfl rfl ?_
  refine Tri.run 1 [] [.keep [0, 1, 2, 3] []] (K' := [.code [(1, 0)] 0, .code [] 2]) (σ' := ⟨[(0, .int .i64 a0), (1, .pbox [.int .i64 a1] 0), (2, .pbox [.int .i64 a2, .list (.ints a3)] 0), (3, .pbox [.list (.ints a4)] 0)], []⟩) rfl trivial rfl ?_
  obtain ⟨hg1, h⟩ := grd_some h
  obtain ⟨v1, hk2, h⟩ := bind_some h
  refine Tri.run 1 [.r ⟨[], .int .i64 v1, []⟩] [.keep [5] []] (K' := [.code [] 2]) (σ' := ⟨[(5, .int .i64 (IntKind.i64.wrap ((IntKind.i64.wrap (a1 * (a3.getD a0.toNat 0))) + v1)))], []⟩) rfl ⟨(fun _ => (w_impl_sumOver a4 a0 v1 hk2)), hg1, trivial⟩ rfl ?_
  have h := Option.some.inj h
  subst h
  exact Tri.ret rfl ⟨.inl rfl, rfl, rfl⟩
/-! impl.made -/
abbrev q_impl_made_impl_ScaleGame_2 (r : Int × Bool × (List Int)) (σ' : ASt) : Prop := resAV E65_impl_made.T σ' Try.f65.results.toList = some (.tuple [.agg [.int .i64 r.1, .sl 1000 0], .bool r.2.1]) ∧ keepO σ'.ob (namesO [(1000, .arr 3 0 0 (.ints r.2.2))]) = [(1000, .arr 3 0 0 (.ints r.2.2))]
noncomputable def l_impl_made_impl_ScaleGame_2_0 (a1 : Int) (a2 : Int) (a3 : List Int) (a4 : List Int) (v1 : Int) : (Int × (List Int)) → Option ((Int × (List Int)) ⊕ ((List Int)))
  | (v2, v3) => (
bif decide (v2 < v1) then
((m_impl_ScaleGame_2 v2 a1 a2 a3 a4).bind fun v4 =>
grd (v3.length + ([v4] : List Int).length ≤ room) <|
some (.inl (IntKind.i64.wrap (v2 + (1 : Int)), v3 ++ [v4])))
else
(some (.inr v3)))
noncomputable def m_impl_made_impl_ScaleGame_2 (a0 : Int) (a1 : Int) (a2 : Int) (a3 : List Int) (a4 : List Int) : Option (Int × Bool × (List Int)) :=
(m_impl_CountCoalitions a0).bind fun v1 =>
(iter (l_impl_made_impl_ScaleGame_2_0 a1 a2 a3 a4 v1) ((0 : Int), [])).bind fun
| v5 => (
(m_impl_IsValidGame a0 v5).bind fun v6 =>
bif !v6 then
(some (0, false, []))
else
(some (a0, true, v5)))
theorem w_impl_made_impl_ScaleGame_2 (a0 : Int) (a1 : Int) (a2 : Int) (a3 : List Int) (a4 : List Int) (r : Int × Bool × (List Int)) (h : m_impl_made_impl_ScaleGame_2 a0 a1 a2 a3 a4 = some r) : AM.Spec Try.prog 65 [.int .i64 a0, .func 73 [] [.pbox [.int .i64 a1] 0, .pbox [.int .i64 a2, .list (.ints a3)] 0, .pbox [.list (.ints a4)] 0]] [] (.tuple [.agg [.int .i64 r.1, .sl 1000 0], .bool r.2.1]) [(1000, .arr 3 0 0 (.ints r.2.2))] := by
  refine spec_of (E := E65_impl_made) Try.func65 rfl rfl rfl rfl ?_
  refine Tri.run 2 [] [.keep [0, 1, 4, 6] [4, 6], .ownc 4 1 1100 3, .ownc 6 1 1101 3, .keep [0, 1, 4, 6] [4, 6, 1100, 1101]] (K' := [.code [(2, 0), (0, 0)] 0, .code [(2, 0)] 1, .code [] 3]) (σ' := ⟨[(0, .int .i64 a0), (1, .func 73 [] [.pbox [.int .i64 a1] 0, .pbox [.int .i64 a2, .list (.ints a3)] 0, .pbox [.list (.ints a4)] 0]), (4, .ptr 4 0), (6, .ptr 6 0)], [(4, .box [.int .i64 0, .sl 1100 0]), (6, .box [.int .i64 a0, .sl 1101 0]), (1100, .arr 3 0 0 (.ints [])), (1101, .arr 3 0 0 (.ints []))]⟩) rfl trivial rfl ?_
  obtain ⟨v1, hk1, h⟩ := bind_some h
  refine Tri.run 1 [.r ⟨[], .int .i64 v1, []⟩] [.keep [1, 4, 6, 11, 12] [4, 6, 1100, 1101]] (K' := [.code [(2, 0), (1, 0)] 0, .blk 0, .code [] 3]) (σ' := ⟨[(1, .func 73 [] [.pbox [.int .i64 a1] 0, .pbox [.int .i64 a2, .list (.ints a3)] 0, .pbox [.list (.ints a4)] 0]), (4, .ptr 4 0), (6, .ptr 6 0), (11, .int .i64 v1), (12, .int .i64 (0 : Int))], [(4, .box [.int .i64 0, .sl 1100 0]), (6, .box [.int .i64 a0, .sl 1101 0]), (1100, .arr 3 0 0 (.ints [])), (1101, .arr 3 0 0 (.ints []))]⟩) rfl ⟨(fun _ => (w_impl_CountCoalitions a0 v1 hk1)), trivial⟩ rfl ?_
  obtain ⟨v5, hk5, h⟩ := bind_some h
  refine Tri.loop (K1 := [.code [(2, 0), (1, 0), (0, 0)] 0]) (K2 := [.blk 0, .code [] 3]) (fun (v2, v3) => ⟨[(1, .func 73 [] [.pbox [.int .i64 a1] 0, .pbox [.int .i64 a2, .list (.ints a3)] 0, .pbox [.list (.ints a4)] 0]), (4, .ptr 4 0), (6, .ptr 6 0), (11, .int .i64 v1), (12, .int .i64 v2)], [(4, .box [.int .i64 0, .sl 1100 0]), (6, .box [.int .i64 a0, .sl 1101 0]), (1100, .arr 3 0 0 (.ints [])), (1101, .arr 3 0 0 (.ints v3))]⟩) (fun x e σ' => match x with | v5 => e = .exit 0 ∧ σ' = ⟨[(4, .ptr 4 0), (6, .ptr 6 0)], [(4, .box [.int .i64 0, .sl 1100 0]), (6, .box [.int .i64 a0, .sl 1101 0]), (1100, .arr 3 0 0 (.ints [])), (1101, .arr 3 0 0 (.ints v5))]⟩) hk5 rfl rfl ?_ ?_
  · intro s x hs
    clear h
    have h := hs
    clear hs
    obtain ⟨v2, v3⟩ := s
    refine Tri.run 1 [] [.keep [1, 4, 6, 11, 12, 13] [4, 6, 1100, 1101]] (K' := [.code [(2, 0), (1, 0), (0, 0), (1, 0)] 0, .code [(2, 0), (1, 0), (0, 0)] 2]) (σ' := ⟨[(1, .func 73 [] [.pbox [.int .i64 a1] 0, .pbox [.int .i64 a2, .list (.ints a3)] 0, .pbox [.list (.ints a4)] 0]), (4, .ptr 4 0), (6, .ptr 6 0), (11, .int .i64 v1), (12, .int .i64 v2), (13, .bool (decide (v2 < v1)))], [(4, .box [.int .i64 0, .sl 1100 0]), (6, .box [.int .i64 a0, .sl 1101 0]), (1100, .arr 3 0 0 (.ints [])), (1101, .arr 3 0 0 (.ints v3))]⟩) rfl trivial rfl ?_
    rcases bif_some h with ⟨hd2, h⟩ | ⟨hd2, h⟩
    · refine Tri.run 2 [.g true] [.keep [1, 4, 6, 7, 11, 12] [4, 6, 1100, 1101]] (K' := [.code [(2, 0), (1, 0), (0, 0), (2, 0), (0, 0)] 1, .blk 1, .code [(2, 0), (1, 0), (0, 0)] 3]) (σ' := ⟨[(1, .func 73 [] [.pbox [.int .i64 a1] 0, .pbox [.int .i64 a2, .list (.ints a3)] 0, .pbox [.list (.ints a4)] 0]), (4, .ptr 4 0), (6, .ptr 6 0), (7, .int .i64 v2), (11, .int .i64 v1), (12, .int .i64 v2)], [(4, .box [.int .i64 0, .sl 1100 0]), (6, .box [.int .i64 a0, .sl 1101 0]), (1100, .arr 3 0 0 (.ints [])), (1101, .arr 3 0 0 (.ints v3))]⟩) rfl ⟨hd2, trivial⟩ rfl ?_
      obtain ⟨v4, hk3, h⟩ := bind_some h
      obtain ⟨hg4, h⟩ := grd_some h
      refine Tri.run 2 [.r ⟨[], .int .i64 v4, []⟩] [.rever 1101, .keep [1, 4, 6, 11, 12] [4, 6, 1100, 1101]] (K' := []) (σ' := ⟨[(1, .func 73 [] [.pbox [.int .i64 a1] 0, .pbox [.int .i64 a2, .list (.ints a3)] 0, .pbox [.list (.ints a4)] 0]), (4, .ptr 4 0), (6, .ptr 6 0), (11, .int .i64 v1), (12, .int .i64 (IntKind.i64.wrap (v2 + (1 : Int))))], [(4, .box [.int .i64 0, .sl 1100 0]), (6, .box [.int .i64 a0, .sl 1101 0]), (1100, .arr 3 0 0 (.ints [])), (1101, .arr 3 0 0 (.ints (v3 ++ [v4])))]⟩) rfl ⟨hg4, (fun _ => (w_impl_ScaleGame_2 v2 a1 a2 a3 a4 v4 hk3)), trivial⟩ rfl ?_
      have h := Option.some.inj h
      subst h
      exact Tri.nil ⟨rfl, rfl⟩
    · refine Tri.run 1 [.g false] [.keep [4, 6] [4, 6, 1100, 1101]] (K' := [.code [(2, 0), (1, 0), (0, 0), (1, 0), (0, 1)] 0, .code [(2, 0), (1, 0), (0, 0)] 2]) (σ' := ⟨[(4, .ptr 4 0), (6, .ptr 6 0)], [(4, .box [.int .i64 0, .sl 1100 0]), (6, .box [.int .i64 a0, .sl 1101 0]), (1100, .arr 3 0 0 (.ints [])), (1101, .arr 3 0 0 (.ints v3))]⟩) rfl ⟨hd2, trivial⟩ rfl ?_
      have h := Option.some.inj h
      subst h
      exact Tri.out 0 rfl ⟨nofun, rfl, rfl⟩
  · intro e σ' hne hq
    obtain ⟨rfl, rfl⟩ := hq
    refine TriX.exit (K' := [.code [] 3]) rfl ?_
    obtain ⟨v6, hk6, h⟩ := bind_some h
    refine Tri.run 1 [.r ⟨[], .bool v6, []⟩] [.keep [4, 6, 26] [4, 6, 1100, 1101]] (K' := [.code [(3, 0)] 1, .code [] 4]) (σ' := ⟨[(4, .ptr 4 0), (6, .ptr 6 0), (26, .bool (!v6))], [(4, .box [.int .i64 0, .sl 1100 0]), (6, .box [.int .i64 a0, .sl 1101 0]), (1100, .arr 3 0 0 (.ints [])), (1101, .arr 3 0 0 (.ints v5))]⟩) rfl ⟨(fun _ => (w_impl_IsValidGame a0 v5 v6 hk6)), trivial⟩ rfl ?_
    rcases bif_some h with ⟨hd7, h⟩ | ⟨hd7, h⟩
    · refine Tri.run 2 [.g true] [.ownc 4 1 1102 3, .swap 1102 1000, .keep [4, 5] [4, 1000]] (K' := [.code [(3, 0), (1, 0)] 1, .code [] 4]) (σ' := ⟨[(4, .ptr 4 0), (5, .bool false)], [(4, .box [.int .i64 0, .sl 1000 0]), (1000, .arr 3 0 0 (.ints []))]⟩) rfl ⟨hd7, trivial⟩ rfl ?_
      have h := Option.some.inj h
      subst h
      exact Tri.ret rfl ⟨.inl rfl, rfl, rfl⟩
    · refine Tri.run 2 [.g false] [.swap 1101 1000, .keep [4, 5] [4, 1000]] (K' := [.code [] 5]) (σ' := ⟨[(4, .ptr 4 0), (5, .bool true)], [(4, .box [.int .i64 a0, .sl 1000 0]), (1000, .arr 3 0 0 (.ints v5))]⟩) rfl ⟨hd7, trivial⟩ rfl ?_
      have h := Option.some.inj h
      subst h
      exact Tri.ret rfl ⟨.inl rfl, rfl, rfl⟩
/-! impl.ScaleGame -/
noncomputable def E27_impl_ScaleGame : Env := ⟨Try.prog, tys, (Try.f27.body).getD .skip, 36, tysOk, mixedOk⟩
abbrev q_impl_ScaleGame (r : Int × Bool × (List Int)) (σ' : ASt) : Prop := resAV E27_impl_ScaleGame.T σ' Try.f27.results.toList = some (.tuple [.agg [.int .i64 r.1, .sl 1000 0], .bool r.2.1]) ∧ keepO σ'.ob (namesO [(1000, .arr 3 0 0 (.ints r.2.2))]) = [(1000, .arr 3 0 0 (.ints r.2.2))]
noncomputable def m_impl_ScaleGame (a0 : Int) (a1 : List Int) (a2 : Int) (a3 : List Int) : Option (Int × Bool × (List Int)) :=
(m_impl_IsValidGame a0 a1).bind fun v1 =>
bif !v1 then
(some (0, false, []))
else
((m_impl_ScaleGame_1 a2).bind fun v2 =>
bif v2 then
(some (0, false, []))
else
(bif (a3.length : Int) != a0 then
(some (0, false, []))
else
((m_slices_ContainsFunc_int_int_impl_ScaleGame_1 a3).bind fun v3 =>
bif v3 then
(some (0, false, []))
else
((m_impl_made_impl_ScaleGame_2 a0 a2 a0 a1 a3).bind fun (v4, v5, v6) =>
some (v4, v5, v6)))))
theorem w_impl_ScaleGame (a0 : Int) (a1 : List Int) (a2 : Int) (a3 : List Int) (r : Int × Bool × (List Int)) (h : m_impl_ScaleGame a0 a1 a2 a3 = some r) : AM.Spec Try.prog 27 [.agg [.int .i64 a0, .list (.ints a1)], .int .i64 a2, .list (.ints a3)] [] (.tuple [.agg [.int .i64 r.1, .sl 1000 0], .bool r.2.1]) [(1000, .arr 3 0 0 (.ints r.2.2))] := by
  refine spec_of (E := E27_impl_ScaleGame) Try.func27 rfl rfl rfl rfl ?_
  refine Tri.run 2 [] [.keep [3, 4, 5, 6, 8] [3, 4, 5, 6], .ownc 6 1 1100 3, .keep [3, 4, 5, 6, 8] [3, 4, 5, 6, 1100]] (K' := [.code [(2, 0), (0, 0)] 0, .code [(2, 0)] 1, .code [] 3]) (σ' := ⟨[(3, .ptr 3 0), (4, .ptr 4 0), (5, .ptr 5 0), (6, .ptr 6 0), (8, .func 71 [] [])], [(3, .box [.int .i64 a0, .list (.ints a1)]), (4, .box [.int .i64 a2]), (5, .box [.list (.ints a3)]), (6, .box [.int .i64 0, .sl 1100 0]), (1100, .arr 3 0 0 (.ints []))]⟩) rfl trivial rfl ?_
  obtain ⟨v1, hk1, h⟩ := bind_some h
  rcases bif_some h with ⟨hd2, h⟩ | ⟨hd2, h⟩
  · refine Tri.run 1 [.r ⟨[], .bool v1, []⟩, .g true, .g true, .g true] [.keep [3, 4, 5, 6, 28] [3, 4, 5, 6, 1100]] (K' := [.code [(2, 0)] 1, .code [] 3]) (σ' := ⟨[(3, .ptr 3 0), (4, .ptr 4 0), (5, .ptr 5 0), (6, .ptr 6 0), (28, .bool true)], [(3, .box [.int .i64 a0, .list (.ints a1)]), (4, .box [.int .i64 a2]), (5, .box [.list (.ints a3)]), (6, .box [.int .i64 0, .sl 1100 0]), (1100, .arr 3 0 0 (.ints []))]⟩) rfl ⟨rfl, rfl, hd2, (fun _ => (w_impl_IsValidGame a0 a1 v1 hk1)), trivial⟩ rfl ?_
    refine Tri.run 2 [.g true] [.ownc 6 1 1101 3, .swap 1101 1000, .keep [6, 7] [6, 1000]] (K' := [.code [(2, 0), (1, 0)] 1, .code [] 3]) (σ' := ⟨[(6, .ptr 6 0), (7, .bool false)], [(6, .box [.int .i64 0, .sl 1000 0]), (1000, .arr 3 0 0 (.ints []))]⟩) rfl ⟨rfl, trivial⟩ rfl ?_
    have h := Option.some.inj h
    subst h
    exact Tri.ret rfl ⟨.inl rfl, rfl, rfl⟩
  · obtain ⟨v2, hk3, h⟩ := bind_some h
    rcases bif_some h with ⟨hd4, h⟩ | ⟨hd4, h⟩
    · refine Tri.run 1 [.r ⟨[], .bool v1, []⟩, .g false, .r ⟨[], .bool v2, []⟩, .g true, .g true] [.keep [3, 4, 5, 6, 28] [3, 4, 5, 6, 1100]] (K' := [.code [(2, 0)] 1, .code [] 3]) (σ' := ⟨[(3, .ptr 3 0), (4, .ptr 4 0), (5, .ptr 5 0), (6, .ptr 6 0), (28, .bool true)], [(3, .box [.int .i64 a0, .list (.ints a1)]), (4, .box [.int .i64 a2]), (5, .box [.list (.ints a3)]), (6, .box [.int .i64 0, .sl 1100 0]), (1100, .arr 3 0 0 (.ints []))]⟩) rfl ⟨rfl, hd4, (fun _ => (w_impl_ScaleGame_1 a2 v2 hk3)), hd2, (fun _ => (w_impl_IsValidGame a0 a1 v1 hk1)), trivial⟩ rfl ?_
      refine Tri.run 2 [.g true] [.ownc 6 1 1102 3, .swap 1102 1000, .keep [6, 7] [6, 1000]] (K' := [.code [(2, 0), (1, 0)] 1, .code [] 3]) (σ' := ⟨[(6, .ptr 6 0), (7, .bool false)], [(6, .box [.int .i64 0, .sl 1000 0]), (1000, .arr 3 0 0 (.ints []))]⟩) rfl ⟨rfl, trivial⟩ rfl ?_
      have h := Option.some.inj h
      subst h
      exact Tri.ret rfl ⟨.inl rfl, rfl, rfl⟩
    · rcases bif_some h with ⟨hd5, h⟩ | ⟨hd5, h⟩
      · refine Tri.run 1 [.r ⟨[], .bool v1, []⟩, .g false, .r ⟨[], .bool v2, []⟩, .g false, .g true] [.keep [3, 4, 5, 6, 28] [3, 4, 5, 6, 1100]] (K' := [.code [(2, 0)] 1, .code [] 3]) (σ' := ⟨[(3, .ptr 3 0), (4, .ptr 4 0), (5, .ptr 5 0), (6, .ptr 6 0), (28, .bool true)], [(3, .box [.int .i64 a0, .list (.ints a1)]), (4, .box [.int .i64 a2]), (5, .box [.list (.ints a3)]), (6, .box [.int .i64 0, .sl 1100 0]), (1100, .arr 3 0 0 (.ints []))]⟩) rfl ⟨hd5, hd4, (fun _ => (w_impl_ScaleGame_1 a2 v2 hk3)), hd2, (fun _ => (w_impl_IsValidGame a0 a1 v1 hk1)), trivial⟩ rfl ?_
        refine Tri.run 2 [.g true] [.ownc 6 1 1103 3, .swap 1103 1000, .keep [6, 7] [6, 1000]] (K' := [.code [(2, 0), (1, 0)] 1, .code [] 3]) (σ' := ⟨[(6, .ptr 6 0), (7, .bool false)], [(6, .box [.int .i64 0, .sl 1000 0]), (1000, .arr 3 0 0 (.ints []))]⟩) rfl ⟨rfl, trivial⟩ rfl ?_
        have h := Option.some.inj h
        subst h
        exact Tri.ret rfl ⟨.inl rfl, rfl, rfl⟩
      · obtain ⟨v3, hk6, h⟩ := bind_some h
        refine Tri.run 1 [.r ⟨[], .bool v1, []⟩, .g false, .r ⟨[], .bool v2, []⟩, .g false, .g false, .r ⟨[], .bool v3, []⟩] [.keep [3, 4, 5, 6, 28] [3, 4, 5, 6, 1100]] (K' := [.code [(2, 0)] 1, .code [] 3]) (σ' := ⟨[(3, .ptr 3 0), (4, .ptr 4 0), (5, .ptr 5 0), (6, .ptr 6 0), (28, .bool v3)], [(3, .box [.int .i64 a0, .list (.ints a1)]), (4, .box [.int .i64 a2]), (5, .box [.list (.ints a3)]), (6, .box [.int .i64 0, .sl 1100 0]), (1100, .arr 3 0 0 (.ints []))]⟩) rfl ⟨(fun _ => (w_slices_ContainsFunc_int_int_impl_ScaleGame_1 a3 v3 hk6)), hd5, hd4, (fun _ => (w_impl_ScaleGame_1 a2 v2 hk3)), hd2, (fun _ => (w_impl_IsValidGame a0 a1 v1 hk1)), trivial⟩ rfl ?_
        rcases bif_some h with ⟨hd7, h⟩ | ⟨hd7, h⟩
        · refine Tri.run 2 [.g true] [.ownc 6 1 1104 3, .swap 1104 1000, .keep [6, 7] [6, 1000]] (K' := [.code [(2, 0), (1, 0)] 1, .code [] 3]) (σ' := ⟨[(6, .ptr 6 0), (7, .bool false)], [(6, .box [.int .i64 0, .sl 1000 0]), (1000, .arr 3 0 0 (.ints []))]⟩) rfl ⟨hd7, trivial⟩ rfl ?_
          have h := Option.some.inj h
          subst h
          exact Tri.ret rfl ⟨.inl rfl, rfl, rfl⟩
        · obtain ⟨⟨v4, v5, v6⟩, hk8, h⟩ := bind_some h
          refine Tri.run 2 [.g false, .r ⟨[], .tuple [.agg [.int .i64 v4, .sl 1105 0], .bool v5], [(1105, .arr 3 0 0 (.ints v6))]⟩] [.swap 1105 1000, .keep [6, 7] [6, 1000]] (K' := [.code [] 4]) (σ' := ⟨[(6, .ptr 6 0), (7, .bool v5)], [(6, .box [.int .i64 v4, .sl 1000 0]), (1000, .arr 3 0 0 (.ints v6))]⟩) rfl ⟨(fun _ => ((w_impl_made_impl_ScaleGame_2 a0 a2 a0 a1 a3 (v4, v5, v6) hk8).swap 1000 1105)), hd7, trivial⟩ rfl ?_
          have h := Option.some.inj h
          subst h
          exact Tri.ret rfl ⟨.inl rfl, rfl, rfl⟩
/-! spec.ScaleGame -/
noncomputable def E28_spec_ScaleGame : Env := ⟨Try.prog, tys, (Try.f28.body).getD .skip, 76, tysOk, mixedOk⟩
abbrev q_spec_ScaleGame (r : Int × Bool × (List Int)) (σ' : ASt) : Prop := resAV E28_spec_ScaleGame.T σ' Try.f28.results.toList = some (.tuple [.agg [.int .i64 r.1, .sl 1000 0], .bool r.2.1]) ∧ keepO σ'.ob (namesO [(1000, .arr 3 0 0 (.ints r.2.2))]) = [(1000, .arr 3 0 0 (.ints r.2.2))]
noncomputable def l_spec_ScaleGame_1 (a3 : List Int) (v5 : Int) : (Int × Int) → Option ((Int × Int) ⊕ (Int ⊕ ((Int × Bool × (List Int)))))
  | (v7, v8) => (
bif decide (v8 < (a3.length : Int)) then
(grd ((0 : Int) ≤ v8 ∧ v8 < (a3.length : Int)) <|
(m_spec_l1In (a3.getD v8.toNat 0) (-500 : Int) (500 : Int)).bind fun v9 =>
bif !v9 then
(some (.inr (.inr (0, false, []))))
else
((m_spec_HasPlayer v5 v8).bind fun v10 =>
bif v10 then
(grd ((0 : Int) ≤ v8 ∧ v8 < (a3.length : Int)) <|
some (.inl (IntKind.i64.wrap (v7 + (a3.getD v8.toNat 0)), IntKind.i64.wrap (v8 + (1 : Int)))))
else
(some (.inl (v7, IntKind.i64.wrap (v8 + (1 : Int)))))))
else
(some (.inr (.inl v7))))
noncomputable def l_spec_ScaleGame_0 (a1 : List Int) (a2 : Int) (a3 : List Int) : (Int × (List Int)) → Option ((Int × (List Int)) ⊕ ((List Int) ⊕ ((Int × Bool × (List Int)))))
  | (v5, v6) => (
bif decide (v5 < (v6.length : Int)) then
(grd ((0 : Int) ≤ v5 ∧ v5 < (a1.length : Int)) <|
(iter (l_spec_ScaleGame_1 a3 v5) (IntKind.i64.wrap (a2 * (a1.getD v5.toNat 0)), (0 : Int))).bind fun
| (.inl v11) => (
grd ((0 : Int) ≤ v5 ∧ v5 < (v6.length : Int)) <|
some (.inl (IntKind.i64.wrap (v5 + (1 : Int)), v6.set v5.toNat v11)))
| (.inr r) => some (.inr (.inr r)))
else
(some (.inr (.inl v6))))
noncomputable def m_spec_ScaleGame (a0 : Int) (a1 : List Int) (a2 : Int) (a3 : List Int) : Option (Int × Bool × (List Int)) :=
(m_spec_IsValidGame a0 a1).bind fun v1 =>
bif !v1 then
(some (0, false, []))
else
(bif (a3.length : Int) != a0 then
(some (0, false, []))
else
((m_spec_l1In a2 (-500 : Int) (500 : Int)).bind fun v2 =>
bif !v2 then
(some (0, false, []))
else
((m_spec_l8Copy a0 a1).bind fun (v3, v4) =>
(iter (l_spec_ScaleGame_0 a1 a2 a3) ((0 : Int), v4)).bind fun
| (.inl v12) => (
(m_spec_IsValidGame v3 v12).bind fun v13 =>
bif !v13 then
(some (0, false, []))
else
(some (v3, true, v12)))
| (.inr r) => some r)))
theorem w_spec_ScaleGame (a0 : Int) (a1 : List Int) (a2 : Int) (a3 : List Int) (r : Int × Bool × (List Int)) (h : m_spec_ScaleGame a0 a1 a2 a3 = some r) : AM.Spec Try.prog 28 [.agg [.int .i64 a0, .list (.ints a1)], .int .i64 a2, .list (.ints a3)] [] (.tuple [.agg [.int .i64 r.1, .sl 1000 0], .bool r.2.1]) [(1000, .arr 3 0 0 (.ints r.2.2))] := by
  refine spec_of (E := E28_spec_ScaleGame) Try.func28 rfl rfl rfl rfl ?_
  refine Tri.run 1 [] [.keep [1, 2, 3, 6] [3, 6], .ownc 6 1 1100 3, .keep [1, 2, 3, 6] [3, 6, 1100]] (K' := [.code [(1, 0), (0, 0)] 0, .code [(1, 0)] 1, .code [] 2]) (σ' := ⟨[(1, .int .i64 a2), (2, .list (.ints a3)), (3, .ptr 3 0), (6, .ptr 6 0)], [(3, .box [.int .i64 a0, .list (.ints a1)]), (6, .box [.int .i64 0, .sl 1100 0]), (1100, .arr 3 0 0 (.ints []))]⟩) rfl trivial rfl ?_
  obtain ⟨v1, hk1, h⟩ := bind_some h
  rcases bif_some h with ⟨hd2, h⟩ | ⟨hd2, h⟩
  · refine Tri.run 1 [.r ⟨[], .bool v1, []⟩, .g true, .g true] [.keep [1, 2, 3, 6, 26] [3, 6, 1100]] (K' := [.code [(1, 0)] 1, .code [] 2]) (σ' := ⟨[(1, .int .i64 a2), (2, .list (.ints a3)), (3, .ptr 3 0), (6, .ptr 6 0), (26, .bool true)], [(3, .box [.int .i64 a0, .list (.ints a1)]), (6, .box [.int .i64 0, .sl 1100 0]), (1100, .arr 3 0 0 (.ints []))]⟩) rfl ⟨rfl, hd2, (fun _ => (w_spec_IsValidGame a0 a1 v1 hk1)), trivial⟩ rfl ?_
    refine Tri.run 2 [.g true] [.ownc 6 1 1101 3, .swap 1101 1000, .keep [6, 7] [6, 1000]] (K' := [.code [(1, 0), (1, 0)] 1, .code [] 2]) (σ' := ⟨[(6, .ptr 6 0), (7, .bool false)], [(6, .box [.int .i64 0, .sl 1000 0]), (1000, .arr 3 0 0 (.ints []))]⟩) rfl ⟨rfl, trivial⟩ rfl ?_
    have h := Option.some.inj h
    subst h
    exact Tri.ret rfl ⟨.inl rfl, rfl, rfl⟩
  · rcases bif_some h with ⟨hd3, h⟩ | ⟨hd3, h⟩
    · refine Tri.run 1 [.r ⟨[], .bool v1, []⟩, .g false, .g true] [.keep [1, 2, 3, 6, 26] [3, 6, 1100]] (K' := [.code [(1, 0)] 1, .code [] 2]) (σ' := ⟨[(1, .int .i64 a2), (2, .list (.ints a3)), (3, .ptr 3 0), (6, .ptr 6 0), (26, .bool true)], [(3, .box [.int .i64 a0, .list (.ints a1)]), (6, .box [.int .i64 0, .sl 1100 0]), (1100, .arr 3 0 0 (.ints []))]⟩) rfl ⟨hd3, hd2, (fun _ => (w_spec_IsValidGame a0 a1 v1 hk1)), trivial⟩ rfl ?_
      refine Tri.run 2 [.g true] [.ownc 6 1 1102 3, .swap 1102 1000, .keep [6, 7] [6, 1000]] (K' := [.code [(1, 0), (1, 0)] 1, .code [] 2]) (σ' := ⟨[(6, .ptr 6 0), (7, .bool false)], [(6, .box [.int .i64 0, .sl 1000 0]), (1000, .arr 3 0 0 (.ints []))]⟩) rfl ⟨rfl, trivial⟩ rfl ?_
      have h := Option.some.inj h
      subst h
      exact Tri.ret rfl ⟨.inl rfl, rfl, rfl⟩
    · obtain ⟨v2, hk4, h⟩ := bind_some h
      refine Tri.run 1 [.r ⟨[], .bool v1, []⟩, .g false, .g false, .r ⟨[], .bool v2, []⟩] [.keep [1, 2, 3, 6, 26] [3, 6, 1100]] (K' := [.code [(1, 0)] 1, .code [] 2]) (σ' := ⟨[(1, .int .i64 a2), (2, .list (.ints a3)), (3, .ptr 3 0), (6, .ptr 6 0), (26, .bool (!v2))], [(3, .box [.int .i64 a0, .list (.ints a1)]), (6, .box [.int .i64 0, .sl 1100 0]), (1100, .arr 3 0 0 (.ints []))]⟩) rfl ⟨(fun _ => (w_spec_l1In a2 (-500 : Int) (500 : Int) v2 hk4)), hd3, hd2, (fun _ => (w_spec_IsValidGame a0 a1 v1 hk1)), trivial⟩ rfl ?_
      rcases bif_some h with ⟨hd5, h⟩ | ⟨hd5, h⟩
      · refine Tri.run 2 [.g true] [.ownc 6 1 1103 3, .swap 1103 1000, .keep [6, 7] [6, 1000]] (K' := [.code [(1, 0), (1, 0)] 1, .code [] 2]) (σ' := ⟨[(6, .ptr 6 0), (7, .bool false)], [(6, .box [.int .i64 0, .sl 1000 0]), (1000, .arr 3 0 0 (.ints []))]⟩) rfl ⟨hd5, trivial⟩ rfl ?_
        have h := Option.some.inj h
        subst h
        exact Tri.ret rfl ⟨.inl rfl, rfl, rfl⟩
      · obtain ⟨⟨v3, v4⟩, hk6, h⟩ := bind_some h
        refine Tri.run 3 [.g false, .r ⟨[], .agg [.int .i64 v3, .sl 1104 0], [(1104, .arr 3 0 0 (.ints v4))]⟩] [.keep [1, 2, 3, 6, 8, 9] [3, 6, 8, 1100, 1104]] (K' := [.code [(3, 0), (1, 0)] 0, .blk 0, .code [] 4]) (σ' := ⟨[(1, .int .i64 a2), (2, .list (.ints a3)), (3, .ptr 3 0), (6, .ptr 6 0), (8, .ptr 8 0), (9, .int .i64 (0 : Int))], [(3, .box [.int .i64 a0, .list (.ints a1)]), (6, .box [.int .i64 0, .sl 1100 0]), (8, .box [.int .i64 v3, .sl 1104 0]), (1100, .arr 3 0 0 (.ints [])), (1104, .arr 3 0 0 (.ints v4))]⟩) rfl ⟨(fun _ => ((w_spec_l8Copy a0 a1 (v3, v4) hk6).swap 1000 1104)), hd5, trivial⟩ rfl ?_
        obtain ⟨x2, hk18, h⟩ := bind_some h
        refine Tri.loop (K1 := [.code [(3, 0), (1, 0), (0, 0)] 0]) (K2 := [.blk 0, .code [] 4]) (fun (v5, v6) => ⟨[(1, .int .i64 a2), (2, .list (.ints a3)), (3, .ptr 3 0), (6, .ptr 6 0), (8, .ptr 8 0), (9, .int .i64 v5)], [(3, .box [.int .i64 a0, .list (.ints a1)]), (6, .box [.int .i64 0, .sl 1100 0]), (8, .box [.int .i64 v3, .sl 1104 0]), (1100, .arr 3 0 0 (.ints [])), (1104, .arr 3 0 0 (.ints v6))]⟩) (fun x e σ' => match x with | (.inl v12) => e = .exit 0 ∧ σ' = ⟨[(6, .ptr 6 0), (8, .ptr 8 0)], [(6, .box [.int .i64 0, .sl 1100 0]), (8, .box [.int .i64 v3, .sl 1104 0]), (1100, .arr 3 0 0 (.ints [])), (1104, .arr 3 0 0 (.ints v12))]⟩ | (.inr r) => e = .ret ∧ q_spec_ScaleGame r σ') hk18 rfl rfl ?_ ?_
        · intro s x hs
          clear h
          have h := hs
          clear hs
          obtain ⟨v5, v6⟩ := s
          refine Tri.run 1 [] [.keep [1, 2, 3, 6, 8, 9, 34] [3, 6, 8, 1100, 1104]] (K' := [.code [(3, 0), (1, 0), (0, 0), (0, 0)] 1, .code [(3, 0), (1, 0), (0, 0)] 1]) (σ' := ⟨[(1, .int .i64 a2), (2, .list (.ints a3)), (3, .ptr 3 0), (6, .ptr 6 0), (8, .ptr 8 0), (9, .int .i64 v5), (34, .bool (decide (v5 < (v6.length : Int))))], [(3, .box [.int .i64 a0, .list (.ints a1)]), (6, .box [.int .i64 0, .sl 1100 0]), (8, .box [.int .i64 v3, .sl 1104 0]), (1100, .arr 3 0 0 (.ints [])), (1104, .arr 3 0 0 (.ints v6))]⟩) rfl trivial rfl ?_
          rcases bif_some h with ⟨hd7, h⟩ | ⟨hd7, h⟩
          · obtain ⟨hg8, h⟩ := grd_some h
            refine Tri.run 3 [.g true] [.keep [1, 2, 3, 6, 8, 9, 10, 11] [3, 6, 8, 1100, 1104]] (K' := [.code [(3, 0), (1, 0), (0, 0), (1, 0), (0, 0), (1, 0), (1, 0)] 0, .blk 2, .code [(3, 0), (1, 0), (0, 0), (1, 0), (0, 0)] 2, .blk 1, .code [(3, 0), (1, 0), (0, 0)] 2]) (σ' := ⟨[(1, .int .i64 a2), (2, .list (.ints a3)), (3, .ptr 3 0), (6, .ptr 6 0), (8, .ptr 8 0), (9, .int .i64 v5), (10, .int .i64 (IntKind.i64.wrap (a2 * (a1.getD v5.toNat 0)))), (11, .int .i64 (0 : Int))], [(3, .box [.int .i64 a0, .list (.ints a1)]), (6, .box [.int .i64 0, .sl 1100 0]), (8, .box [.int .i64 v3, .sl 1104 0]), (1100, .arr 3 0 0 (.ints [])), (1104, .arr 3 0 0 (.ints v6))]⟩) rfl ⟨hg8, hd7, trivial⟩ rfl ?_
            obtain ⟨x2, hk16, h⟩ := bind_some h
            refine Tri.loop (K1 := [.code [(3, 0), (1, 0), (0, 0), (1, 0), (0, 0), (1, 0), (1, 0), (0, 0)] 0]) (K2 := [.blk 2, .code [(3, 0), (1, 0), (0, 0), (1, 0), (0, 0)] 2, .blk 1, .code [(3, 0), (1, 0), (0, 0)] 2]) (fun (v7, v8) => ⟨[(1, .int .i64 a2), (2, .list (.ints a3)), (3, .ptr 3 0), (6, .ptr 6 0), (8, .ptr 8 0), (9, .int .i64 v5), (10, .int .i64 v7), (11, .int .i64 v8)], [(3, .box [.int .i64 a0, .list (.ints a1)]), (6, .box [.int .i64 0, .sl 1100 0]), (8, .box [.int .i64 v3, .sl 1104 0]), (1100, .arr 3 0 0 (.ints [])), (1104, .arr 3 0 0 (.ints v6))]⟩) (fun x e σ' => match x with | (.inl v11) => e = .exit 2 ∧ σ' = ⟨[(1, .int .i64 a2), (2, .list (.ints a3)), (3, .ptr 3 0), (6, .ptr 6 0), (8, .ptr 8 0), (9, .int .i64 v5), (10, .int .i64 v11)], [(3, .box [.int .i64 a0, .list (.ints a1)]), (6, .box [.int .i64 0, .sl 1100 0]), (8, .box [.int .i64 v3, .sl 1104 0]), (1100, .arr 3 0 0 (.ints [])), (1104, .arr 3 0 0 (.ints v6))]⟩ | (.inr r) => e = .ret ∧ q_spec_ScaleGame r σ') hk16 rfl rfl ?_ ?_
            · intro s x hs
              clear h
              have h := hs
              clear hs
              obtain ⟨v7, v8⟩ := s
              refine Tri.run 1 [] [.keep [1, 2, 3, 6, 8, 9, 10, 11, 47] [3, 6, 8, 1100, 1104]] (K' := [.code [(3, 0), (1, 0), (0, 0), (1, 0), (0, 0), (1, 0), (1, 0), (0, 0), (0, 0)] 1, .code [(3, 0), (1, 0), (0, 0), (1, 0), (0, 0), (1, 0), (1, 0), (0, 0)] 1]) (σ' := ⟨[(1, .int .i64 a2), (2, .list (.ints a3)), (3, .ptr 3 0), (6, .ptr 6 0), (8, .ptr 8 0), (9, .int .i64 v5), (10, .int .i64 v7), (11, .int .i64 v8), (47, .bool (decide (v8 < (a3.length : Int))))], [(3, .box [.int .i64 a0, .list (.ints a1)]), (6, .box [.int .i64 0, .sl 1100 0]), (8, .box [.int .i64 v3, .sl 1104 0]), (1100, .arr 3 0 0 (.ints [])), (1104, .arr 3 0 0 (.ints v6))]⟩) rfl trivial rfl ?_
              rcases bif_some h with ⟨hd9, h⟩ | ⟨hd9, h⟩
              · obtain ⟨hg10, h⟩ := grd_some h
                obtain ⟨v9, hk11, h⟩ := bind_some h
                refine Tri.run 2 [.g true, .r ⟨[], .bool v9, []⟩] [.keep [1, 2, 3, 6, 8, 9, 10, 11, 55] [3, 6, 8, 1100, 1104]] (K' := [.code [(3, 0), (1, 0), (0, 0), (1, 0), (0, 0), (1, 0), (1, 0), (0, 0), (1, 0), (0, 0), (0, 0)] 1, .code [(3, 0), (1, 0), (0, 0), (1, 0), (0, 0), (1, 0), (1, 0), (0, 0), (1, 0), (0, 0)] 1, .blk 3, .code [(3, 0), (1, 0), (0, 0), (1, 0), (0, 0), (1, 0), (1, 0), (0, 0)] 2]) (σ' := ⟨[(1, .int .i64 a2), (2, .list (.ints a3)), (3, .ptr 3 0), (6, .ptr 6 0), (8, .ptr 8 0), (9, .int .i64 v5), (10, .int .i64 v7), (11, .int .i64 v8), (55, .bool (!v9))], [(3, .box [.int .i64 a0, .list (.ints a1)]), (6, .box [.int .i64 0, .sl 1100 0]), (8, .box [.int .i64 v3, .sl 1104 0]), (1100, .arr 3 0 0 (.ints [])), (1104, .arr 3 0 0 (.ints v6))]⟩) rfl ⟨(fun _ => (w_spec_l1In (a3.getD v8.toNat 0) (-500 : Int) (500 : Int) v9 hk11)), hg10, hd9, trivial⟩ rfl ?_
                rcases bif_some h with ⟨hd12, h⟩ | ⟨hd12, h⟩
                · refine Tri.run 2 [.g true] [.ownc 6 1 1105 3, .swap 1105 1000, .keep [6, 7] [6, 1000]] (K' := [.code [(3, 0), (1, 0), (0, 0), (1, 0), (0, 0), (1, 0), (1, 0), (0, 0), (1, 0), (0, 0), (0, 0), (1, 0)] 1, .code [(3, 0), (1, 0), (0, 0), (1, 0), (0, 0), (1, 0), (1, 0), (0, 0), (1, 0), (0, 0)] 1, .blk 3, .code [(3, 0), (1, 0), (0, 0), (1, 0), (0, 0), (1, 0), (1, 0), (0, 0)] 2]) (σ' := ⟨[(6, .ptr 6 0), (7, .bool false)], [(6, .box [.int .i64 0, .sl 1000 0]), (1000, .arr 3 0 0 (.ints []))]⟩) rfl ⟨hd12, trivial⟩ rfl ?_
                  have h := Option.some.inj h
                  subst h
                  exact Tri.ret rfl ⟨nofun, rfl, rfl, rfl⟩
                · obtain ⟨v10, hk13, h⟩ := bind_some h
                  refine Tri.run 2 [.g false, .r ⟨[], .bool v10, []⟩] [.keep [1, 2, 3, 6, 8, 9, 10, 11, 59] [3, 6, 8, 1100, 1104]] (K' := [.code [(3, 0), (1, 0), (0, 0), (1, 0), (0, 0), (1, 0), (1, 0), (0, 0), (1, 0), (0, 0)] 2, .blk 3, .code [(3, 0), (1, 0), (0, 0), (1, 0), (0, 0), (1, 0), (1, 0), (0, 0)] 2]) (σ' := ⟨[(1, .int .i64 a2), (2, .list (.ints a3)), (3, .ptr 3 0), (6, .ptr 6 0), (8, .ptr 8 0), (9, .int .i64 v5), (10, .int .i64 v7), (11, .int .i64 v8), (59, .bool v10)], [(3, .box [.int .i64 a0, .list (.ints a1)]), (6, .box [.int .i64 0, .sl 1100 0]), (8, .box [.int .i64 v3, .sl 1104 0]), (1100, .arr 3 0 0 (.ints [])), (1104, .arr 3 0 0 (.ints v6))]⟩) rfl ⟨(fun _ => (w_spec_HasPlayer v5 v8 v10 hk13)), hd12, trivial⟩ rfl ?_
                  rcases bif_some h with ⟨hd14, h⟩ | ⟨hd14, h⟩
                  · obtain ⟨hg15, h⟩ := grd_some h
                    refine Tri.run 3 [.g true] [.keep [1, 2, 3, 6, 8, 9, 10, 11] [3, 6, 8, 1100, 1104]] (K' := []) (σ' := ⟨[(1, .int .i64 a2), (2, .list (.ints a3)), (3, .ptr 3 0), (6, .ptr 6 0), (8, .ptr 8 0), (9, .int .i64 v5), (10, .int .i64 (IntKind.i64.wrap (v7 + (a3.getD v8.toNat 0)))), (11, .int .i64 (IntKind.i64.wrap (v8 + (1 : Int))))], [(3, .box [.int .i64 a0, .list (.ints a1)]), (6, .box [.int .i64 0, .sl 1100 0]), (8, .box [.int .i64 v3, .sl 1104 0]), (1100, .arr 3 0 0 (.ints [])), (1104, .arr 3 0 0 (.ints v6))]⟩) rfl ⟨hg15, hd14, trivial⟩ rfl ?_
                    have h := Option.some.inj h
                    subst h
                    exact Tri.nil ⟨rfl, rfl⟩
                  · refine Tri.run 2 [.g false] [.keep [1, 2, 3, 6, 8, 9, 10, 11] [3, 6, 8, 1100, 1104]] (K' := []) (σ' := ⟨[(1, .int .i64 a2), (2, .list (.ints a3)), (3, .ptr 3 0), (6, .ptr 6 0), (8, .ptr 8 0), (9, .int .i64 v5), (10, .int .i64 v7), (11, .int .i64 (IntKind.i64.wrap (v8 + (1 : Int))))], [(3, .box [.int .i64 a0, .list (.ints a1)]), (6, .box [.int .i64 0, .sl 1100 0]), (8, .box [.int .i64 v3, .sl 1104 0]), (1100, .arr 3 0 0 (.ints [])), (1104, .arr 3 0 0 (.ints v6))]⟩) rfl ⟨hd14, trivial⟩ rfl ?_
                    have h := Option.some.inj h
                    subst h
                    exact Tri.nil ⟨rfl, rfl⟩
              · refine Tri.run 1 [.g false] [.keep [1, 2, 3, 6, 8, 9, 10] [3, 6, 8, 1100, 1104]] (K' := [.code [(3, 0), (1, 0), (0, 0), (1, 0), (0, 0), (1, 0), (1, 0), (0, 0), (0, 0), (1, 1)] 0, .code [(3, 0), (1, 0), (0, 0), (1, 0), (0, 0), (1, 0), (1, 0), (0, 0)] 1]) (σ' := ⟨[(1, .int .i64 a2), (2, .list (.ints a3)), (3, .ptr 3 0), (6, .ptr 6 0), (8, .ptr 8 0), (9, .int .i64 v5), (10, .int .i64 v7)], [(3, .box [.int .i64 a0, .list (.ints a1)]), (6, .box [.int .i64 0, .sl 1100 0]), (8, .box [.int .i64 v3, .sl 1104 0]), (1100, .arr 3 0 0 (.ints [])), (1104, .arr 3 0 0 (.ints v6))]⟩) rfl ⟨hd9, trivial⟩ rfl ?_
                have h := Option.some.inj h
                subst h
                exact Tri.out 2 rfl ⟨nofun, rfl, rfl⟩
            · intro e σ' hne hq
              rcases x2 with v11 | r
              · obtain ⟨rfl, rfl⟩ := hq
                refine TriX.exit (K' := [.code [(3, 0), (1, 0), (0, 0), (1, 0), (0, 0)] 2, .blk 1, .code [(3, 0), (1, 0), (0, 0)] 2]) rfl ?_
                obtain ⟨hg17, h⟩ := grd_some h
                refine Tri.run 2 [] [.keep [1, 2, 3, 6, 8, 9] [3, 6, 8, 1100, 1104]] (K' := []) (σ' := ⟨[(1, .int .i64 a2), (2, .list (.ints a3)), (3, .ptr 3 0), (6, .ptr 6 0), (8, .ptr 8 0), (9, .int .i64 (IntKind.i64.wrap (v5 + (1 : Int))))], [(3, .box [.int .i64 a0, .list (.ints a1)]), (6, .box [.int .i64 0, .sl 1100 0]), (8, .box [.int .i64 v3, .sl 1104 0]), (1100, .arr 3 0 0 (.ints [])), (1104, .arr 3 0 0 (.ints (v6.set v5.toNat v11)))]⟩) rfl ⟨hg17, trivial⟩ rfl ?_
                have h := Option.some.inj h
                subst h
                exact Tri.nil ⟨rfl, rfl⟩
              · obtain ⟨rfl, hq⟩ := hq
                have h := Option.some.inj h
                subst h
                exact TriX.ret ⟨nofun, rfl, hq⟩
          · refine Tri.run 1 [.g false] [.keep [6, 8] [6, 8, 1100, 1104]] (K' := [.code [(3, 0), (1, 0), (0, 0), (0, 0), (1, 1)] 0, .code [(3, 0), (1, 0), (0, 0)] 1]) (σ' := ⟨[(6, .ptr 6 0), (8, .ptr 8 0)], [(6, .box [.int .i64 0, .sl 1100 0]), (8, .box [.int .i64 v3, .sl 1104 0]), (1100, .arr 3 0 0 (.ints [])), (1104, .arr 3 0 0 (.ints v6))]⟩) rfl ⟨hd7, trivial⟩ rfl ?_
            have h := Option.some.inj h
            subst h
            exact Tri.out 0 rfl ⟨nofun, rfl, rfl⟩
        · intro e σ' hne hq
          rcases x2 with v12 | r
          · obtain ⟨rfl, rfl⟩ := hq
            refine TriX.exit (K' := [.code [] 4]) rfl ?_
            obtain ⟨v13, hk19, h⟩ := bind_some h
            refine Tri.run 1 [.r ⟨[], .bool v13, []⟩] [.keep [6, 8, 73] [6, 8, 1100, 1104]] (K' := [.code [(4, 0)] 1, .code [] 5]) (σ' := ⟨[(6, .ptr 6 0), (8, .ptr 8 0), (73, .bool (!v13))], [(6, .box [.int .i64 0, .sl 1100 0]), (8, .box [.int .i64 v3, .sl 1104 0]), (1100, .arr 3 0 0 (.ints [])), (1104, .arr 3 0 0 (.ints v12))]⟩) rfl ⟨(fun _ => (w_spec_IsValidGame v3 v12 v13 hk19)), trivial⟩ rfl ?_
            rcases bif_some h with ⟨hd20, h⟩ | ⟨hd20, h⟩
            · refine Tri.run 2 [.g true] [.ownc 6 1 1106 3, .swap 1106 1000, .keep [6, 7] [6, 1000]] (K' := [.code [(4, 0), (1, 0)] 1, .code [] 5]) (σ' := ⟨[(6, .ptr 6 0), (7, .bool false)], [(6, .box [.int .i64 0, .sl 1000 0]), (1000, .arr 3 0 0 (.ints []))]⟩) rfl ⟨hd20, trivial⟩ rfl ?_
              have h := Option.some.inj h
              subst h
              exact Tri.ret rfl ⟨.inl rfl, rfl, rfl⟩
            · refine Tri.run 2 [.g false] [.swap 1104 1000, .keep [6, 7] [6, 1000]] (K' := [.code [] 6]) (σ' := ⟨[(6, .ptr 6 0), (7, .bool true)], [(6, .box [.int .i64 v3, .sl 1000 0]), (1000, .arr 3 0 0 (.ints v12))]⟩) rfl ⟨hd20, trivial⟩ rfl ?_
              have h := Option.some.inj h
              subst h
              exact Tri.ret rfl ⟨.inl rfl, rfl, rfl⟩
          · obtain ⟨rfl, hq⟩ := hq
            have h := Option.some.inj h
            subst h
            exact TriX.ret ⟨.inl rfl, hq⟩
/-! slices.Equal(()int,int) -/
noncomputable def E75_slices_Equal_int_int : Env := ⟨Try.prog, tys, (Try.f75.body).getD .skip, 26, tysOk, mixedOk⟩
abbrev q_slices_Equal_int_int (r : Bool) (σ' : ASt) : Prop := resAV E75_slices_Equal_int_int.T σ' Try.f75.results.toList = some (.bool r) ∧ keepO σ'.ob (namesO []) = []
noncomputable def l_slices_Equal_int_int_0 (a0 : List Int) (a1 : List Int) (v1 : Int) : Option (Int ⊕ (Unit ⊕ Bool)) :=
bif decide (v1 < (a0.length : Int)) then
(grd ((0 : Int) ≤ v1 ∧ v1 < (a0.length : Int)) <|
grd ((0 : Int) ≤ v1 ∧ v1 < (a1.length : Int)) <|
bif (a0.getD v1.toNat 0) != (a1.getD v1.toNat 0) then
(some (.inr (.inr false)))
else
(some (.inl (IntKind.i64.wrap (v1 + (1 : Int))))))
else
(some (.inr (.inl ())))
noncomputable def m_slices_Equal_int_int (a0 : List Int) (a1 : List Int) : Option Bool :=
bif (a0.length : Int) != (a1.length : Int) then
(some false)
else
((iter (l_slices_Equal_int_int_0 a0 a1) (0 : Int)).bind fun
| (.inl _) => (
some true)
| (.inr r) => some r)
theorem w_slices_Equal_int_int (a0 : List Int) (a1 : List Int) (r : Bool) (h : m_slices_Equal_int_int a0 a1 = some r) : AM.Spec Try.prog 75 [.list (.ints a0), .list (.ints a1)] [] (.bool r) [] := by
  refine spec_of (E := E75_slices_Equal_int_int) Try.func75 rfl rfl rfl rfl ?_
  refine Tri.run 2 [] [.keep [0, 1, 10] []] (K' := [.code [(1, 0)] 1, .code [] 2]) (σ' := ⟨[(0, .list (.ints a0)), (1, .list (.ints a1)), (10, .bool ((a0.length : Int) != (a1.length : Int)))], []⟩) rfl trivial rfl ?_
  rcases bif_some h with ⟨hd1, h⟩ | ⟨hd1, h⟩
  · refine Tri.run 2 [.g true] [.keep [4] []] (K' := [.code [(1, 0), (1, 0)] 1, .code [] 2]) (σ' := ⟨[(4, .bool false)], []⟩) rfl ⟨hd1, trivial⟩ rfl ?_
    have h := Option.some.inj h
    subst h
    exact Tri.ret rfl ⟨.inl rfl, rfl, rfl⟩
  · refine Tri.run 2 [.g false] [.keep [0, 1, 12, 13] []] (K' := [.code [(2, 0), (1, 0)] 0, .blk 0, .code [] 3]) (σ' := ⟨[(0, .list (.ints a0)), (1, .list (.ints a1)), (12, .int .i64 (a0.length : Int)), (13, .int .i64 (0 : Int))], []⟩) rfl ⟨hd1, trivial⟩ rfl ?_
    obtain ⟨x1, hk6, h⟩ := bind_some h
    refine Tri.loop (K1 := [.code [(2, 0), (1, 0), (0, 0)] 0]) (K2 := [.blk 0, .code [] 3]) (fun v1 => ⟨[(0, .list (.ints a0)), (1, .list (.ints a1)), (12, .int .i64 (a0.length : Int)), (13, .int .i64 v1)], []⟩) (fun x e σ' => match x with | (.inl _) => e = .exit 0 ∧ σ' = ⟨[], []⟩ | (.inr r) => e = .ret ∧ q_slices_Equal_int_int r σ') hk6 rfl rfl ?_ ?_
    · intro v1 x hs
      clear h
      have h := hs
      clear hs
      refine Tri.run 1 [] [.keep [0, 1, 12, 13, 14] []] (K' := [.code [(2, 0), (1, 0), (0, 0), (1, 0)] 0, .code [(2, 0), (1, 0), (0, 0)] 2]) (σ' := ⟨[(0, .list (.ints a0)), (1, .list (.ints a1)), (12, .int .i64 (a0.length : Int)), (13, .int .i64 v1), (14, .bool (decide (v1 < (a0.length : Int))))], []⟩) rfl trivial rfl ?_
      rcases bif_some h with ⟨hd2, h⟩ | ⟨hd2, h⟩
      · obtain ⟨hg3, h⟩ := grd_some h
        obtain ⟨hg4, h⟩ := grd_some h
        refine Tri.run 3 [.g true] [.keep [0, 1, 12, 13, 24] []] (K' := [.code [(2, 0), (1, 0), (0, 0), (2, 0), (0, 0)] 2, .blk 1, .code [(2, 0), (1, 0), (0, 0)] 3]) (σ' := ⟨[(0, .list (.ints a0)), (1, .list (.ints a1)), (12, .int .i64 (a0.length : Int)), (13, .int .i64 v1), (24, .bool ((a0.getD v1.toNat 0) != (a1.getD v1.toNat 0)))], []⟩) rfl ⟨hg4, hg3, hd2, trivial⟩ rfl ?_
        rcases bif_some h with ⟨hd5, h⟩ | ⟨hd5, h⟩
        · refine Tri.run 2 [.g true] [.keep [4] []] (K' := [.code [(2, 0), (1, 0), (0, 0), (2, 0), (0, 0), (2, 0)] 1, .blk 1, .code [(2, 0), (1, 0), (0, 0)] 3]) (σ' := ⟨[(4, .bool false)], []⟩) rfl ⟨hd5, trivial⟩ rfl ?_
          have h := Option.some.inj h
          subst h
          exact Tri.ret rfl ⟨nofun, rfl, rfl, rfl⟩
        · refine Tri.run 2 [.g false] [.keep [0, 1, 12, 13] []] (K' := []) (σ' := ⟨[(0, .list (.ints a0)), (1, .list (.ints a1)), (12, .int .i64 (a0.length : Int)), (13, .int .i64 (IntKind.i64.wrap (v1 + (1 : Int))))], []⟩) rfl ⟨hd5, trivial⟩ rfl ?_
          have h := Option.some.inj h
          subst h
          exact Tri.nil ⟨rfl, rfl⟩
      · refine Tri.run 1 [.g false] [.keep [] []] (K' := [.code [(2, 0), (1, 0), (0, 0), (1, 0), (0, 1)] 0, .code [(2, 0), (1, 0), (0, 0)] 2]) (σ' := ⟨[], []⟩) rfl ⟨hd2, trivial⟩ rfl ?_
        have h := Option.some.inj h
        subst h
        exact Tri.out 0 rfl ⟨nofun, rfl, rfl⟩
    · intro e σ' hne hq
      rcases x1 with _ | r
      · obtain ⟨rfl, rfl⟩ := hq
        refine TriX.exit (K' := [.code [] 3]) rfl ?_
        refine Tri.run 1 [] [.keep [4] []] (K' := [.code [] 4]) (σ' := ⟨[(4, .bool true)], []⟩) rfl trivial rfl ?_
        have h := Option.some.inj h
        subst h
        exact Tri.ret rfl ⟨.inl rfl, rfl, rfl⟩
      · obtain ⟨rfl, hq⟩ := hq
        have h := Option.some.inj h
        subst h
        exact TriX.ret ⟨.inl rfl, hq⟩
/-! impl.EqualGame -/
noncomputable def E29_impl_EqualGame : Env := ⟨Try.prog, tys, (Try.f29.body).getD .skip, 17, tysOk, mixedOk⟩
abbrev q_impl_EqualGame (r : Bool) (σ' : ASt) : Prop := resAV E29_impl_EqualGame.T σ' Try.f29.results.toList = some (.bool r) ∧ keepO σ'.ob (namesO []) = []
noncomputable def m_impl_EqualGame (a0 : Int) (a1 : List Int) (a2 : Int) (a3 : List Int) : Option Bool :=
bif a0 == a2 then
((m_slices_Equal_int_int a1 a3).bind fun v1 =>
some v1)
else
(some false)
theorem w_impl_EqualGame (a0 : Int) (a1 : List Int) (a2 : Int) (a3 : List Int) (r : Bool) (h : m_impl_EqualGame a0 a1 a2 a3 = some r) : AM.Spec Try.prog 29 [.agg [.int .i64 a0, .list (.ints a1)], .agg [.int .i64 a2, .list (.ints a3)]] [] (.bool r) [] := by
  refine spec_of (E := E29_impl_EqualGame) Try.func29 rfl rfl rfl rfl ?_
  refine Tri.run 1 [] [.keep [2, 3] [2, 3]] (K' := [.code [(1, 0)] 0, .code [] 2]) (σ' := ⟨[(2, .ptr 2 0), (3, .ptr 3 0)], [(2, .box [.int .i64 a0, .list (.ints a1)]), (3, .box [.int .i64 a2, .list (.ints a3)])]⟩) rfl trivial rfl ?_
  rcases bif_some h with ⟨hd1, h⟩ | ⟨hd1, h⟩
  · obtain ⟨v1, hk2, h⟩ := bind_some h
    refine Tri.run 1 [.g true, .r ⟨[], .bool v1, []⟩] [.keep [4] []] (K' := [.code [] 2]) (σ' := ⟨[(4, .bool v1)], []⟩) rfl ⟨(fun _ => (w_slices_Equal_int_int a1 a3 v1 hk2)), hd1, trivial⟩ rfl ?_
    have h := Option.some.inj h
    subst h
    exact Tri.ret rfl ⟨.inl rfl, rfl, rfl⟩
  · refine Tri.run 1 [.g false] [.keep [4] []] (K' := [.code [] 2]) (σ' := ⟨[(4, .bool false)], []⟩) rfl ⟨hd1, trivial⟩ rfl ?_
    have h := Option.some.inj h
    subst h
    exact Tri.ret rfl ⟨.inl rfl, rfl, rfl⟩
/-! impl.GrandValue -/
noncomputable def E30_impl_GrandValue : Env := ⟨Try.prog, tys, (Try.f30.body).getD .skip, 14, tysOk, mixedOk⟩
abbrev q_impl_GrandValue (r : Int) (σ' : ASt) : Prop := resAV E30_impl_GrandValue.T σ' Try.f30.results.toList = some (.int .i64 r) ∧ keepO σ'.ob (namesO []) = []
noncomputable def m_impl_GrandValue (a0 : Int) (a1 : List Int) : Option Int :=
(m_impl_IsValidGame a0 a1).bind fun v1 =>
bif !v1 then
(some (0 : Int))
else
(grd ((0 : Int) ≤ IntKind.i64.wrap ((a1.length : Int) - (1 : Int)) ∧ IntKind.i64.wrap ((a1.length : Int) - (1 : Int)) < (a1.length : Int)) <|
some (a1.getD ((IntKind.i64.wrap ((a1.length : Int) - (1 : Int))).toNat) 0))
theorem w_impl_GrandValue (a0 : Int) (a1 : List Int) (r : Int) (h : m_impl_GrandValue a0 a1 = some r) : AM.Spec Try.prog 30 [.agg [.int .i64 a0, .list (.ints a1)]] [] (.int .i64 r) [] := by
  refine spec_of (E := E30_impl_GrandValue) Try.func30 rfl rfl rfl rfl ?_
  refine Tri.run 1 [] [.keep [1] [1]] (K' := [.code [(1, 0), (0, 0)] 0, .code [(1, 0)] 1, .code [] 2]) (σ' := ⟨[(1, .ptr 1 0)], [(1, .box [.int .i64 a0, .list (.ints a1)])]⟩) rfl trivial rfl ?_
  obtain ⟨v1, hk1, h⟩ := bind_some h
  refine Tri.run 1 [.r ⟨[], .bool v1, []⟩] [.keep [1, 5] [1]] (K' := [.code [(1, 0)] 1, .code [] 2]) (σ' := ⟨[(1, .ptr 1 0), (5, .bool (!v1))], [(1, .box [.int .i64 a0, .list (.ints a1)])]⟩) rfl ⟨(fun _ => (w_impl_IsValidGame a0 a1 v1 hk1)), trivial⟩ rfl ?_
  rcases bif_some h with ⟨hd2, h⟩ | ⟨hd2, h⟩
  · refine Tri.run 2 [.g true] [.keep [2] []] (K' := [.code [(1, 0), (1, 0)] 1, .code [] 2]) (σ' := ⟨[(2, .int .i64 (0 : Int))], []⟩) rfl ⟨hd2, trivial⟩ rfl ?_
    have h := Option.some.inj h
    subst h
    exact Tri.ret rfl ⟨.inl rfl, rfl, rfl⟩
  · obtain ⟨hg3, h⟩ := grd_some h
    refine Tri.run 2 [.g false] [.keep [2] []] (K' := [.code [] 3]) (σ' := ⟨[(2, .int .i64 (a1.getD ((IntKind.i64.wrap ((a1.length : Int) - (1 : Int))).toNat) 0))], []⟩) rfl ⟨hg3, hd2, trivial⟩ rfl ?_
    have h := Option.some.inj h
    subst h
    exact Tri.ret rfl ⟨.inl rfl, rfl, rfl⟩
/-! spec.DrawValueOf -/
noncomputable def E76_spec_DrawValueOf : Env := ⟨Try.prog, tys, (Try.f76.body).getD .skip, 18, tysOk, mixedOk⟩
abbrev q_spec_DrawValueOf (r : Int × Int × (List Int)) (σ' : ASt) : Prop := resAV E76_spec_DrawValueOf.T σ' Try.f76.results.toList = some (.tuple [.agg [.int .i64 r.1, .sl 1000 0], .int .i64 r.2.1]) ∧ keepO σ'.ob (namesO [(1000, .arr 3 0 0 (.ints r.2.2))]) = [(1000, .arr 3 0 0 (.ints r.2.2))]
noncomputable def m_spec_DrawValueOf (a0 : List UInt8) : Option (Int × Int × (List Int)) :=
(m_spec_l1New_io2 0 [] a0).bind fun (v1, v2, v3, _, _) =>
(m_spec_l8Bent_io1 v1 v2 v3).bind fun (v6, v7, v8, v9) =>
(m_spec_l1Below_io1 v1 v8 v9 (IntKind.i64.wrap ((v7.length : Int) + (2 : Int)))).bind fun (v10, _, _) =>
some (v6, IntKind.i64.wrap (v10 - (1 : Int)), v7)
theorem w_spec_DrawValueOf (a0 : List UInt8) (r : Int × Int × (List Int)) (h : m_spec_DrawValueOf a0 = some r) : AM.Spec Try.prog 76 [.list (.bytes a0)] [] (.tuple [.agg [.int .i64 r.1, .sl 1000 0], .int .i64 r.2.1]) [(1000, .arr 3 0 0 (.ints r.2.2))] := by
  refine spec_of (E := E76_spec_DrawValueOf) Try.func76 rfl rfl rfl rfl ?_
  refine Tri.run 1 [] [.keep [0, 2] [2], .ownc 2 1 1100 3, .keep [0, 2] [2, 1100]] (K' := [.code [(1, 0)] 0, .code [] 2]) (σ' := ⟨[(0, .list (.bytes a0)), (2, .ptr 2 0)], [(2, .box [.int .i64 0, .sl 1100 0]), (1100, .arr 3 0 0 (.ints []))]⟩) rfl trivial rfl ?_
  obtain ⟨⟨v1, v2, v3, v4, v5⟩, hk1, h⟩ := bind_some h
  obtain ⟨⟨v6, v7, v8, v9⟩, hk2, h⟩ := bind_some h
  refine Tri.run 2 [.r ⟨[2, 1100], .ptr 1101 0, [(1101, .box [.list (.bytes v1), .int .i64 v2, .int .i64 v3]), (1102, .arr 3 0 0 (.ints v4)), (2, .box [.int .i64 v5, .sl 1102 0])]⟩, .r ⟨[1101], .agg [.int .i64 v6, .sl 1103 0], [(1103, .arr 3 0 0 (.ints v7)), (1101, .box [.undf, .int .i64 v8, .int .i64 v9])]⟩] [.keep [2, 4, 5] [2, 5, 1101, 1102, 1103]] (K' := [.code [(3, 0)] 0, .code [] 4]) (σ' := ⟨[(2, .ptr 2 0), (4, .ptr 1101 0), (5, .ptr 5 0)], [(2, .box [.int .i64 v5, .sl 1102 0]), (5, .box [.int .i64 v6, .sl 1103 0]), (1101, .box [.list (.bytes v1), .int .i64 v8, .int .i64 v9]), (1102, .arr 3 0 0 (.ints v4)), (1103, .arr 3 0 0 (.ints v7))]⟩) rfl ⟨(fun vf => (((w_spec_l8Bent_io1 (vf 1101 0) v1 v2 v3 (v6, v7, v8, v9) hk2).swap 1000 1103).swap 2020 1101)), (fun _ => (((((w_spec_l1New_io2 0 [] a0 (v1, v2, v3, v4, v5) hk1).swap 1000 1101).swap 1001 1102).swap 2000 2).swap 2001 1100)), trivial⟩ rfl ?_
  obtain ⟨⟨v10, v11, v12⟩, hk3, h⟩ := bind_some h
  refine Tri.run 1 [.r ⟨[1101], .int .i64 v10, [(1101, .box [.undf, .int .i64 v11, .int .i64 v12])]⟩] [.swap 1103 1000, .keep [2, 3] [2, 1000]] (K' := [.code [] 4]) (σ' := ⟨[(2, .ptr 2 0), (3, .int .i64 (IntKind.i64.wrap (v10 - (1 : Int))))], [(2, .box [.int .i64 v6, .sl 1000 0]), (1000, .arr 3 0 0 (.ints v7))]⟩) rfl ⟨(fun vf => ((w_spec_l1Below_io1 (vf 1101 0) v1 v8 v9 (IntKind.i64.wrap ((v7.length : Int) + (2 : Int))) (v10, v11, v12) hk3).swap 2060 1101)), trivial⟩ rfl ?_
  have h := Option.some.inj h
  subst h
  exact Tri.ret rfl ⟨.inl rfl, rfl, rfl⟩
/-! spec.DrawRestrict -/
noncomputable def E31_spec_DrawRestrict : Env := ⟨Try.prog, tys, (Try.f31.body).getD .skip, 8, tysOk, mixedOk⟩
abbrev q_spec_DrawRestrict (r : Int × Int × (List Int)) (σ' : ASt) : Prop := resAV E31_spec_DrawRestrict.T σ' Try.f31.results.toList = some (.tuple [.agg [.int .i64 r.1, .sl 1000 0], .int .i64 r.2.1]) ∧ keepO σ'.ob (namesO [(1000, .arr 3 0 0 (.ints r.2.2))]) = [(1000, .arr 3 0 0 (.ints r.2.2))]
noncomputable def m_spec_DrawRestrict (a0 : List UInt8) : Option (Int × Int × (List Int)) :=
(m_spec_DrawValueOf a0).bind fun (v1, v2, v3) =>
some (v1, v2, v3)
theorem w_spec_DrawRestrict (a0 : List UInt8) (r : Int × Int × (List Int)) (h : m_spec_DrawRestrict a0 = some r) : AM.Spec Try.prog 31 [.list (.bytes a0)] [] (.tuple [.agg [.int .i64 r.1, .sl 1000 0], .int .i64 r.2.1]) [(1000, .arr 3 0 0 (.ints r.2.2))] := by
  refine spec_of (E := E31_spec_DrawRestrict) Try.func31 rfl rfl rfl rfl ?_
  refine Tri.run 1 [] [.keep [0, 2] [2], .ownc 2 1 1100 3, .keep [0, 2] [2, 1100]] (K' := [.code [(1, 0)] 0, .code [] 2]) (σ' := ⟨[(0, .list (.bytes a0)), (2, .ptr 2 0)], [(2, .box [.int .i64 0, .sl 1100 0]), (1100, .arr 3 0 0 (.ints []))]⟩) rfl trivial rfl ?_
  obtain ⟨⟨v1, v2, v3⟩, hk1, h⟩ := bind_some h
  refine Tri.run 1 [.r ⟨[], .tuple [.agg [.int .i64 v1, .sl 1101 0], .int .i64 v2], [(1101, .arr 3 0 0 (.ints v3))]⟩] [.swap 1101 1000, .keep [2, 3] [2, 1000]] (K' := [.code [] 2]) (σ' := ⟨[(2, .ptr 2 0), (3, .int .i64 v2)], [(2, .box [.int .i64 v1, .sl 1000 0]), (1000, .arr 3 0 0 (.ints v3))]⟩) rfl ⟨(fun _ => ((w_spec_DrawValueOf a0 (v1, v2, v3) hk1).swap 1000 1101)), trivial⟩ rfl ?_
  have h := Option.some.inj h
  subst h
  exact Tri.ret rfl ⟨.inl rfl, rfl, rfl⟩
/-! impl.HasPlayer -/
noncomputable def E81_impl_HasPlayer : Env := ⟨Try.prog, tys, (Try.f81.body).getD .skip, 18, tysOk, mixedOk⟩
abbrev q_impl_HasPlayer (r : Bool) (σ' : ASt) : Prop := resAV E81_impl_HasPlayer.T σ' Try.f81.results.toList = some (.bool r) ∧ keepO σ'.ob (namesO []) = []
noncomputable def m_impl_HasPlayer (a0 : Int) (a1 : Int) : Option Bool :=
bif decide (a0 ≥ (0 : Int)) then
((m_impl_within a1 (0 : Int) (4 : Int)).bind fun v1 =>
bif v1 then
(grd ((0 : Int) ≤ a1) <|
some ((bitsOf .and .i64 (a0.fdiv (2 ^ (min a1.toNat 64))) (1 : Int)) == (1 : Int)))
else
(some false))
else
(some false)
theorem w_impl_HasPlayer (a0 : Int) (a1 : Int) (r : Bool) (h : m_impl_HasPlayer a0 a1 = some r) : AM.Spec Try.prog 81 [.int .i64 a0, .int .i64 a1] [] (.bool r) [] := by
  refine spec_of (E := E81_impl_HasPlayer) Try.func81 rfl rfl rfl rfl ?_
  refine Tri.run 1 [] [.keep [0, 1] []] (K' := [.code [(1, 0)] 0, .code [] 2]) (σ' := ⟨[(0, .int .i64 a0), (1, .int .i64 a1)], []⟩) rfl trivial rfl ?_
  rcases bif_some h with ⟨hd1, h⟩ | ⟨hd1, h⟩
  · obtain ⟨v1, hk2, h⟩ := bind_some h
    rcases bif_some h with ⟨hd3, h⟩ | ⟨hd3, h⟩
    · obtain ⟨hg4, h⟩ := grd_some h
      refine Tri.run 1 [.g true, .r ⟨[], .bool v1, []⟩, .g true] [.keep [4] []] (K' := [.code [] 2]) (σ' := ⟨[(4, .bool ((bitsOf .and .i64 (a0.fdiv (2 ^ (min a1.toNat 64))) (1 : Int)) == (1 : Int)))], []⟩) rfl ⟨hg4, hd3, (fun _ => (w_impl_within a1 (0 : Int) (4 : Int) v1 hk2)), hd1, trivial⟩ rfl ?_
      have h := Option.some.inj h
      subst h
      exact Tri.ret rfl ⟨.inl rfl, rfl, rfl⟩
    · refine Tri.run 1 [.g true, .r ⟨[], .bool v1, []⟩, .g false] [.keep [4] []] (K' := [.code [] 2]) (σ' := ⟨[(4, .bool false)], []⟩) rfl ⟨hd3, (fun _ => (w_impl_within a1 (0 : Int) (4 : Int) v1 hk2)), hd1, trivial⟩ rfl ?_
      have h := Option.some.inj h
      subst h
      exact Tri.ret rfl ⟨.inl rfl, rfl, rfl⟩
  · refine Tri.run 1 [.g false, .g false] [.keep [4] []] (K' := [.code [] 2]) (σ' := ⟨[(4, .bool false)], []⟩) rfl ⟨rfl, hd1, trivial⟩ rfl ?_
    have h := Option.some.inj h
    subst h
    exact Tri.ret rfl ⟨.inl rfl, rfl, rfl⟩
/-! impl.MembersOf -/
noncomputable def E77_impl_MembersOf : Env := ⟨Try.prog, tys, (Try.f77.body).getD .skip, 21, tysOk, mixedOk⟩
abbrev q_impl_MembersOf (r : List Int) (σ' : ASt) : Prop := resAV E77_impl_MembersOf.T σ' Try.f77.results.toList = some (.sl 1000 0) ∧ keepO σ'.ob (namesO [(1000, .arr 3 0 0 (.ints r))]) = [(1000, .arr 3 0 0 (.ints r))]
noncomputable def l_impl_MembersOf_0 (a0 : Int) : (Int × (List Int)) → Option ((Int × (List Int)) ⊕ ((List Int)))
  | (v2, v3) => (
bif decide (v2 < (5 : Int)) then
((m_impl_HasPlayer a0 v2).bind fun v4 =>
bif v4 then
(grd (v3.length + ([v2] : List Int).length ≤ room) <|
some (.inl (IntKind.i64.wrap (v2 + (1 : Int)), v3 ++ [v2])))
else
(some (.inl (IntKind.i64.wrap (v2 + (1 : Int)), v3))))
else
(some (.inr v3)))
noncomputable def m_impl_MembersOf (a0 : Int) : Option (List Int) :=
(m_impl_within a0 (0 : Int) (31 : Int)).bind fun v1 =>
bif !v1 then
(some [])
else
((iter (l_impl_MembersOf_0 a0) ((0 : Int), [])).bind fun
| v5 => (
some v5))
theorem w_impl_MembersOf (a0 : Int) (r : List Int) (h : m_impl_MembersOf a0 = some r) : AM.Spec Try.prog 77 [.int .i64 a0] [] (.sl 1000 0) [(1000, .arr 3 0 0 (.ints r))] := by
  refine spec_of (E := E77_impl_MembersOf) Try.func77 rfl rfl rfl rfl ?_
  refine Tri.run 1 [] [.keep [0] []] (K' := [.code [(1, 0), (0, 0)] 0, .code [(1, 0)] 1, .code [] 2]) (σ' := ⟨[(0, .int .i64 a0)], []⟩) rfl trivial rfl ?_
  obtain ⟨v1, hk1, h⟩ := bind_some h
  refine Tri.run 1 [.r ⟨[], .bool v1, []⟩] [.keep [0, 7] []] (K' := [.code [(1, 0)] 1, .code [] 2]) (σ' := ⟨[(0, .int .i64 a0), (7, .bool (!v1))], []⟩) rfl ⟨(fun _ => (w_impl_within a0 (0 : Int) (31 : Int) v1 hk1)), trivial⟩ rfl ?_
  rcases bif_some h with ⟨hd2, h⟩ | ⟨hd2, h⟩
  · refine Tri.run 2 [.g true] [.own 2 [] 1100 3, .swap 1100 1000, .keep [2] [1000]] (K' := [.code [(1, 0), (1, 0)] 1, .code [] 2]) (σ' := ⟨[(2, .sl 1000 0)], [(1000, .arr 3 0 0 (.ints []))]⟩) rfl ⟨hd2, trivial⟩ rfl ?_
    have h := Option.some.inj h
    subst h
    exact Tri.ret rfl ⟨.inl rfl, rfl, rfl⟩
  · refine Tri.run 3 [.g false] [.keep [0, 3, 9] [8]] (K' := [.code [(3, 0), (1, 0)] 0, .blk 0, .code [] 4]) (σ' := ⟨[(0, .int .i64 a0), (3, .sl 8 0), (9, .int .i64 (0 : Int))], [(8, .arr 3 0 0 (.ints []))]⟩) rfl ⟨hd2, trivial⟩ rfl ?_
    obtain ⟨v5, hk7, h⟩ := bind_some h
    refine Tri.loop (K1 := [.code [(3, 0), (1, 0), (0, 0)] 0]) (K2 := [.blk 0, .code [] 4]) (fun (v2, v3) => ⟨[(0, .int .i64 a0), (3, .sl 8 0), (9, .int .i64 v2)], [(8, .arr 3 0 0 (.ints v3))]⟩) (fun x e σ' => match x with | v5 => e = .exit 0 ∧ σ' = ⟨[(3, .sl 8 0)], [(8, .arr 3 0 0 (.ints v5))]⟩) hk7 rfl rfl ?_ ?_
    · intro s x hs
      clear h
      have h := hs
      clear hs
      obtain ⟨v2, v3⟩ := s
      refine Tri.run 1 [] [.keep [0, 3, 9, 10] [8]] (K' := [.code [(3, 0), (1, 0), (0, 0), (1, 0)] 0, .code [(3, 0), (1, 0), (0, 0)] 2]) (σ' := ⟨[(0, .int .i64 a0), (3, .sl 8 0), (9, .int .i64 v2), (10, .bool (decide (v2 < (5 : Int))))], [(8, .arr 3 0 0 (.ints v3))]⟩) rfl trivial rfl ?_
      rcases bif_some h with ⟨hd3, h⟩ | ⟨hd3, h⟩
      · refine Tri.run 2 [.g true] [.keep [0, 3, 4, 9] [8]] (K' := [.code [(3, 0), (1, 0), (0, 0), (2, 0), (0, 0), (1, 0)] 0, .code [(3, 0), (1, 0), (0, 0), (2, 0), (0, 0)] 2, .blk 1, .code [(3, 0), (1, 0), (0, 0)] 3]) (σ' := ⟨[(0, .int .i64 a0), (3, .sl 8 0), (4, .int .i64 v2), (9, .int .i64 v2)], [(8, .arr 3 0 0 (.ints v3))]⟩) rfl ⟨hd3, trivial⟩ rfl ?_
        obtain ⟨v4, hk4, h⟩ := bind_some h
        refine Tri.run 1 [.r ⟨[], .bool v4, []⟩] [.keep [0, 3, 4, 9, 14] [8]] (K' := [.code [(3, 0), (1, 0), (0, 0), (2, 0), (0, 0)] 2, .blk 1, .code [(3, 0), (1, 0), (0, 0)] 3]) (σ' := ⟨[(0, .int .i64 a0), (3, .sl 8 0), (4, .int .i64 v2), (9, .int .i64 v2), (14, .bool v4)], [(8, .arr 3 0 0 (.ints v3))]⟩) rfl ⟨(fun _ => (w_impl_HasPlayer a0 v2 v4 hk4)), trivial⟩ rfl ?_
        rcases bif_some h with ⟨hd5, h⟩ | ⟨hd5, h⟩
        · obtain ⟨hg6, h⟩ := grd_some h
          refine Tri.run 3 [.g true] [.rever 8, .keep [0, 3, 9] [8]] (K' := []) (σ' := ⟨[(0, .int .i64 a0), (3, .sl 8 0), (9, .int .i64 (IntKind.i64.wrap (v2 + (1 : Int))))], [(8, .arr 3 0 0 (.ints (v3 ++ [v2])))]⟩) rfl ⟨hg6, hd5, trivial⟩ rfl ?_
          have h := Option.some.inj h
          subst h
          exact Tri.nil ⟨rfl, rfl⟩
        · refine Tri.run 2 [.g false] [.keep [0, 3, 9] [8]] (K' := []) (σ' := ⟨[(0, .int .i64 a0), (3, .sl 8 0), (9, .int .i64 (IntKind.i64.wrap (v2 + (1 : Int))))], [(8, .arr 3 0 0 (.ints v3))]⟩) rfl ⟨hd5, trivial⟩ rfl ?_
          have h := Option.some.inj h
          subst h
          exact Tri.nil ⟨rfl, rfl⟩
      · refine Tri.run 1 [.g false] [.keep [3] [8]] (K' := [.code [(3, 0), (1, 0), (0, 0), (1, 0), (0, 1)] 0, .code [(3, 0), (1, 0), (0, 0)] 2]) (σ' := ⟨[(3, .sl 8 0)], [(8, .arr 3 0 0 (.ints v3))]⟩) rfl ⟨hd3, trivial⟩ rfl ?_
        have h := Option.some.inj h
        subst h
        exact Tri.out 0 rfl ⟨nofun, rfl, rfl⟩
    · intro e σ' hne hq
      obtain ⟨rfl, rfl⟩ := hq
      refine TriX.exit (K' := [.code [] 4]) rfl ?_
      refine Tri.run 1 [] [.swap 8 1000, .keep [2] [1000]] (K' := [.code [] 5]) (σ' := ⟨[(2, .sl 1000 0)], [(1000, .arr 3 0 0 (.ints v5))]⟩) rfl trivial rfl ?_
      have h := Option.some.inj h
      subst h
      exact Tri.ret rfl ⟨.inl rfl, rfl, rfl⟩
/-! impl.Restrict$1 -/
noncomputable def E78_impl_Restrict_1 : Env := ⟨Try.prog, tys, (Try.f78.body).getD .skip, 29, tysOk, mixedOk⟩
abbrev q_impl_Restrict_1 (r : Int) (σ' : ASt) : Prop := resAV E78_impl_Restrict_1.T σ' Try.f78.results.toList = some (.int .i64 r) ∧ keepO σ'.ob (namesO []) = []
noncomputable def l_impl_Restrict_1_0 (a0 : Int) (a1 : List Int) : (Int × Int) → Option ((Int × Int) ⊕ Int)
  | (v1, v2) => (
bif decide (v2 < (a1.length : Int)) then
(grd ((0 : Int) ≤ v2 ∧ v2 < (a1.length : Int)) <|
grd ((0 : Int) ≤ v2) <|
grd ((0 : Int) ≤ a1.getD v2.toNat 0) <|
some (.inl (bitsOf .or .i64 v1 (IntKind.i64.wrap ((bitsOf .and .i64 (a0.fdiv (2 ^ (min v2.toNat 64))) (1 : Int)) * 2 ^ (min (a1.getD v2.toNat 0).toNat 64))), IntKind.i64.wrap (v2 + (1 : Int)))))
else
(some (.inr v1)))
noncomputable def m_impl_Restrict_1 (a0 : Int) (a1 : List Int) (_a2 : Int) (a3 : List Int) : Option Int :=
(iter (l_impl_Restrict_1_0 a0 a1) ((0 : Int), (0 : Int))).bind fun
| v3 => (
grd ((0 : Int) ≤ v3 ∧ v3 < (a3.length : Int)) <|
some (a3.getD v3.toNat 0))
theorem w_impl_Restrict_1 (a0 : Int) (a1 : List Int) (a2 : Int) (a3 : List Int) (r : Int) (h : m_impl_Restrict_1 a0 a1 a2 a3 = some r) : AM.Spec Try.prog 78 [.int .i64 a0, .pbox [.list (.ints a1)] 0, .pbox [.int .i64 a2, .list (.ints a3)] 0] [] (.int .i64 r) [] := by
  refine spec_of (E := E78_impl_Restrict_1) Try.func78 rfl rfl rfl rfl ?_
  refine Tri.run 3 [] [.keep [0, 2, 5, 8, 9, 10] []] (K' := [.code [(2, 0), (1, 0)] 0, .blk 0, .code [] 3]) (σ' := ⟨[(0, .int .i64 a0), (2, .pbox [.int .i64 a2, .list (.ints a3)] 0), (5, .int .i64 (0 : Int)), (8, .list (.ints a1)), (9, .int .i64 (a1.length : Int)), (10, .int .i64 (0 : Int))], []⟩) rfl trivial rfl ?_
  obtain ⟨v3, hk5, h⟩ := bind_some h
  refine Tri.loop (K1 := [.code [(2, 0), (1, 0), (0, 0)] 0]) (K2 := [.blk 0, .code [] 3]) (fun (v1, v2) => ⟨[(0, .int .i64 a0), (2, .pbox [.int .i64 a2, .list (.ints a3)] 0), (5, .int .i64 v1), (8, .list (.ints a1)), (9, .int .i64 (a1.length : Int)), (10, .int .i64 v2)], []⟩) (fun x e σ' => match x with | v3 => e = .exit 0 ∧ σ' = ⟨[(2, .pbox [.int .i64 a2, .list (.ints a3)] 0), (5, .int .i64 v3)], []⟩) hk5 rfl rfl ?_ ?_
  · intro s x hs
    clear h
    have h := hs
    clear hs
    obtain ⟨v1, v2⟩ := s
    refine Tri.run 1 [] [.keep [0, 2, 5, 8, 9, 10, 11] []] (K' := [.code [(2, 0), (1, 0), (0, 0), (1, 0)] 0, .code [(2, 0), (1, 0), (0, 0)] 2]) (σ' := ⟨[(0, .int .i64 a0), (2, .pbox [.int .i64 a2, .list (.ints a3)] 0), (5, .int .i64 v1), (8, .list (.ints a1)), (9, .int .i64 (a1.length : Int)), (10, .int .i64 v2), (11, .bool (decide (v2 < (a1.length : Int))))], []⟩) rfl trivial rfl ?_
    rcases bif_some h with ⟨hd1, h⟩ | ⟨hd1, h⟩
    · obtain ⟨hg2, h⟩ := grd_some h
      obtain ⟨hg3, h⟩ := grd_some h
      obtain ⟨hg4, h⟩ := grd_some h
      refine Tri.run 3 [.g true] [.keep [0, 2, 5, 8, 9, 10] []] (K' := [.code [(2, 0), (1, 0), (0, 0)] 3]) (σ' := ⟨[(0, .int .i64 a0), (2, .pbox [.int .i64 a2, .list (.ints a3)] 0), (5, .int .i64 (bitsOf .or .i64 v1 (IntKind.i64.wrap ((bitsOf .and .i64 (a0.fdiv (2 ^ (min v2.toNat 64))) (1 : Int)) * 2 ^ (min (a1.getD v2.toNat 0).toNat 64))))), (8, .list (.ints a1)), (9, .int .i64 (a1.length : Int)), (10, .int .i64 v2)], []⟩) rfl ⟨hg4, hg3, hg2, hd1, trivial⟩ rfl ?_
      refine Tri.run 1 [] [.keep [0, 2, 5, 8, 9, 10] []] (K' := []) (σ' := ⟨[(0, .int .i64 a0), (2, .pbox [.int .i64 a2, .list (.ints a3)] 0), (5, .int .i64 (bitsOf .or .i64 v1 (IntKind.i64.wrap ((bitsOf .and .i64 (a0.fdiv (2 ^ (min v2.toNat 64))) (1 : Int)) * 2 ^ (min (a1.getD v2.toNat 0).toNat 64))))), (8, .list (.ints a1)), (9, .int .i64 (a1.length : Int)), (10, .int .i64 (IntKind.i64.wrap (v2 + (1 : Int))))], []⟩) rfl trivial rfl ?_
      have h := Option.some.inj h
      subst h
      exact Tri.nil ⟨rfl, rfl⟩
    · refine Tri.run 1 [.g false] [.keep [2, 5] []] (K' := [.code [(2, 0), (1, 0), (0, 0), (1, 0), (0, 1)] 0, .code [(2, 0), (1, 0), (0, 0)] 2]) (σ' := ⟨[(2, .pbox [.int .i64 a2, .list (.ints a3)] 0), (5, .int .i64 v1)], []⟩) rfl ⟨hd1, trivial⟩ rfl ?_
      have h := Option.some.inj h
      subst h
      exact Tri.out 0 rfl ⟨nofun, rfl, rfl⟩
  · intro e σ' hne hq
    obtain ⟨rfl, rfl⟩ := hq
    refine TriX.exit (K' := [.code [] 3]) rfl ?_
    obtain ⟨hg6, h⟩ := grd_some h
    refine Tri.run 1 [] [.keep [4] []] (K' := [.code [] 4]) (σ' := ⟨[(4, .int .i64 (a3.getD v3.toNat 0))], []⟩) rfl ⟨hg6, trivial⟩ rfl ?_
    have h := Option.some.inj h
    subst h
    exact Tri.ret rfl ⟨.inl rfl, rfl, rfl⟩
/-! impl.made -/
abbrev q_impl_made_impl_Restrict_1 (r : Int × Bool × (List Int)) (σ' : ASt) : Prop := resAV E65_impl_made.T σ' Try.f65.results.toList = some (.tuple [.agg [.int .i64 r.1, .sl 1000 0], .bool r.2.1]) ∧ keepO σ'.ob (namesO [(1000, .arr 3 0 0 (.ints r.2.2))]) = [(1000, .arr 3 0 0 (.ints r.2.2))]
noncomputable def l_impl_made_impl_Restrict_1_0 (a1 : List Int) (a2 : Int) (a3 : List Int) (v1 : Int) : (Int × (List Int)) → Option ((Int × (List Int)) ⊕ ((List Int)))
  | (v2, v3) => (
bif decide (v2 < v1) then
((m_impl_Restrict_1 v2 a1 a2 a3).bind fun v4 =>
grd (v3.length + ([v4] : List Int).length ≤ room) <|
some (.inl (IntKind.i64.wrap (v2 + (1 : Int)), v3 ++ [v4])))
else
(some (.inr v3)))
noncomputable def m_impl_made_impl_Restrict_1 (a0 : Int) (a1 : List Int) (a2 : Int) (a3 : List Int) : Option (Int × Bool × (List Int)) :=
(m_impl_CountCoalitions a0).bind fun v1 =>
(iter (l_impl_made_impl_Restrict_1_0 a1 a2 a3 v1) ((0 : Int), [])).bind fun
| v5 => (
(m_impl_IsValidGame a0 v5).bind fun v6 =>
bif !v6 then
(some (0, false, []))
else
(some (a0, true, v5)))
theorem w_impl_made_impl_Restrict_1 (a0 : Int) (a1 : List Int) (a2 : Int) (a3 : List Int) (r : Int × Bool × (List Int)) (h : m_impl_made_impl_Restrict_1 a0 a1 a2 a3 = some r) : AM.Spec Try.prog 65 [.int .i64 a0, .func 78 [] [.pbox [.list (.ints a1)] 0, .pbox [.int .i64 a2, .list (.ints a3)] 0]] [] (.tuple [.agg [.int .i64 r.1, .sl 1000 0], .bool r.2.1]) [(1000, .arr 3 0 0 (.ints r.2.2))] := by
  refine spec_of (E := E65_impl_made) Try.func65 rfl rfl rfl rfl ?_
  refine Tri.run 2 [] [.keep [0, 1, 4, 6] [4, 6], .ownc 4 1 1100 3, .ownc 6 1 1101 3, .keep [0, 1, 4, 6] [4, 6, 1100, 1101]] (K' := [.code [(2, 0), (0, 0)] 0, .code [(2, 0)] 1, .code [] 3]) (σ' := ⟨[(0, .int .i64 a0), (1, .func 78 [] [.pbox [.list (.ints a1)] 0, .pbox [.int .i64 a2, .list (.ints a3)] 0]), (4, .ptr 4 0), (6, .ptr 6 0)], [(4, .box [.int .i64 0, .sl 1100 0]), (6, .box [.int .i64 a0, .sl 1101 0]), (1100, .arr 3 0 0 (.ints [])), (1101, .arr 3 0 0 (.ints []))]⟩) rfl trivial rfl ?_
  obtain ⟨v1, hk1, h⟩ := bind_some h
  refine Tri.run 1 [.r ⟨[], .int .i64 v1, []⟩] [.keep [1, 4, 6, 11, 12] [4, 6, 1100, 1101]] (K' := [.code [(2, 0), (1, 0)] 0, .blk 0, .code [] 3]) (σ' := ⟨[(1, .func 78 [] [.pbox [.list (.ints a1)] 0, .pbox [.int .i64 a2, .list (.ints a3)] 0]), (4, .ptr 4 0), (6, .ptr 6 0), (11, .int .i64 v1), (12, .int .i64 (0 : Int))], [(4, .box [.int .i64 0, .sl 1100 0]), (6, .box [.int .i64 a0, .sl 1101 0]), (1100, .arr 3 0 0 (.ints [])), (1101, .arr 3 0 0 (.ints []))]⟩) rfl ⟨(fun _ => (w_impl_CountCoalitions a0 v1 hk1)), trivial⟩ rfl ?_
  obtain ⟨v5, hk5, h⟩ := bind_some h
  refine Tri.loop (K1 := [.code [(2, 0), (1, 0), (0, 0)] 0]) (K2 := [.blk 0, .code [] 3]) (fun (v2, v3) => ⟨[(1, .func 78 [] [.pbox [.list (.ints a1)] 0, .pbox [.int .i64 a2, .list (.ints a3)] 0]), (4, .ptr 4 0), (6, .ptr 6 0), (11, .int .i64 v1), (12, .int .i64 v2)], [(4, .box [.int .i64 0, .sl 1100 0]), (6, .box [.int .i64 a0, .sl 1101 0]), (1100, .arr 3 0 0 (.ints [])), (1101, .arr 3 0 0 (.ints v3))]⟩) (fun x e σ' => match x with | v5 => e = .exit 0 ∧ σ' = ⟨[(4, .ptr 4 0), (6, .ptr 6 0)], [(4, .box [.int .i64 0, .sl 1100 0]), (6, .box [.int .i64 a0, .sl 1101 0]), (1100, .arr 3 0 0 (.ints [])), (1101, .arr 3 0 0 (.ints v5))]⟩) hk5 rfl rfl ?_ ?_
  · intro s x hs
    clear h
    have h := hs
    clear hs
    obtain ⟨v2, v3⟩ := s
    refine Tri.run 1 [] [.keep [1, 4, 6, 11, 12, 13] [4, 6, 1100, 1101]] (K' := [.code [(2, 0), (1, 0), (0, 0), (1, 0)] 0, .code [(2, 0), (1, 0), (0, 0)] 2]) (σ' := ⟨[(1, .func 78 [] [.pbox [.list (.ints a1)] 0, .pbox [.int .i64 a2, .list (.ints a3)] 0]), (4, .ptr 4 0), (6, .ptr 6 0), (11, .int .i64 v1), (12, .int .i64 v2), (13, .bool (decide (v2 < v1)))], [(4, .box [.int .i64 0, .sl 1100 0]), (6, .box [.int .i64 a0, .sl 1101 0]), (1100, .arr 3 0 0 (.ints [])), (1101, .arr 3 0 0 (.ints v3))]⟩) rfl trivial rfl ?_
    rcases bif_some h with ⟨hd2, h⟩ | ⟨hd2, h⟩
    · refine Tri.run 2 [.g true] [.keep [1, 4, 6, 7, 11, 12] [4, 6, 1100, 1101]] (K' := [.code [(2, 0), (1, 0), (0, 0), (2, 0), (0, 0)] 1, .blk 1, .code [(2, 0), (1, 0), (0, 0)] 3]) (σ' := ⟨[(1, .func 78 [] [.pbox [.list (.ints a1)] 0, .pbox [.int .i64 a2, .list (.ints a3)] 0]), (4, .ptr 4 0), (6, .ptr 6 0), (7, .int .i64 v2), (11, .int .i64 v1), (12, .int .i64 v2)], [(4, .box [.int .i64 0, .sl 1100 0]), (6, .box [.int .i64 a0, .sl 1101 0]), (1100, .arr 3 0 0 (.ints [])), (1101, .arr 3 0 0 (.ints v3))]⟩) rfl ⟨hd2, trivial⟩ rfl ?_
      obtain ⟨v4, hk3, h⟩ := bind_some h
      obtain ⟨hg4, h⟩ := grd_some h
      refine Tri.run 2 [.r ⟨[], .int .i64 v4, []⟩] [.rever 1101, .keep [1, 4, 6, 11, 12] [4, 6, 1100, 1101]] (K' := []) (σ' := ⟨[(1, .func 78 [] [.pbox [.list (.ints a1)] 0, .pbox [.int .i64 a2, .list (.ints a3)] 0]), (4, .ptr 4 0), (6, .ptr 6 0), (11, .int .i64 v1), (12, .int .i64 (IntKind.i64.wrap (v2 + (1 : Int))))], [(4, .box [.int .i64 0, .sl 1100 0]), (6, .box [.int .i64 a0, .sl 1101 0]), (1100, .arr 3 0 0 (.ints [])), (1101, .arr 3 0 0 (.ints (v3 ++ [v4])))]⟩) rfl ⟨hg4, (fun _ => (w_impl_Restrict_1 v2 a1 a2 a3 v4 hk3)), trivial⟩ rfl ?_
      have h := Option.some.inj h
      subst h
      exact Tri.nil ⟨rfl, rfl⟩
    · refine Tri.run 1 [.g false] [.keep [4, 6] [4, 6, 1100, 1101]] (K' := [.code [(2, 0), (1, 0), (0, 0), (1, 0), (0, 1)] 0, .code [(2, 0), (1, 0), (0, 0)] 2]) (σ' := ⟨[(4, .ptr 4 0), (6, .ptr 6 0)], [(4, .box [.int .i64 0, .sl 1100 0]), (6, .box [.int .i64 a0, .sl 1101 0]), (1100, .arr 3 0 0 (.ints [])), (1101, .arr 3 0 0 (.ints v3))]⟩) rfl ⟨hd2, trivial⟩ rfl ?_
      have h := Option.some.inj h
      subst h
      exact Tri.out 0 rfl ⟨nofun, rfl, rfl⟩
  · intro e σ' hne hq
    obtain ⟨rfl, rfl⟩ := hq
    refine TriX.exit (K' := [.code [] 3]) rfl ?_
    obtain ⟨v6, hk6, h⟩ := bind_some h
    refine Tri.run 1 [.r ⟨[], .bool v6, []⟩] [.keep [4, 6, 26] [4, 6, 1100, 1101]] (K' := [.code [(3, 0)] 1, .code [] 4]) (σ' := ⟨[(4, .ptr 4 0), (6, .ptr 6 0), (26, .bool (!v6))], [(4, .box [.int .i64 0, .sl 1100 0]), (6, .box [.int .i64 a0, .sl 1101 0]), (1100, .arr 3 0 0 (.ints [])), (1101, .arr 3 0 0 (.ints v5))]⟩) rfl ⟨(fun _ => (w_impl_IsValidGame a0 v5 v6 hk6)), trivial⟩ rfl ?_
    rcases bif_some h with ⟨hd7, h⟩ | ⟨hd7, h⟩
    · refine Tri.run 2 [.g true] [.ownc 4 1 1102 3, .swap 1102 1000, .keep [4, 5] [4, 1000]] (K' := [.code [(3, 0), (1, 0)] 1, .code [] 4]) (σ' := ⟨[(4, .ptr 4 0), (5, .bool false)], [(4, .box [.int .i64 0, .sl 1000 0]), (1000, .arr 3 0 0 (.ints []))]⟩) rfl ⟨hd7, trivial⟩ rfl ?_
      have h := Option.some.inj h
      subst h
      exact Tri.ret rfl ⟨.inl rfl, rfl, rfl⟩
    · refine Tri.run 2 [.g false] [.swap 1101 1000, .keep [4, 5] [4, 1000]] (K' := [.code [] 5]) (σ' := ⟨[(4, .ptr 4 0), (5, .bool true)], [(4, .box [.int .i64 a0, .sl 1000 0]), (1000, .arr 3 0 0 (.ints v5))]⟩) rfl ⟨hd7, trivial⟩ rfl ?_
      have h := Option.some.inj h
      subst h
      exact Tri.ret rfl ⟨.inl rfl, rfl, rfl⟩
/-! impl.Restrict -/
noncomputable def E32_impl_Restrict : Env := ⟨Try.prog, tys, (Try.f32.body).getD .skip, 28, tysOk, mixedOk⟩
abbrev q_impl_Restrict (r : Int × Bool × (List Int)) (σ' : ASt) : Prop := resAV E32_impl_Restrict.T σ' Try.f32.results.toList = some (.tuple [.agg [.int .i64 r.1, .sl 1000 0], .bool r.2.1]) ∧ keepO σ'.ob (namesO [(1000, .arr 3 0 0 (.ints r.2.2))]) = [(1000, .arr 3 0 0 (.ints r.2.2))]
noncomputable def m_impl_Restrict (a0 : Int) (a1 : List Int) (a2 : Int) : Option (Int × Bool × (List Int)) :=
(m_impl_IsValidGame a0 a1).bind fun v1 =>
bif !v1 then
(some (0, false, []))
else
((m_impl_within a2 (1 : Int) (IntKind.i64.wrap ((a1.length : Int) - (1 : Int)))).bind fun v2 =>
bif !v2 then
(some (0, false, []))
else
((m_impl_MembersOf a2).bind fun v3 =>
(m_impl_made_impl_Restrict_1 (v3.length : Int) v3 a0 a1).bind fun (v4, v5, v6) =>
some (v4, v5, v6)))
theorem w_impl_Restrict (a0 : Int) (a1 : List Int) (a2 : Int) (r : Int × Bool × (List Int)) (h : m_impl_Restrict a0 a1 a2 = some r) : AM.Spec Try.prog 32 [.agg [.int .i64 a0, .list (.ints a1)], .int .i64 a2] [] (.tuple [.agg [.int .i64 r.1, .sl 1000 0], .bool r.2.1]) [(1000, .arr 3 0 0 (.ints r.2.2))] := by
  refine spec_of (E := E32_impl_Restrict) Try.func32 rfl rfl rfl rfl ?_
  refine Tri.run 1 [] [.keep [1, 2, 4] [2, 4], .ownc 4 1 1100 3, .keep [1, 2, 4] [2, 4, 1100]] (K' := [.code [(1, 0), (0, 0)] 0, .code [(1, 0)] 1, .code [] 2]) (σ' := ⟨[(1, .int .i64 a2), (2, .ptr 2 0), (4, .ptr 4 0)], [(2, .box [.int .i64 a0, .list (.ints a1)]), (4, .box [.int .i64 0, .sl 1100 0]), (1100, .arr 3 0 0 (.ints []))]⟩) rfl trivial rfl ?_
  obtain ⟨v1, hk1, h⟩ := bind_some h
  rcases bif_some h with ⟨hd2, h⟩ | ⟨hd2, h⟩
  · refine Tri.run 1 [.r ⟨[], .bool v1, []⟩, .g true] [.keep [1, 2, 4, 18] [2, 4, 1100]] (K' := [.code [(1, 0)] 1, .code [] 2]) (σ' := ⟨[(1, .int .i64 a2), (2, .ptr 2 0), (4, .ptr 4 0), (18, .bool true)], [(2, .box [.int .i64 a0, .list (.ints a1)]), (4, .box [.int .i64 0, .sl 1100 0]), (1100, .arr 3 0 0 (.ints []))]⟩) rfl ⟨hd2, (fun _ => (w_impl_IsValidGame a0 a1 v1 hk1)), trivial⟩ rfl ?_
    refine Tri.run 2 [.g true] [.ownc 4 1 1101 3, .swap 1101 1000, .keep [4, 5] [4, 1000]] (K' := [.code [(1, 0), (1, 0)] 1, .code [] 2]) (σ' := ⟨[(4, .ptr 4 0), (5, .bool false)], [(4, .box [.int .i64 0, .sl 1000 0]), (1000, .arr 3 0 0 (.ints []))]⟩) rfl ⟨rfl, trivial⟩ rfl ?_
    have h := Option.some.inj h
    subst h
    exact Tri.ret rfl ⟨.inl rfl, rfl, rfl⟩
  · obtain ⟨v2, hk3, h⟩ := bind_some h
    refine Tri.run 1 [.r ⟨[], .bool v1, []⟩, .g false, .r ⟨[], .bool v2, []⟩] [.keep [1, 2, 4, 18] [2, 4, 1100]] (K' := [.code [(1, 0)] 1, .code [] 2]) (σ' := ⟨[(1, .int .i64 a2), (2, .ptr 2 0), (4, .ptr 4 0), (18, .bool (!v2))], [(2, .box [.int .i64 a0, .list (.ints a1)]), (4, .box [.int .i64 0, .sl 1100 0]), (1100, .arr 3 0 0 (.ints []))]⟩) rfl ⟨(fun _ => (w_impl_within a2 (1 : Int) (IntKind.i64.wrap ((a1.length : Int) - (1 : Int))) v2 hk3)), hd2, (fun _ => (w_impl_IsValidGame a0 a1 v1 hk1)), trivial⟩ rfl ?_
    rcases bif_some h with ⟨hd4, h⟩ | ⟨hd4, h⟩
    · refine Tri.run 2 [.g true] [.ownc 4 1 1102 3, .swap 1102 1000, .keep [4, 5] [4, 1000]] (K' := [.code [(1, 0), (1, 0)] 1, .code [] 2]) (σ' := ⟨[(4, .ptr 4 0), (5, .bool false)], [(4, .box [.int .i64 0, .sl 1000 0]), (1000, .arr 3 0 0 (.ints []))]⟩) rfl ⟨hd4, trivial⟩ rfl ?_
      have h := Option.some.inj h
      subst h
      exact Tri.ret rfl ⟨.inl rfl, rfl, rfl⟩
    · obtain ⟨v3, hk5, h⟩ := bind_some h
      refine Tri.run 2 [.g false, .r ⟨[], .sl 1103 0, [(1103, .arr 3 0 0 (.ints v3))]⟩] [.keep [2, 4, 6] [2, 4, 6, 1100, 1103]] (K' := [.code [(3, 0)] 0, .code [] 4]) (σ' := ⟨[(2, .ptr 2 0), (4, .ptr 4 0), (6, .ptr 6 0)], [(2, .box [.int .i64 a0, .list (.ints a1)]), (4, .box [.int .i64 0, .sl 1100 0]), (6, .box [.sl 1103 0]), (1100, .arr 3 0 0 (.ints [])), (1103, .arr 3 0 0 (.ints v3))]⟩) rfl ⟨(fun _ => ((w_impl_MembersOf a2 v3 hk5).swap 1000 1103)), hd4, trivial⟩ rfl ?_
      obtain ⟨⟨v4, v5, v6⟩, hk6, h⟩ := bind_some h
      refine Tri.run 1 [.r ⟨[], .tuple [.agg [.int .i64 v4, .sl 1104 0], .bool v5], [(1104, .arr 3 0 0 (.ints v6))]⟩] [.swap 1104 1000, .keep [4, 5] [4, 1000]] (K' := [.code [] 4]) (σ' := ⟨[(4, .ptr 4 0), (5, .bool v5)], [(4, .box [.int .i64 v4, .sl 1000 0]), (1000, .arr 3 0 0 (.ints v6))]⟩) rfl ⟨(fun _ => ((w_impl_made_impl_Restrict_1 (v3.length : Int) v3 a0 a1 (v4, v5, v6) hk6).swap 1000 1104)), trivial⟩ rfl ?_
      have h := Option.some.inj h
      subst h
      exact Tri.ret rfl ⟨.inl rfl, rfl, rfl⟩
/-! spec.l2Good -/
noncomputable def E103_spec_l2Good : Env := ⟨Try.prog, tys, (Try.f103.body).getD .skip, 5, tysOk, mixedOk⟩
abbrev q_spec_l2Good (r : Bool) (σ' : ASt) : Prop := resAV E103_spec_l2Good.T σ' Try.f103.results.toList = some (.bool r) ∧ keepO σ'.ob (namesO []) = []
noncomputable def m_spec_l2Good (a0 : Int) : Option Bool :=
(m_spec_l1In a0 (0 : Int) (31 : Int)).bind fun v1 =>
some v1
theorem w_spec_l2Good (a0 : Int) (r : Bool) (h : m_spec_l2Good a0 = some r) : AM.Spec Try.prog 103 [.int .i64 a0] [] (.bool r) [] := by
  refine spec_of (E := E103_spec_l2Good) Try.func103 rfl rfl rfl rfl ?_
  refine Tri.run 1 [] [.keep [0] []] (K' := [.code [(1, 0)] 0, .code [] 2]) (σ' := ⟨[(0, .int .i64 a0)], []⟩) rfl trivial rfl ?_
  obtain ⟨v1, hk1, h⟩ := bind_some h
  refine Tri.run 1 [.r ⟨[], .bool v1, []⟩] [.keep [2] []] (K' := [.code [] 2]) (σ' := ⟨[(2, .bool v1)], []⟩) rfl ⟨(fun _ => (w_spec_l1In a0 (0 : Int) (31 : Int) v1 hk1)), trivial⟩ rfl ?_
  have h := Option.some.inj h
  subst h
  exact Tri.ret rfl ⟨.inl rfl, rfl, rfl⟩
/-! spec.MembersOf -/
noncomputable def E79_spec_MembersOf : Env := ⟨Try.prog, tys, (Try.f79.body).getD .skip, 22, tysOk, mixedOk⟩
abbrev q_spec_MembersOf (r : List Int) (σ' : ASt) : Prop := resAV E79_spec_MembersOf.T σ' Try.f79.results.toList = some (.sl 1000 0) ∧ keepO σ'.ob (namesO [(1000, .arr 3 0 0 (.ints r))]) = [(1000, .arr 3 0 0 (.ints r))]
noncomputable def l_spec_MembersOf_0 (a0 : Int) : (Int × (List Int)) → Option ((Int × (List Int)) ⊕ ((List Int)))
  | (v1, v2) => (
bif decide (v1 < (5 : Int)) then
((m_spec_l2Good a0).bind fun v3 =>
bif v3 then
((m_spec_HasPlayer a0 v1).bind fun v4 =>
bif v4 then
(grd (v2.length + ([v1] : List Int).length ≤ room) <|
some (.inl (IntKind.i64.wrap (v1 + (1 : Int)), v2 ++ [v1])))
else
(some (.inl (IntKind.i64.wrap (v1 + (1 : Int)), v2))))
else
(some (.inr v2)))
else
(some (.inr v2)))
noncomputable def m_spec_MembersOf (a0 : Int) : Option (List Int) :=
(iter (l_spec_MembersOf_0 a0) ((0 : Int), [])).bind fun
| v5 => (
some v5)
theorem w_spec_MembersOf (a0 : Int) (r : List Int) (h : m_spec_MembersOf a0 = some r) : AM.Spec Try.prog 79 [.int .i64 a0] [] (.sl 1000 0) [(1000, .arr 3 0 0 (.ints r))] := by
  refine spec_of (E := E79_spec_MembersOf) Try.func79 rfl rfl rfl rfl ?_
  refine Tri.run 3 [] [.keep [0, 3, 4] [5]] (K' := [.code [(2, 0), (1, 0)] 0, .blk 0, .code [] 3]) (σ' := ⟨[(0, .int .i64 a0), (3, .sl 5 0), (4, .int .i64 (0 : Int))], [(5, .arr 3 0 0 (.ints []))]⟩) rfl trivial rfl ?_
  obtain ⟨v5, hk7, h⟩ := bind_some h
  refine Tri.loop (K1 := [.code [(2, 0), (1, 0), (0, 0)] 0]) (K2 := [.blk 0, .code [] 3]) (fun (v1, v2) => ⟨[(0, .int .i64 a0), (3, .sl 5 0), (4, .int .i64 v1)], [(5, .arr 3 0 0 (.ints v2))]⟩) (fun x e σ' => match x with | v5 => e = .exit 0 ∧ σ' = ⟨[(3, .sl 5 0)], [(5, .arr 3 0 0 (.ints v5))]⟩) hk7 rfl rfl ?_ ?_
  · intro s x hs
    clear h
    have h := hs
    clear hs
    obtain ⟨v1, v2⟩ := s
    rcases bif_some h with ⟨hd1, h⟩ | ⟨hd1, h⟩
    · obtain ⟨v3, hk2, h⟩ := bind_some h
      refine Tri.run 1 [.g true, .r ⟨[], .bool v3, []⟩] [.keep [0, 3, 4, 11] [5]] (K' := [.code [(2, 0), (1, 0), (0, 0), (0, 0)] 1, .code [(2, 0), (1, 0), (0, 0)] 1]) (σ' := ⟨[(0, .int .i64 a0), (3, .sl 5 0), (4, .int .i64 v1), (11, .bool v3)], [(5, .arr 3 0 0 (.ints v2))]⟩) rfl ⟨(fun _ => (w_spec_l2Good a0 v3 hk2)), hd1, trivial⟩ rfl ?_
      rcases bif_some h with ⟨hd3, h⟩ | ⟨hd3, h⟩
      · obtain ⟨v4, hk4, h⟩ := bind_some h
        refine Tri.run 2 [.g true, .r ⟨[], .bool v4, []⟩] [.keep [0, 3, 4, 16] [5]] (K' := [.code [(2, 0), (1, 0), (0, 0), (1, 0), (0, 0)] 1, .blk 1, .code [(2, 0), (1, 0), (0, 0)] 2]) (σ' := ⟨[(0, .int .i64 a0), (3, .sl 5 0), (4, .int .i64 v1), (16, .bool v4)], [(5, .arr 3 0 0 (.ints v2))]⟩) rfl ⟨(fun _ => (w_spec_HasPlayer a0 v1 v4 hk4)), hd3, trivial⟩ rfl ?_
        rcases bif_some h with ⟨hd5, h⟩ | ⟨hd5, h⟩
        · obtain ⟨hg6, h⟩ := grd_some h
          refine Tri.run 3 [.g true] [.rever 5, .keep [0, 3, 4] [5]] (K' := []) (σ' := ⟨[(0, .int .i64 a0), (3, .sl 5 0), (4, .int .i64 (IntKind.i64.wrap (v1 + (1 : Int))))], [(5, .arr 3 0 0 (.ints (v2 ++ [v1])))]⟩) rfl ⟨hg6, hd5, trivial⟩ rfl ?_
          have h := Option.some.inj h
          subst h
          exact Tri.nil ⟨rfl, rfl⟩
        · refine Tri.run 2 [.g false] [.keep [0, 3, 4] [5]] (K' := []) (σ' := ⟨[(0, .int .i64 a0), (3, .sl 5 0), (4, .int .i64 (IntKind.i64.wrap (v1 + (1 : Int))))], [(5, .arr 3 0 0 (.ints v2))]⟩) rfl ⟨hd5, trivial⟩ rfl ?_
          have h := Option.some.inj h
          subst h
          exact Tri.nil ⟨rfl, rfl⟩
      · refine Tri.run 1 [.g false] [.keep [3] [5]] (K' := [.code [(2, 0), (1, 0), (0, 0), (0, 0), (1, 1)] 0, .code [(2, 0), (1, 0), (0, 0)] 1]) (σ' := ⟨[(3, .sl 5 0)], [(5, .arr 3 0 0 (.ints v2))]⟩) rfl ⟨hd3, trivial⟩ rfl ?_
        have h := Option.some.inj h
        subst h
        exact Tri.out 0 rfl ⟨nofun, rfl, rfl⟩
    · refine Tri.run 1 [.g false] [.keep [0, 3, 4, 11] [5]] (K' := [.code [(2, 0), (1, 0), (0, 0), (0, 0)] 1, .code [(2, 0), (1, 0), (0, 0)] 1]) (σ' := ⟨[(0, .int .i64 a0), (3, .sl 5 0), (4, .int .i64 v1), (11, .bool false)], [(5, .arr 3 0 0 (.ints v2))]⟩) rfl ⟨hd1, trivial⟩ rfl ?_
      refine Tri.run 1 [.g false] [.keep [3] [5]] (K' := [.code [(2, 0), (1, 0), (0, 0), (0, 0), (1, 1)] 0, .code [(2, 0), (1, 0), (0, 0)] 1]) (σ' := ⟨[(3, .sl 5 0)], [(5, .arr 3 0 0 (.ints v2))]⟩) rfl ⟨rfl, trivial⟩ rfl ?_
      have h := Option.some.inj h
      subst h
      exact Tri.out 0 rfl ⟨nofun, rfl, rfl⟩
  · intro e σ' hne hq
    obtain ⟨rfl, rfl⟩ := hq
    refine TriX.exit (K' := [.code [] 3]) rfl ?_
    refine Tri.run 1 [] [.swap 5 1000, .keep [2] [1000]] (K' := [.code [] 4]) (σ' := ⟨[(2, .sl 1000 0)], [(1000, .arr 3 0 0 (.ints v5))]⟩) rfl trivial rfl ?_
    have h := Option.some.inj h
    subst h
    exact Tri.ret rfl ⟨.inl rfl, rfl, rfl⟩
/-! spec.l8Wide -/
noncomputable def E80_spec_l8Wide : Env := ⟨Try.prog, tys, (Try.f80.body).getD .skip, 24, tysOk, mixedOk⟩
abbrev q_spec_l8Wide (r : Int) (σ' : ASt) : Prop := resAV E80_spec_l8Wide.T σ' Try.f80.results.toList = some (.int .i64 r) ∧ keepO σ'.ob (namesO []) = []
noncomputable def l_spec_l8Wide_0 (a0 : List Int) (a1 : Int) : (Int × Int) → Option ((Int × Int) ⊕ Int)
  | (v1, v2) => (
bif decide (v2 < (a0.length : Int)) then
((m_spec_HasPlayer a1 v2).bind fun v3 =>
bif v3 then
(grd ((0 : Int) ≤ v2 ∧ v2 < (a0.length : Int)) <|
(m_spec_l2Bit (a0.getD v2.toNat 0)).bind fun v4 =>
some (.inl (IntKind.i64.wrap (v1 + v4), IntKind.i64.wrap (v2 + (1 : Int)))))
else
(some (.inl (v1, IntKind.i64.wrap (v2 + (1 : Int))))))
else
(some (.inr v1)))
noncomputable def m_spec_l8Wide (a0 : List Int) (a1 : Int) : Option Int :=
(iter (l_spec_l8Wide_0 a0 a1) ((0 : Int), (0 : Int))).bind fun
| v5 => (
some v5)
theorem w_spec_l8Wide (a0 : List Int) (a1 : Int) (r : Int) (h : m_spec_l8Wide a0 a1 = some r) : AM.Spec Try.prog 80 [.list (.ints a0), .int .i64 a1] [] (.int .i64 r) [] := by
  refine spec_of (E := E80_spec_l8Wide) Try.func80 rfl rfl rfl rfl ?_
  refine Tri.run 3 [] [.keep [0, 1, 5, 6] []] (K' := [.code [(2, 0), (1, 0)] 0, .blk 0, .code [] 3]) (σ' := ⟨[(0, .list (.ints a0)), (1, .int .i64 a1), (5, .int .i64 (0 : Int)), (6, .int .i64 (0 : Int))], []⟩) rfl trivial rfl ?_
  obtain ⟨v5, hk6, h⟩ := bind_some h
  refine Tri.loop (K1 := [.code [(2, 0), (1, 0), (0, 0)] 0]) (K2 := [.blk 0, .code [] 3]) (fun (v1, v2) => ⟨[(0, .list (.ints a0)), (1, .int .i64 a1), (5, .int .i64 v1), (6, .int .i64 v2)], []⟩) (fun x e σ' => match x with | v5 => e = .exit 0 ∧ σ' = ⟨[(5, .int .i64 v5)], []⟩) hk6 rfl rfl ?_ ?_
  · intro s x hs
    clear h
    have h := hs
    clear hs
    obtain ⟨v1, v2⟩ := s
    refine Tri.run 1 [] [.keep [0, 1, 5, 6, 10] []] (K' := [.code [(2, 0), (1, 0), (0, 0), (0, 0)] 1, .code [(2, 0), (1, 0), (0, 0)] 1]) (σ' := ⟨[(0, .list (.ints a0)), (1, .int .i64 a1), (5, .int .i64 v1), (6, .int .i64 v2), (10, .bool (decide (v2 < (a0.length : Int))))], []⟩) rfl trivial rfl ?_
    rcases bif_some h with ⟨hd1, h⟩ | ⟨hd1, h⟩
    · obtain ⟨v3, hk2, h⟩ := bind_some h
      refine Tri.run 2 [.g true, .r ⟨[], .bool v3, []⟩] [.keep [0, 1, 5, 6, 15] []] (K' := [.code [(2, 0), (1, 0), (0, 0), (1, 0), (0, 0)] 1, .blk 1, .code [(2, 0), (1, 0), (0, 0)] 2]) (σ' := ⟨[(0, .list (.ints a0)), (1, .int .i64 a1), (5, .int .i64 v1), (6, .int .i64 v2), (15, .bool v3)], []⟩) rfl ⟨(fun _ => (w_spec_HasPlayer a1 v2 v3 hk2)), hd1, trivial⟩ rfl ?_
      rcases bif_some h with ⟨hd3, h⟩ | ⟨hd3, h⟩
      · obtain ⟨hg4, h⟩ := grd_some h
        obtain ⟨v4, hk5, h⟩ := bind_some h
        refine Tri.run 3 [.g true, .r ⟨[], .int .i64 v4, []⟩] [.keep [0, 1, 5, 6] []] (K' := []) (σ' := ⟨[(0, .list (.ints a0)), (1, .int .i64 a1), (5, .int .i64 (IntKind.i64.wrap (v1 + v4))), (6, .int .i64 (IntKind.i64.wrap (v2 + (1 : Int))))], []⟩) rfl ⟨(fun _ => (w_spec_l2Bit (a0.getD v2.toNat 0) v4 hk5)), hg4, hd3, trivial⟩ rfl ?_
        have h := Option.some.inj h
        subst h
        exact Tri.nil ⟨rfl, rfl⟩
      · refine Tri.run 2 [.g false] [.keep [0, 1, 5, 6] []] (K' := []) (σ' := ⟨[(0, .list (.ints a0)), (1, .int .i64 a1), (5, .int .i64 v1), (6, .int .i64 (IntKind.i64.wrap (v2 + (1 : Int))))], []⟩) rfl ⟨hd3, trivial⟩ rfl ?_
        have h := Option.some.inj h
        subst h
        exact Tri.nil ⟨rfl, rfl⟩
    · refine Tri.run 1 [.g false] [.keep [5] []] (K' := [.code [(2, 0), (1, 0), (0, 0), (0, 0), (1, 1)] 0, .code [(2, 0), (1, 0), (0, 0)] 1]) (σ' := ⟨[(5, .int .i64 v1)], []⟩) rfl ⟨hd1, trivial⟩ rfl ?_
      have h := Option.some.inj h
      subst h
      exact Tri.out 0 rfl ⟨nofun, rfl, rfl⟩
  · intro e σ' hne hq
    obtain ⟨rfl, rfl⟩ := hq
    refine TriX.exit (K' := [.code [] 3]) rfl ?_
    refine Tri.run 1 [] [.keep [4] []] (K' := [.code [] 4]) (σ' := ⟨[(4, .int .i64 v5)], []⟩) rfl trivial rfl ?_
    have h := Option.some.inj h
    subst h
    exact Tri.ret rfl ⟨.inl rfl, rfl, rfl⟩
/-! spec.Restrict -/
noncomputable def E33_spec_Restrict : Env := ⟨Try.prog, tys, (Try.f33.body).getD .skip, 49, tysOk, mixedOk⟩
abbrev q_spec_Restrict (r : Int × Bool × (List Int)) (σ' : ASt) : Prop := resAV E33_spec_Restrict.T σ' Try.f33.results.toList = some (.tuple [.agg [.int .i64 r.1, .sl 1000 0], .bool r.2.1]) ∧ keepO σ'.ob (namesO [(1000, .arr 3 0 0 (.ints r.2.2))]) = [(1000, .arr 3 0 0 (.ints r.2.2))]
noncomputable def l_spec_Restrict_0 (a1 : List Int) (v3 : List Int) (v4 : Int) : (Int × (List Int)) → Option ((Int × (List Int)) ⊕ ((List Int)))
  | (v5, v6) => (
bif decide (v5 < v4) then
((m_spec_l8Wide v3 v5).bind fun v7 =>
grd ((0 : Int) ≤ v7 ∧ v7 < (a1.length : Int)) <|
grd (v6.length + ([a1.getD v7.toNat 0] : List Int).length ≤ room) <|
some (.inl (IntKind.i64.wrap (v5 + (1 : Int)), v6 ++ [a1.getD v7.toNat 0])))
else
(some (.inr v6)))
noncomputable def m_spec_Restrict (a0 : Int) (a1 : List Int) (a2 : Int) : Option (Int × Bool × (List Int)) :=
(m_spec_IsValidGame a0 a1).bind fun v1 =>
bif !v1 then
(some (0, false, []))
else
((m_spec_l1In a2 (1 : Int) (IntKind.i64.wrap ((a1.length : Int) - (1 : Int)))).bind fun v2 =>
bif !v2 then
(some (0, false, []))
else
((m_spec_MembersOf a2).bind fun v3 =>
(m_spec_CountCoalitions (v3.length : Int)).bind fun v4 =>
(iter (l_spec_Restrict_0 a1 v3 v4) ((0 : Int), [])).bind fun
| v8 => (
some ((v3.length : Int), true, v8))))
theorem w_spec_Restrict (a0 : Int) (a1 : List Int) (a2 : Int) (r : Int × Bool × (List Int)) (h : m_spec_Restrict a0 a1 a2 = some r) : AM.Spec Try.prog 33 [.agg [.int .i64 a0, .list (.ints a1)], .int .i64 a2] [] (.tuple [.agg [.int .i64 r.1, .sl 1000 0], .bool r.2.1]) [(1000, .arr 3 0 0 (.ints r.2.2))] := by
  refine spec_of (E := E33_spec_Restrict) Try.func33 rfl rfl rfl rfl ?_
  refine Tri.run 1 [] [.keep [1, 2, 4] [2, 4], .ownc 4 1 1100 3, .keep [1, 2, 4] [2, 4, 1100]] (K' := [.code [(1, 0), (0, 0)] 0, .code [(1, 0)] 1, .code [] 2]) (σ' := ⟨[(1, .int .i64 a2), (2, .ptr 2 0), (4, .ptr 4 0)], [(2, .box [.int .i64 a0, .list (.ints a1)]), (4, .box [.int .i64 0, .sl 1100 0]), (1100, .arr 3 0 0 (.ints []))]⟩) rfl trivial rfl ?_
  obtain ⟨v1, hk1, h⟩ := bind_some h
  rcases bif_some h with ⟨hd2, h⟩ | ⟨hd2, h⟩
  · refine Tri.run 1 [.r ⟨[], .bool v1, []⟩, .g true] [.keep [1, 2, 4, 21] [2, 4, 1100]] (K' := [.code [(1, 0)] 1, .code [] 2]) (σ' := ⟨[(1, .int .i64 a2), (2, .ptr 2 0), (4, .ptr 4 0), (21, .bool true)], [(2, .box [.int .i64 a0, .list (.ints a1)]), (4, .box [.int .i64 0, .sl 1100 0]), (1100, .arr 3 0 0 (.ints []))]⟩) rfl ⟨hd2, (fun _ => (w_spec_IsValidGame a0 a1 v1 hk1)), trivial⟩ rfl ?_
    refine Tri.run 2 [.g true] [.ownc 4 1 1101 3, .swap 1101 1000, .keep [4, 5] [4, 1000]] (K' := [.code [(1, 0), (1, 0)] 1, .code [] 2]) (σ' := ⟨[(4, .ptr 4 0), (5, .bool false)], [(4, .box [.int .i64 0, .sl 1000 0]), (1000, .arr 3 0 0 (.ints []))]⟩) rfl ⟨rfl, trivial⟩ rfl ?_
    have h := Option.some.inj h
    subst h
    exact Tri.ret rfl ⟨.inl rfl, rfl, rfl⟩
  · obtain ⟨v2, hk3, h⟩ := bind_some h
    refine Tri.run 1 [.r ⟨[], .bool v1, []⟩, .g false, .r ⟨[], .bool v2, []⟩] [.keep [1, 2, 4, 21] [2, 4, 1100]] (K' := [.code [(1, 0)] 1, .code [] 2]) (σ' := ⟨[(1, .int .i64 a2), (2, .ptr 2 0), (4, .ptr 4 0), (21, .bool (!v2))], [(2, .box [.int .i64 a0, .list (.ints a1)]), (4, .box [.int .i64 0, .sl 1100 0]), (1100, .arr 3 0 0 (.ints []))]⟩) rfl ⟨(fun _ => (w_spec_l1In a2 (1 : Int) (IntKind.i64.wrap ((a1.length : Int) - (1 : Int))) v2 hk3)), hd2, (fun _ => (w_spec_IsValidGame a0 a1 v1 hk1)), trivial⟩ rfl ?_
    rcases bif_some h with ⟨hd4, h⟩ | ⟨hd4, h⟩
    · refine Tri.run 2 [.g true] [.ownc 4 1 1102 3, .swap 1102 1000, .keep [4, 5] [4, 1000]] (K' := [.code [(1, 0), (1, 0)] 1, .code [] 2]) (σ' := ⟨[(4, .ptr 4 0), (5, .bool false)], [(4, .box [.int .i64 0, .sl 1000 0]), (1000, .arr 3 0 0 (.ints []))]⟩) rfl ⟨hd4, trivial⟩ rfl ?_
      have h := Option.some.inj h
      subst h
      exact Tri.ret rfl ⟨.inl rfl, rfl, rfl⟩
    · obtain ⟨v3, hk5, h⟩ := bind_some h
      refine Tri.run 3 [.g false, .r ⟨[], .sl 1103 0, [(1103, .arr 3 0 0 (.ints v3))]⟩] [.keep [2, 4, 6, 7] [2, 4, 7, 1100, 1103], .ownc 7 1 1104 3, .keep [2, 4, 6, 7] [2, 4, 7, 1100, 1103, 1104]] (K' := [.code [(4, 0)] 0, .code [] 5]) (σ' := ⟨[(2, .ptr 2 0), (4, .ptr 4 0), (6, .sl 1103 0), (7, .ptr 7 0)], [(2, .box [.int .i64 a0, .list (.ints a1)]), (4, .box [.int .i64 0, .sl 1100 0]), (7, .box [.int .i64 (v3.length : Int), .sl 1104 0]), (1100, .arr 3 0 0 (.ints [])), (1103, .arr 3 0 0 (.ints v3)), (1104, .arr 3 0 0 (.ints []))]⟩) rfl ⟨(fun _ => ((w_spec_MembersOf a2 v3 hk5).swap 1000 1103)), hd4, trivial⟩ rfl ?_
      obtain ⟨v4, hk6, h⟩ := bind_some h
      refine Tri.run 2 [.r ⟨[], .int .i64 v4, []⟩] [.keep [2, 4, 6, 7, 8, 9] [2, 4, 7, 1100, 1103, 1104]] (K' := [.code [(5, 0), (1, 0)] 0, .blk 0, .code [] 6]) (σ' := ⟨[(2, .ptr 2 0), (4, .ptr 4 0), (6, .sl 1103 0), (7, .ptr 7 0), (8, .int .i64 v4), (9, .int .i64 (0 : Int))], [(2, .box [.int .i64 a0, .list (.ints a1)]), (4, .box [.int .i64 0, .sl 1100 0]), (7, .box [.int .i64 (v3.length : Int), .sl 1104 0]), (1100, .arr 3 0 0 (.ints [])), (1103, .arr 3 0 0 (.ints v3)), (1104, .arr 3 0 0 (.ints []))]⟩) rfl ⟨(fun _ => (w_spec_CountCoalitions (v3.length : Int) v4 hk6)), trivial⟩ rfl ?_
      obtain ⟨v8, hk11, h⟩ := bind_some h
      refine Tri.loop (K1 := [.code [(5, 0), (1, 0), (0, 0)] 0]) (K2 := [.blk 0, .code [] 6]) (fun (v5, v6) => ⟨[(2, .ptr 2 0), (4, .ptr 4 0), (6, .sl 1103 0), (7, .ptr 7 0), (8, .int .i64 v4), (9, .int .i64 v5)], [(2, .box [.int .i64 a0, .list (.ints a1)]), (4, .box [.int .i64 0, .sl 1100 0]), (7, .box [.int .i64 (v3.length : Int), .sl 1104 0]), (1100, .arr 3 0 0 (.ints [])), (1103, .arr 3 0 0 (.ints v3)), (1104, .arr 3 0 0 (.ints v6))]⟩) (fun x e σ' => match x with | v8 => e = .exit 0 ∧ σ' = ⟨[(4, .ptr 4 0), (7, .ptr 7 0)], [(4, .box [.int .i64 0, .sl 1100 0]), (7, .box [.int .i64 (v3.length : Int), .sl 1104 0]), (1100, .arr 3 0 0 (.ints [])), (1104, .arr 3 0 0 (.ints v8))]⟩) hk11 rfl rfl ?_ ?_
      · intro s x hs
        clear h
        have h := hs
        clear hs
        obtain ⟨v5, v6⟩ := s
        refine Tri.run 1 [] [.keep [2, 4, 6, 7, 8, 9, 33] [2, 4, 7, 1100, 1103, 1104]] (K' := [.code [(5, 0), (1, 0), (0, 0), (0, 0)] 1, .code [(5, 0), (1, 0), (0, 0)] 1]) (σ' := ⟨[(2, .ptr 2 0), (4, .ptr 4 0), (6, .sl 1103 0), (7, .ptr 7 0), (8, .int .i64 v4), (9, .int .i64 v5), (33, .bool (decide (v5 < v4)))], [(2, .box [.int .i64 a0, .list (.ints a1)]), (4, .box [.int .i64 0, .sl 1100 0]), (7, .box [.int .i64 (v3.length : Int), .sl 1104 0]), (1100, .arr 3 0 0 (.ints [])), (1103, .arr 3 0 0 (.ints v3)), (1104, .arr 3 0 0 (.ints v6))]⟩) rfl trivial rfl ?_
        rcases bif_some h with ⟨hd7, h⟩ | ⟨hd7, h⟩
        · obtain ⟨v7, hk8, h⟩ := bind_some h
          obtain ⟨hg9, h⟩ := grd_some h
          obtain ⟨hg10, h⟩ := grd_some h
          refine Tri.run 3 [.g true, .r ⟨[], .int .i64 v7, []⟩] [.rever 1104, .keep [2, 4, 6, 7, 8, 9] [2, 4, 7, 1100, 1103, 1104]] (K' := []) (σ' := ⟨[(2, .ptr 2 0), (4, .ptr 4 0), (6, .sl 1103 0), (7, .ptr 7 0), (8, .int .i64 v4), (9, .int .i64 (IntKind.i64.wrap (v5 + (1 : Int))))], [(2, .box [.int .i64 a0, .list (.ints a1)]), (4, .box [.int .i64 0, .sl 1100 0]), (7, .box [.int .i64 (v3.length : Int), .sl 1104 0]), (1100, .arr 3 0 0 (.ints [])), (1103, .arr 3 0 0 (.ints v3)), (1104, .arr 3 0 0 (.ints (v6 ++ [a1.getD v7.toNat 0])))]⟩) rfl ⟨hg10, hg9, (fun _ => (w_spec_l8Wide v3 v5 v7 hk8)), hd7, trivial⟩ rfl ?_
          have h := Option.some.inj h
          subst h
          exact Tri.nil ⟨rfl, rfl⟩
        · refine Tri.run 1 [.g false] [.keep [4, 7] [4, 7, 1100, 1104]] (K' := [.code [(5, 0), (1, 0), (0, 0), (0, 0), (1, 1)] 0, .code [(5, 0), (1, 0), (0, 0)] 1]) (σ' := ⟨[(4, .ptr 4 0), (7, .ptr 7 0)], [(4, .box [.int .i64 0, .sl 1100 0]), (7, .box [.int .i64 (v3.length : Int), .sl 1104 0]), (1100, .arr 3 0 0 (.ints [])), (1104, .arr 3 0 0 (.ints v6))]⟩) rfl ⟨hd7, trivial⟩ rfl ?_
          have h := Option.some.inj h
          subst h
          exact Tri.out 0 rfl ⟨nofun, rfl, rfl⟩
      · intro e σ' hne hq
        obtain ⟨rfl, rfl⟩ := hq
        refine TriX.exit (K' := [.code [] 6]) rfl ?_
        refine Tri.run 1 [] [.swap 1104 1000, .keep [4, 5] [4, 1000]] (K' := [.code [] 7]) (σ' := ⟨[(4, .ptr 4 0), (5, .bool true)], [(4, .box [.int .i64 (v3.length : Int), .sl 1000 0]), (1000, .arr 3 0 0 (.ints v8))]⟩) rfl trivial rfl ?_
        have h := Option.some.inj h
        subst h
        exact Tri.ret rfl ⟨.inl rfl, rfl, rfl⟩
/-! impl.ValueOf -/
noncomputable def E13_impl_ValueOf : Env := ⟨Try.prog, tys, (Try.f13.body).getD .skip, 17, tysOk, mixedOk⟩
abbrev q_impl_ValueOf (r : Int) (σ' : ASt) : Prop := resAV E13_impl_ValueOf.T σ' Try.f13.results.toList = some (.int .i64 r) ∧ keepO σ'.ob (namesO []) = []
noncomputable def m_impl_ValueOf (_a0 : Int) (a1 : List Int) (a2 : Int) : Option Int :=
(m_impl_within a2 (0 : Int) (IntKind.i64.wrap ((a1.length : Int) - (1 : Int)))).bind fun v1 =>
bif !v1 then
(some (0 : Int))
else
(grd ((0 : Int) ≤ a2 ∧ a2 < (a1.length : Int)) <|
some (a1.getD a2.toNat 0))
theorem w_impl_ValueOf (a0 : Int) (a1 : List Int) (a2 : Int) (r : Int) (h : m_impl_ValueOf a0 a1 a2 = some r) : AM.Spec Try.prog 13 [.agg [.int .i64 a0, .list (.ints a1)], .int .i64 a2] [] (.int .i64 r) [] := by
  refine spec_of (E := E13_impl_ValueOf) Try.func13 rfl rfl rfl rfl ?_
  refine Tri.run 1 [] [.keep [1, 2] [2]] (K' := [.code [(1, 0), (0, 0)] 0, .code [(1, 0)] 1, .code [] 2]) (σ' := ⟨[(1, .int .i64 a2), (2, .ptr 2 0)], [(2, .box [.int .i64 a0, .list (.ints a1)])]⟩) rfl trivial rfl ?_
  obtain ⟨v1, hk1, h⟩ := bind_some h
  refine Tri.run 1 [.r ⟨[], .bool v1, []⟩] [.keep [1, 2, 11] [2]] (K' := [.code [(1, 0)] 1, .code [] 2]) (σ' := ⟨[(1, .int .i64 a2), (2, .ptr 2 0), (11, .bool (!v1))], [(2, .box [.int .i64 a0, .list (.ints a1)])]⟩) rfl ⟨(fun _ => (w_impl_within a2 (0 : Int) (IntKind.i64.wrap ((a1.length : Int) - (1 : Int))) v1 hk1)), trivial⟩ rfl ?_
  rcases bif_some h with ⟨hd2, h⟩ | ⟨hd2, h⟩
  · refine Tri.run 2 [.g true] [.keep [4] []] (K' := [.code [(1, 0), (1, 0)] 1, .code [] 2]) (σ' := ⟨[(4, .int .i64 (0 : Int))], []⟩) rfl ⟨hd2, trivial⟩ rfl ?_
    have h := Option.some.inj h
    subst h
    exact Tri.ret rfl ⟨.inl rfl, rfl, rfl⟩
  · obtain ⟨hg3, h⟩ := grd_some h
    refine Tri.run 2 [.g false] [.keep [4] []] (K' := [.code [] 3]) (σ' := ⟨[(4, .int .i64 (a1.getD a2.toNat 0))], []⟩) rfl ⟨hg3, hd2, trivial⟩ rfl ?_
    have h := Option.some.inj h
    subst h
    exact Tri.ret rfl ⟨.inl rfl, rfl, rfl⟩
/-! impl.SizeOf -/
noncomputable def E34_impl_SizeOf : Env := ⟨Try.prog, tys, (Try.f34.body).getD .skip, 15, tysOk, mixedOk⟩
abbrev q_impl_SizeOf (r : Int) (σ' : ASt) : Prop := resAV E34_impl_SizeOf.T σ' Try.f34.results.toList = some (.int .i64 r) ∧ keepO σ'.ob (namesO []) = []
noncomputable def l_impl_SizeOf_0 (a0 : Int) : (Int × Int) → Option ((Int × Int) ⊕ Int)
  | (v1, v2) => (
bif decide (v2 < (5 : Int)) then
((m_impl_HasPlayer a0 v2).bind fun v3 =>
bif v3 then
(some (.inl (IntKind.i64.wrap (v1 + (1 : Int)), IntKind.i64.wrap (v2 + (1 : Int)))))
else
(some (.inl (v1, IntKind.i64.wrap (v2 + (1 : Int))))))
else
(some (.inr v1)))
noncomputable def m_impl_SizeOf (a0 : Int) : Option Int :=
(iter (l_impl_SizeOf_0 a0) ((0 : Int), (0 : Int))).bind fun
| v4 => (
some v4)
theorem w_impl_SizeOf (a0 : Int) (r : Int) (h : m_impl_SizeOf a0 = some r) : AM.Spec Try.prog 34 [.int .i64 a0] [] (.int .i64 r) [] := by
  refine spec_of (E := E34_impl_SizeOf) Try.func34 rfl rfl rfl rfl ?_
  refine Tri.run 3 [] [.keep [0, 3, 5] []] (K' := [.code [(2, 0), (1, 0)] 0, .blk 0, .code [] 3]) (σ' := ⟨[(0, .int .i64 a0), (3, .int .i64 (0 : Int)), (5, .int .i64 (0 : Int))], []⟩) rfl trivial rfl ?_
  obtain ⟨v4, hk4, h⟩ := bind_some h
  refine Tri.loop (K1 := [.code [(2, 0), (1, 0), (0, 0)] 0]) (K2 := [.blk 0, .code [] 3]) (fun (v1, v2) => ⟨[(0, .int .i64 a0), (3, .int .i64 v1), (5, .int .i64 v2)], []⟩) (fun x e σ' => match x with | v4 => e = .exit 0 ∧ σ' = ⟨[(3, .int .i64 v4)], []⟩) hk4 rfl rfl ?_ ?_
  · intro s x hs
    clear h
    have h := hs
    clear hs
    obtain ⟨v1, v2⟩ := s
    refine Tri.run 1 [] [.keep [0, 3, 5, 6] []] (K' := [.code [(2, 0), (1, 0), (0, 0), (1, 0)] 0, .code [(2, 0), (1, 0), (0, 0)] 2]) (σ' := ⟨[(0, .int .i64 a0), (3, .int .i64 v1), (5, .int .i64 v2), (6, .bool (decide (v2 < (5 : Int))))], []⟩) rfl trivial rfl ?_
    rcases bif_some h with ⟨hd1, h⟩ | ⟨hd1, h⟩
    · refine Tri.run 2 [.g true] [.keep [0, 3, 4, 5] []] (K' := [.code [(2, 0), (1, 0), (0, 0), (2, 0), (0, 0), (1, 0)] 0, .code [(2, 0), (1, 0), (0, 0), (2, 0), (0, 0)] 2, .blk 1, .code [(2, 0), (1, 0), (0, 0)] 3]) (σ' := ⟨[(0, .int .i64 a0), (3, .int .i64 v1), (4, .int .i64 v2), (5, .int .i64 v2)], []⟩) rfl ⟨hd1, trivial⟩ rfl ?_
      obtain ⟨v3, hk2, h⟩ := bind_some h
      refine Tri.run 1 [.r ⟨[], .bool v3, []⟩] [.keep [0, 3, 5, 10] []] (K' := [.code [(2, 0), (1, 0), (0, 0), (2, 0), (0, 0)] 2, .blk 1, .code [(2, 0), (1, 0), (0, 0)] 3]) (σ' := ⟨[(0, .int .i64 a0), (3, .int .i64 v1), (5, .int .i64 v2), (10, .bool v3)], []⟩) rfl ⟨(fun _ => (w_impl_HasPlayer a0 v2 v3 hk2)), trivial⟩ rfl ?_
      rcases bif_some h with ⟨hd3, h⟩ | ⟨hd3, h⟩
      · refine Tri.run 3 [.g true] [.keep [0, 3, 5] []] (K' := []) (σ' := ⟨[(0, .int .i64 a0), (3, .int .i64 (IntKind.i64.wrap (v1 + (1 : Int)))), (5, .int .i64 (IntKind.i64.wrap (v2 + (1 : Int))))], []⟩) rfl ⟨hd3, trivial⟩ rfl ?_
        have h := Option.some.inj h
        subst h
        exact Tri.nil ⟨rfl, rfl⟩
      · refine Tri.run 2 [.g false] [.keep [0, 3, 5] []] (K' := []) (σ' := ⟨[(0, .int .i64 a0), (3, .int .i64 v1), (5, .int .i64 (IntKind.i64.wrap (v2 + (1 : Int))))], []⟩) rfl ⟨hd3, trivial⟩ rfl ?_
        have h := Option.some.inj h
        subst h
        exact Tri.nil ⟨rfl, rfl⟩
    · refine Tri.run 1 [.g false] [.keep [3] []] (K' := [.code [(2, 0), (1, 0), (0, 0), (1, 0), (0, 1)] 0, .code [(2, 0), (1, 0), (0, 0)] 2]) (σ' := ⟨[(3, .int .i64 v1)], []⟩) rfl ⟨hd1, trivial⟩ rfl ?_
      have h := Option.some.inj h
      subst h
      exact Tri.out 0 rfl ⟨nofun, rfl, rfl⟩
  · intro e σ' hne hq
    obtain ⟨rfl, rfl⟩ := hq
    refine TriX.exit (K' := [.code [] 3]) rfl ?_
    refine Tri.run 1 [] [.keep [2] []] (K' := [.code [] 4]) (σ' := ⟨[(2, .int .i64 v4)], []⟩) rfl trivial rfl ?_
    have h := Option.some.inj h
    subst h
    exact Tri.ret rfl ⟨.inl rfl, rfl, rfl⟩
/-! spec.ValueOf -/
noncomputable def E36_spec_ValueOf : Env := ⟨Try.prog, tys, (Try.f36.body).getD .skip, 17, tysOk, mixedOk⟩
abbrev q_spec_ValueOf (r : Int) (σ' : ASt) : Prop := resAV E36_spec_ValueOf.T σ' Try.f36.results.toList = some (.int .i64 r) ∧ keepO σ'.ob (namesO []) = []
noncomputable def m_spec_ValueOf (_a0 : Int) (a1 : List Int) (a2 : Int) : Option Int :=
(m_spec_l1In a2 (0 : Int) (IntKind.i64.wrap ((a1.length : Int) - (1 : Int)))).bind fun v1 =>
bif !v1 then
(some (0 : Int))
else
(grd ((0 : Int) ≤ a2 ∧ a2 < (a1.length : Int)) <|
some (a1.getD a2.toNat 0))
theorem w_spec_ValueOf (a0 : Int) (a1 : List Int) (a2 : Int) (r : Int) (h : m_spec_ValueOf a0 a1 a2 = some r) : AM.Spec Try.prog 36 [.agg [.int .i64 a0, .list (.ints a1)], .int .i64 a2] [] (.int .i64 r) [] := by
  refine spec_of (E := E36_spec_ValueOf) Try.func36 rfl rfl rfl rfl ?_
  refine Tri.run 1 [] [.keep [1, 2] [2]] (K' := [.code [(1, 0), (0, 0)] 0, .code [(1, 0)] 1, .code [] 2]) (σ' := ⟨[(1, .int .i64 a2), (2, .ptr 2 0)], [(2, .box [.int .i64 a0, .list (.ints a1)])]⟩) rfl trivial rfl ?_
  obtain ⟨v1, hk1, h⟩ := bind_some h
  refine Tri.run 1 [.r ⟨[], .bool v1, []⟩] [.keep [1, 2, 11] [2]] (K' := [.code [(1, 0)] 1, .code [] 2]) (σ' := ⟨[(1, .int .i64 a2), (2, .ptr 2 0), (11, .bool (!v1))], [(2, .box [.int .i64 a0, .list (.ints a1)])]⟩) rfl ⟨(fun _ => (w_spec_l1In a2 (0 : Int) (IntKind.i64.wrap ((a1.length : Int) - (1 : Int))) v1 hk1)), trivial⟩ rfl ?_
  rcases bif_some h with ⟨hd2, h⟩ | ⟨hd2, h⟩
  · refine Tri.run 2 [.g true] [.keep [4] []] (K' := [.code [(1, 0), (1, 0)] 1, .code [] 2]) (σ' := ⟨[(4, .int .i64 (0 : Int))], []⟩) rfl ⟨hd2, trivial⟩ rfl ?_
    have h := Option.some.inj h
    subst h
    exact Tri.ret rfl ⟨.inl rfl, rfl, rfl⟩
  · obtain ⟨hg3, h⟩ := grd_some h
    refine Tri.run 2 [.g false] [.keep [4] []] (K' := [.code [] 3]) (σ' := ⟨[(4, .int .i64 (a1.getD a2.toNat 0))], []⟩) rfl ⟨hg3, hd2, trivial⟩ rfl ?_
    have h := Option.some.inj h
    subst h
    exact Tri.ret rfl ⟨.inl rfl, rfl, rfl⟩
end Go.Proofs.Ytmlfjoppaciknaa
