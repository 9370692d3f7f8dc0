/- models and walks -/
import Derived.Test.YtmlfjoppaciknaaProg
import Derived.Test.YtmlfjoppaciknaaAmB
namespace Go.Proofs.Ytmlfjoppaciknaa
open Go.AM
set_option maxRecDepth 100000
set_option maxHeartbeats 4000000
noncomputable def tys : TEnv := [(3, .int .i64),
  (4, .bool),
  (5, .int .u8),
  (22, .slice 5 (.bytes [])),
  (24, .slice 3 (.ints [])),
  (26, .struct [(0, 3), (1, 24)] [.int .i64 0, .nil (.ints [])] false),
  (50, .slice 54 (.rats [])),
  (54, .struct [(0, 3), (1, 3)] [.int .i64 0, .int .i64 0] true),
  (82, .struct [(0, 22), (1, 3), (2, 3)] [.nil (.bytes []), .int .i64 0, .int .i64 0] false)]
theorem tysOk : TOk Try.prog tys := tok_of (by kernel_rfl)
theorem mixedOk : Try.prog.follows .mixedOrders = true := by kernel_rfl
/-! laws.big -/
noncomputable def E7_laws_big : Env := ⟨Try.prog, tys, (Try.f7.body).getD .skip, 6, tysOk, mixedOk⟩
abbrev q_laws_big (r : Bool) (σ' : ASt) : Prop := resAV E7_laws_big.T σ' Try.f7.results.toList = some (.bool r) ∧ keepO σ'.ob (namesO []) = []
noncomputable def m_laws_big (a0 : List UInt8) : Option Bool :=
some (decide ((a0.length : Int) > (1048576 : Int)))
theorem w_laws_big (a0 : List UInt8) (r : Bool) (h : m_laws_big a0 = some r) : AM.Spec Try.prog 7 [.list (.bytes a0)] [] (.bool r) [] := by
  refine spec_of (E := E7_laws_big) Try.func7 rfl rfl rfl rfl ?_
  refine Tri.run 2 [] [.keep [2] []] (K' := [.code [] 2]) (σ' := ⟨[(2, .bool (decide ((a0.length : Int) > (1048576 : Int))))], []⟩) rfl trivial rfl ?_
  have h := Option.some.inj h
  subst h
  exact Tri.ret rfl ⟨.inl rfl, rfl, rfl⟩
/-! spec.l1New -/
noncomputable def E55_spec_l1New : Env := ⟨Try.prog, tys, (Try.f55.body).getD .skip, 32, tysOk, mixedOk⟩
abbrev q_spec_l1New_io2 (r : (List UInt8) × Int × Int × (List Int) × Int) (σ' : ASt) : Prop := resAV E55_spec_l1New.T σ' Try.f55.results.toList = some (.ptr 1000 0) ∧ keepO σ'.ob (namesO [(1000, .box [.list (.bytes r.1), .int .i64 r.2.1, .int .i64 r.2.2.1]), (1001, .arr 3 0 0 (.ints r.2.2.2.1)), (2000, .box [.int .i64 r.2.2.2.2, .sl 1001 0])]) = [(1000, .box [.list (.bytes r.1), .int .i64 r.2.1, .int .i64 r.2.2.1]), (1001, .arr 3 0 0 (.ints r.2.2.2.1)), (2000, .box [.int .i64 r.2.2.2.2, .sl 1001 0])]
noncomputable def l_spec_l1New_io2_0 (a2 : List UInt8) : (Int × Int) → Option ((Int × Int) ⊕ Int)
  | (v1, v2) => (
bif decide (v2 < (a2.length : Int)) then
(bif decide (v2 < (4000 : Int)) then
(grd ((0 : Int) ≤ v2 ∧ v2 < (a2.length : Int)) <|
some (.inl (bitsOf .and .i64 (IntKind.i64.wrap ((IntKind.i64.wrap ((IntKind.i64.wrap (v1 * (131 : Int))) + (IntKind.i64.wrap (((a2.getD v2.toNat 0).toNat : Int))))) + (7 : Int))) (1073741823 : Int), IntKind.i64.wrap (v2 + (1 : Int)))))
else
(some (.inr v1)))
else
(some (.inr v1)))
noncomputable def m_spec_l1New_io2 (a0 : Int) (a1 : List Int) (a2 : List UInt8) : Option ((List UInt8) × Int × Int × (List Int) × Int) :=
(iter (l_spec_l1New_io2_0 a2) (IntKind.i64.wrap ((26583 : Int) + (a2.length : Int)), (0 : Int))).bind fun
| v3 => (
some (a2, 0, v3, a1, a0))
theorem w_spec_l1New_io2 (a0 : Int) (a1 : List Int) (a2 : List UInt8) (r : (List UInt8) × Int × Int × (List Int) × Int) (h : m_spec_l1New_io2 a0 a1 a2 = some r) : AM.Spec Try.prog 55 [.list (.bytes a2)] [(2000, .box [.int .i64 a0, .sl 2001 0]), (2001, .arr 3 0 0 (.ints a1))] (.ptr 1000 0) [(1000, .box [.list (.bytes r.1), .int .i64 r.2.1, .int .i64 r.2.2.1]), (1001, .arr 3 0 0 (.ints r.2.2.2.1)), (2000, .box [.int .i64 r.2.2.2.2, .sl 1001 0])] := by
  refine spec_of (E := E55_spec_l1New) Try.func55 rfl rfl rfl rfl ?_
  refine Tri.run 3 [] [.keep [0, 3, 4] [2000, 2001]] (K' := [.code [(2, 0), (1, 0)] 0, .blk 0, .code [] 3]) (σ' := ⟨[(0, .list (.bytes a2)), (3, .int .i64 (IntKind.i64.wrap ((26583 : Int) + (a2.length : Int)))), (4, .int .i64 (0 : Int))], [(2000, .box [.int .i64 a0, .sl 2001 0]), (2001, .arr 3 0 0 (.ints a1))]⟩) rfl trivial rfl ?_
  obtain ⟨v3, hk4, h⟩ := bind_some h
  refine Tri.loop (K1 := [.code [(2, 0), (1, 0), (0, 0)] 0]) (K2 := [.blk 0, .code [] 3]) (fun (v1, v2) => ⟨[(0, .list (.bytes a2)), (3, .int .i64 v1), (4, .int .i64 v2)], [(2000, .box [.int .i64 a0, .sl 2001 0]), (2001, .arr 3 0 0 (.ints a1))]⟩) (fun x e σ' => match x with | v3 => e = .exit 0 ∧ σ' = ⟨[(0, .list (.bytes a2)), (3, .int .i64 v3)], [(2000, .box [.int .i64 a0, .sl 2001 0]), (2001, .arr 3 0 0 (.ints a1))]⟩) hk4 rfl rfl ?_ ?_
  · intro s x hs
    clear h
    have h := hs
    clear hs
    obtain ⟨v1, v2⟩ := s
    rcases bif_some h with ⟨hd1, h⟩ | ⟨hd1, h⟩
    · refine Tri.run 1 [.g true] [.keep [0, 3, 4, 15] [2000, 2001]] (K' := [.code [(2, 0), (1, 0), (0, 0), (0, 0)] 1, .code [(2, 0), (1, 0), (0, 0)] 1]) (σ' := ⟨[(0, .list (.bytes a2)), (3, .int .i64 v1), (4, .int .i64 v2), (15, .bool (decide (v2 < (4000 : Int))))], [(2000, .box [.int .i64 a0, .sl 2001 0]), (2001, .arr 3 0 0 (.ints a1))]⟩) rfl ⟨hd1, trivial⟩ rfl ?_
      rcases bif_some h with ⟨hd2, h⟩ | ⟨hd2, h⟩
      · obtain ⟨hg3, h⟩ := grd_some h
        refine Tri.run 3 [.g true] [.keep [0, 3, 4] [2000, 2001]] (K' := []) (σ' := ⟨[(0, .list (.bytes a2)), (3, .int .i64 (bitsOf .and .i64 (IntKind.i64.wrap ((IntKind.i64.wrap ((IntKind.i64.wrap (v1 * (131 : Int))) + (IntKind.i64.wrap (((a2.getD v2.toNat 0).toNat : Int))))) + (7 : Int))) (1073741823 : Int))), (4, .int .i64 (IntKind.i64.wrap (v2 + (1 : Int))))], [(2000, .box [.int .i64 a0, .sl 2001 0]), (2001, .arr 3 0 0 (.ints a1))]⟩) rfl ⟨hg3, hd2, trivial⟩ rfl ?_
        have h := Option.some.inj h
        subst h
        exact Tri.nil ⟨rfl, rfl⟩
      · refine Tri.run 1 [.g false] [.keep [0, 3] [2000, 2001]] (K' := [.code [(2, 0), (1, 0), (0, 0), (0, 0), (1, 1)] 0, .code [(2, 0), (1, 0), (0, 0)] 1]) (σ' := ⟨[(0, .list (.bytes a2)), (3, .int .i64 v1)], [(2000, .box [.int .i64 a0, .sl 2001 0]), (2001, .arr 3 0 0 (.ints a1))]⟩) rfl ⟨hd2, trivial⟩ rfl ?_
        have h := Option.some.inj h
        subst h
        exact Tri.out 0 rfl ⟨nofun, rfl, rfl⟩
    · refine Tri.run 1 [.g false] [.keep [0, 3, 4, 15] [2000, 2001]] (K' := [.code [(2, 0), (1, 0), (0, 0), (0, 0)] 1, .code [(2, 0), (1, 0), (0, 0)] 1]) (σ' := ⟨[(0, .list (.bytes a2)), (3, .int .i64 v1), (4, .int .i64 v2), (15, .bool false)], [(2000, .box [.int .i64 a0, .sl 2001 0]), (2001, .arr 3 0 0 (.ints a1))]⟩) rfl ⟨hd1, trivial⟩ rfl ?_
      refine Tri.run 1 [.g false] [.keep [0, 3] [2000, 2001]] (K' := [.code [(2, 0), (1, 0), (0, 0), (0, 0), (1, 1)] 0, .code [(2, 0), (1, 0), (0, 0)] 1]) (σ' := ⟨[(0, .list (.bytes a2)), (3, .int .i64 v1)], [(2000, .box [.int .i64 a0, .sl 2001 0]), (2001, .arr 3 0 0 (.ints a1))]⟩) rfl ⟨rfl, trivial⟩ rfl ?_
      have h := Option.some.inj h
      subst h
      exact Tri.out 0 rfl ⟨nofun, rfl, rfl⟩
  · intro e σ' hne hq
    obtain ⟨rfl, rfl⟩ := hq
    refine TriX.exit (K' := [.code [] 3]) rfl ?_
    refine Tri.run 1 [] [.swap 2001 1100, .swap 31 1000, .swap 1100 1001, .keep [2] [1000, 1001, 2000]] (K' := [.code [] 4]) (σ' := ⟨[(2, .ptr 1000 0)], [(1000, .box [.list (.bytes a2), .int .i64 0, .int .i64 v3]), (1001, .arr 3 0 0 (.ints a1)), (2000, .box [.int .i64 a0, .sl 1001 0])]⟩) rfl trivial rfl ?_
    have h := Option.some.inj h
    subst h
    exact Tri.ret rfl ⟨.inl rfl, rfl, rfl⟩
/-! spec.l1Byte -/
noncomputable def E108_spec_l1Byte : Env := ⟨Try.prog, tys, (Try.f108.body).getD .skip, 58, tysOk, mixedOk⟩
abbrev q_spec_l1Byte_io1 (x0 : Value) (a0 : List UInt8) (r : Int × Int × Int) (σ' : ASt) : Prop := resAV E108_spec_l1Byte.T σ' Try.f108.results.toList = some (.int .i64 r.1) ∧ keepO σ'.ob (namesO [(2080, .box [.lst x0 (.bytes a0), .int .i64 r.2.1, .int .i64 r.2.2])]) = [(2080, .box [.lst x0 (.bytes a0), .int .i64 r.2.1, .int .i64 r.2.2])]
noncomputable def m_spec_l1Byte_io1 (a0 : List UInt8) (a1 : Int) (a2 : Int) : Option (Int × Int × Int) :=
grd ((0 : Int) ≤ (33 : Int)) <|
grd ((0 : Int) ≤ (45 : Int)) <|
((some (bitsOf .and .i64 (bitsOf .xor .i64 ((IntKind.i64.wrap ((IntKind.i64.wrap (a2 * (6364136223846793005 : Int))) + (1442695040888963407 : Int))).fdiv (2 ^ (min (33 : Int).toNat 64))) ((IntKind.i64.wrap ((IntKind.i64.wrap (a2 * (6364136223846793005 : Int))) + (1442695040888963407 : Int))).fdiv (2 ^ (min (45 : Int).toNat 64)))) (255 : Int) : Int)).bind fun v1 =>
bif decide (a1 < (a0.length : Int)) then
(grd ((0 : Int) ≤ a1 ∧ a1 < (a0.length : Int)) <|
some (bitsOf .and .i64 (IntKind.i64.wrap (v1 + (IntKind.i64.wrap (((a0.getD a1.toNat 0).toNat : Int))))) (255 : Int), IntKind.i64.wrap (a1 + (1 : Int)), IntKind.i64.wrap ((IntKind.i64.wrap (a2 * (6364136223846793005 : Int))) + (1442695040888963407 : Int))))
else
(some (v1, a1, IntKind.i64.wrap ((IntKind.i64.wrap (a2 * (6364136223846793005 : Int))) + (1442695040888963407 : Int)))))
theorem w_spec_l1Byte_io1 (x0 : Value) (a0 : List UInt8) (a1 : Int) (a2 : Int) (r : Int × Int × Int) (h : m_spec_l1Byte_io1 a0 a1 a2 = some r) : AM.Spec Try.prog 108 [.ptr 2080 0] [(2080, .box [.lst x0 (.bytes a0), .int .i64 a1, .int .i64 a2])] (.int .i64 r.1) [(2080, .box [.lst x0 (.bytes a0), .int .i64 r.2.1, .int .i64 r.2.2])] := by
  refine spec_of (E := E108_spec_l1Byte) Try.func108 rfl rfl rfl rfl ?_
  obtain ⟨hg1, h⟩ := grd_some h
  obtain ⟨hg2, h⟩ := grd_some h
  refine Tri.run 3 [] [.keep [0, 3] [2080]] (K' := [.code [(3, 0), (0, 0)] 0, .code [(3, 0)] 1, .code [] 4]) (σ' := ⟨[(0, .ptr 2080 0), (3, .int .i64 (bitsOf .and .i64 (bitsOf .xor .i64 ((IntKind.i64.wrap ((IntKind.i64.wrap (a2 * (6364136223846793005 : Int))) + (1442695040888963407 : Int))).fdiv (2 ^ (min (33 : Int).toNat 64))) ((IntKind.i64.wrap ((IntKind.i64.wrap (a2 * (6364136223846793005 : Int))) + (1442695040888963407 : Int))).fdiv (2 ^ (min (45 : Int).toNat 64)))) (255 : Int)))], [(2080, .box [.lst x0 (.bytes a0), .int .i64 a1, .int .i64 (IntKind.i64.wrap ((IntKind.i64.wrap (a2 * (6364136223846793005 : Int))) + (1442695040888963407 : Int)))])]⟩) rfl ⟨hg2, hg1, trivial⟩ rfl ?_
  obtain ⟨v1, hk3, h⟩ := bind_some h
  have hk3 := Option.some.inj hk3
  rw [hk3]
  refine Tri.run 1 [] [.keep [0, 3, 34] [2080]] (K' := [.code [(3, 0)] 1, .code [] 4]) (σ' := ⟨[(0, .ptr 2080 0), (3, .int .i64 v1), (34, .bool (decide (a1 < (a0.length : Int))))], [(2080, .box [.lst x0 (.bytes a0), .int .i64 a1, .int .i64 (IntKind.i64.wrap ((IntKind.i64.wrap (a2 * (6364136223846793005 : Int))) + (1442695040888963407 : Int)))])]⟩) rfl trivial rfl ?_
  rcases bif_some h with ⟨hd4, h⟩ | ⟨hd4, h⟩
  · obtain ⟨hg5, h⟩ := grd_some h
    refine Tri.run 3 [.g true] [.keep [3] [2080]] (K' := [.code [(4, 0)] 0, .code [] 5]) (σ' := ⟨[(3, .int .i64 (bitsOf .and .i64 (IntKind.i64.wrap (v1 + (IntKind.i64.wrap (((a0.getD a1.toNat 0).toNat : Int))))) (255 : Int)))], [(2080, .box [.lst x0 (.bytes a0), .int .i64 (IntKind.i64.wrap (a1 + (1 : Int))), .int .i64 (IntKind.i64.wrap ((IntKind.i64.wrap (a2 * (6364136223846793005 : Int))) + (1442695040888963407 : Int)))])]⟩) rfl ⟨hg5, hd4, trivial⟩ rfl ?_
    refine Tri.run 1 [] [.keep [2] [2080]] (K' := [.code [] 5]) (σ' := ⟨[(2, .int .i64 (bitsOf .and .i64 (IntKind.i64.wrap (v1 + (IntKind.i64.wrap (((a0.getD a1.toNat 0).toNat : Int))))) (255 : Int)))], [(2080, .box [.lst x0 (.bytes a0), .int .i64 (IntKind.i64.wrap (a1 + (1 : Int))), .int .i64 (IntKind.i64.wrap ((IntKind.i64.wrap (a2 * (6364136223846793005 : Int))) + (1442695040888963407 : Int)))])]⟩) rfl trivial rfl ?_
    have h := Option.some.inj h
    subst h
    exact Tri.ret rfl ⟨.inl rfl, rfl, rfl⟩
  · refine Tri.run 2 [.g false] [.keep [2] [2080]] (K' := [.code [] 5]) (σ' := ⟨[(2, .int .i64 v1)], [(2080, .box [.lst x0 (.bytes a0), .int .i64 a1, .int .i64 (IntKind.i64.wrap ((IntKind.i64.wrap (a2 * (6364136223846793005 : Int))) + (1442695040888963407 : Int)))])]⟩) rfl ⟨hd4, trivial⟩ rfl ?_
    have h := Option.some.inj h
    subst h
    exact Tri.ret rfl ⟨.inl rfl, rfl, rfl⟩
/-! spec.l1Below -/
noncomputable def E99_spec_l1Below : Env := ⟨Try.prog, tys, (Try.f99.body).getD .skip, 37, tysOk, mixedOk⟩
abbrev q_spec_l1Below_io1 (x0 : Value) (a0 : List UInt8) (r : Int × Int × Int) (σ' : ASt) : Prop := resAV E99_spec_l1Below.T σ' Try.f99.results.toList = some (.int .i64 r.1) ∧ keepO σ'.ob (namesO [(2060, .box [.lst x0 (.bytes a0), .int .i64 r.2.1, .int .i64 r.2.2])]) = [(2060, .box [.lst x0 (.bytes a0), .int .i64 r.2.1, .int .i64 r.2.2])]
noncomputable def m_spec_l1Below_io1 (a0 : List UInt8) (a1 : Int) (a2 : Int) (a3 : Int) : Option (Int × Int × Int) :=
bif decide (a3 ≤ (0 : Int)) then
(some ((0 : Int), a1, a2))
else
(bif decide (a3 ≤ (256 : Int)) then
((m_spec_l1Byte_io1 a0 a1 a2).bind fun (v1, v2, v3) =>
grd (a3 ≠ 0) <|
some (v1.tmod a3, v2, v3))
else
((m_spec_l1Byte_io1 a0 a1 a2).bind fun (v4, v5, v6) =>
(m_spec_l1Byte_io1 a0 v5 v6).bind fun (v7, v8, v9) =>
(m_spec_l1Byte_io1 a0 v8 v9).bind fun (v10, v11, v12) =>
(m_spec_l1Byte_io1 a0 v11 v12).bind fun (v13, v14, v15) =>
grd (a3 ≠ 0) <|
some ((IntKind.i64.wrap ((IntKind.i64.wrap ((IntKind.i64.wrap ((IntKind.i64.wrap (v4 * (16777216 : Int))) + (IntKind.i64.wrap (v7 * (65536 : Int))))) + (IntKind.i64.wrap (v10 * (256 : Int))))) + v13)).tmod a3, v14, v15)))
theorem w_spec_l1Below_io1 (x0 : Value) (a0 : List UInt8) (a1 : Int) (a2 : Int) (a3 : Int) (r : Int × Int × Int) (h : m_spec_l1Below_io1 a0 a1 a2 a3 = some r) : AM.Spec Try.prog 99 [.ptr 2060 0, .int .i64 a3] [(2060, .box [.lst x0 (.bytes a0), .int .i64 a1, .int .i64 a2])] (.int .i64 r.1) [(2060, .box [.lst x0 (.bytes a0), .int .i64 r.2.1, .int .i64 r.2.2])] := by
  refine spec_of (E := E99_spec_l1Below) Try.func99 rfl rfl rfl rfl ?_
  refine Tri.run 2 [] [.keep [0, 1, 10] [2060]] (K' := [.code [(1, 0)] 1, .code [] 2]) (σ' := ⟨[(0, .ptr 2060 0), (1, .int .i64 a3), (10, .bool (decide (a3 ≤ (0 : Int))))], [(2060, .box [.lst x0 (.bytes a0), .int .i64 a1, .int .i64 a2])]⟩) rfl trivial rfl ?_
  rcases bif_some h with ⟨hd1, h⟩ | ⟨hd1, h⟩
  · refine Tri.run 2 [.g true] [.keep [4] [2060]] (K' := [.code [(1, 0), (1, 0)] 1, .code [] 2]) (σ' := ⟨[(4, .int .i64 (0 : Int))], [(2060, .box [.lst x0 (.bytes a0), .int .i64 a1, .int .i64 a2])]⟩) rfl ⟨hd1, trivial⟩ rfl ?_
    have h := Option.some.inj h
    subst h
    exact Tri.ret rfl ⟨.inl rfl, rfl, rfl⟩
  · refine Tri.run 2 [.g false] [.keep [0, 1, 12] [2060]] (K' := [.code [(2, 0)] 1, .code [] 3]) (σ' := ⟨[(0, .ptr 2060 0), (1, .int .i64 a3), (12, .bool (decide (a3 ≤ (256 : Int))))], [(2060, .box [.lst x0 (.bytes a0), .int .i64 a1, .int .i64 a2])]⟩) rfl ⟨hd1, trivial⟩ rfl ?_
    rcases bif_some h with ⟨hd2, h⟩ | ⟨hd2, h⟩
    · obtain ⟨⟨v1, v2, v3⟩, hk3, h⟩ := bind_some h
      obtain ⟨hg4, h⟩ := grd_some h
      refine Tri.run 2 [.g true, .r ⟨[2060], .int .i64 v1, [(2060, .box [.undf, .int .i64 v2, .int .i64 v3])]⟩] [.keep [4] [2060]] (K' := [.code [(2, 0), (1, 0)] 1, .code [] 3]) (σ' := ⟨[(4, .int .i64 (v1.tmod a3))], [(2060, .box [.lst x0 (.bytes a0), .int .i64 v2, .int .i64 v3])]⟩) rfl ⟨hg4, (fun vf => ((w_spec_l1Byte_io1 (vf 2060 0) a0 a1 a2 (v1, v2, v3) hk3).swap 2080 2060)), hd2, trivial⟩ rfl ?_
      have h := Option.some.inj h
      subst h
      exact Tri.ret rfl ⟨.inl rfl, rfl, rfl⟩
    · obtain ⟨⟨v4, v5, v6⟩, hk5, h⟩ := bind_some h
      refine Tri.run 2 [.g false, .r ⟨[2060], .int .i64 v4, [(2060, .box [.undf, .int .i64 v5, .int .i64 v6])]⟩] [.keep [0, 1, 5] [2060]] (K' := [.code [(4, 0)] 0, .code [] 5]) (σ' := ⟨[(0, .ptr 2060 0), (1, .int .i64 a3), (5, .int .i64 v4)], [(2060, .box [.lst x0 (.bytes a0), .int .i64 v5, .int .i64 v6])]⟩) rfl ⟨(fun vf => ((w_spec_l1Byte_io1 (vf 2060 0) a0 a1 a2 (v4, v5, v6) hk5).swap 2080 2060)), hd2, trivial⟩ rfl ?_
      obtain ⟨⟨v7, v8, v9⟩, hk6, h⟩ := bind_some h
      obtain ⟨⟨v10, v11, v12⟩, hk7, h⟩ := bind_some h
      refine Tri.run 2 [.r ⟨[2060], .int .i64 v7, [(2060, .box [.undf, .int .i64 v8, .int .i64 v9])]⟩, .r ⟨[2060], .int .i64 v10, [(2060, .box [.undf, .int .i64 v11, .int .i64 v12])]⟩] [.keep [0, 1, 5, 6, 7] [2060]] (K' := [.code [(6, 0)] 0, .code [] 7]) (σ' := ⟨[(0, .ptr 2060 0), (1, .int .i64 a3), (5, .int .i64 v4), (6, .int .i64 v7), (7, .int .i64 v10)], [(2060, .box [.lst x0 (.bytes a0), .int .i64 v11, .int .i64 v12])]⟩) rfl ⟨(fun vf => ((w_spec_l1Byte_io1 (vf 2060 0) a0 v8 v9 (v10, v11, v12) hk7).swap 2080 2060)), (fun vf => ((w_spec_l1Byte_io1 (vf 2060 0) a0 v5 v6 (v7, v8, v9) hk6).swap 2080 2060)), trivial⟩ rfl ?_
      obtain ⟨⟨v13, v14, v15⟩, hk8, h⟩ := bind_some h
      obtain ⟨hg9, h⟩ := grd_some h
      refine Tri.run 2 [.r ⟨[2060], .int .i64 v13, [(2060, .box [.undf, .int .i64 v14, .int .i64 v15])]⟩] [.keep [4] [2060]] (K' := [.code [] 8]) (σ' := ⟨[(4, .int .i64 ((IntKind.i64.wrap ((IntKind.i64.wrap ((IntKind.i64.wrap ((IntKind.i64.wrap (v4 * (16777216 : Int))) + (IntKind.i64.wrap (v7 * (65536 : Int))))) + (IntKind.i64.wrap (v10 * (256 : Int))))) + v13)).tmod a3))], [(2060, .box [.lst x0 (.bytes a0), .int .i64 v14, .int .i64 v15])]⟩) rfl ⟨hg9, (fun vf => ((w_spec_l1Byte_io1 (vf 2060 0) a0 v11 v12 (v13, v14, v15) hk8).swap 2080 2060)), trivial⟩ rfl ?_
      have h := Option.some.inj h
      subst h
      exact Tri.ret rfl ⟨.inl rfl, rfl, rfl⟩
/-! spec.l1In -/
noncomputable def E62_spec_l1In : Env := ⟨Try.prog, tys, (Try.f62.body).getD .skip, 15, tysOk, mixedOk⟩
abbrev q_spec_l1In (r : Bool) (σ' : ASt) : Prop := resAV E62_spec_l1In.T σ' Try.f62.results.toList = some (.bool r) ∧ keepO σ'.ob (namesO []) = []
noncomputable def m_spec_l1In (a0 : Int) (a1 : Int) (a2 : Int) : Option Bool :=
bif decide (a0 ≥ a1) then
(some (decide (a0 ≤ a2)))
else
(some false)
theorem w_spec_l1In (a0 : Int) (a1 : Int) (a2 : Int) (r : Bool) (h : m_spec_l1In a0 a1 a2 = some r) : AM.Spec Try.prog 62 [.int .i64 a0, .int .i64 a1, .int .i64 a2] [] (.bool r) [] := by
  refine spec_of (E := E62_spec_l1In) Try.func62 rfl rfl rfl rfl ?_
  refine Tri.run 1 [] [.keep [0, 1, 2] []] (K' := [.code [(1, 0)] 0, .code [] 2]) (σ' := ⟨[(0, .int .i64 a0), (1, .int .i64 a1), (2, .int .i64 a2)], []⟩) rfl trivial rfl ?_
  rcases bif_some h with ⟨hd1, h⟩ | ⟨hd1, h⟩
  · refine Tri.run 1 [.g true] [.keep [6] []] (K' := [.code [] 2]) (σ' := ⟨[(6, .bool (decide (a0 ≤ a2)))], []⟩) rfl ⟨hd1, trivial⟩ rfl ?_
    have h := Option.some.inj h
    subst h
    exact Tri.ret rfl ⟨.inl rfl, rfl, rfl⟩
  · refine Tri.run 1 [.g false] [.keep [6] []] (K' := [.code [] 2]) (σ' := ⟨[(6, .bool false)], []⟩) rfl ⟨hd1, trivial⟩ rfl ?_
    have h := Option.some.inj h
    subst h
    exact Tri.ret rfl ⟨.inl rfl, rfl, rfl⟩
/-! spec.CountCoalitions -/
noncomputable def E53_spec_CountCoalitions : Env := ⟨Try.prog, tys, (Try.f53.body).getD .skip, 16, tysOk, mixedOk⟩
abbrev q_spec_CountCoalitions (r : Int) (σ' : ASt) : Prop := resAV E53_spec_CountCoalitions.T σ' Try.f53.results.toList = some (.int .i64 r) ∧ keepO σ'.ob (namesO []) = []
noncomputable def l_spec_CountCoalitions_0 (a0 : Int) : (Int × Int) → Option ((Int × Int) ⊕ Int)
  | (v2, v3) => (
bif decide (v3 < a0) then
(some (.inl (IntKind.i64.wrap (v2 * (2 : Int)), IntKind.i64.wrap (v3 + (1 : Int)))))
else
(some (.inr v2)))
noncomputable def m_spec_CountCoalitions (a0 : Int) : Option Int :=
(m_spec_l1In a0 (0 : Int) (5 : Int)).bind fun v1 =>
bif !v1 then
(some (0 : Int))
else
((iter (l_spec_CountCoalitions_0 a0) ((1 : Int), (0 : Int))).bind fun
| v4 => (
some v4))
theorem w_spec_CountCoalitions (a0 : Int) (r : Int) (h : m_spec_CountCoalitions a0 = some r) : AM.Spec Try.prog 53 [.int .i64 a0] [] (.int .i64 r) [] := by
  refine spec_of (E := E53_spec_CountCoalitions) Try.func53 rfl rfl rfl rfl ?_
  refine Tri.run 1 [] [.keep [0] []] (K' := [.code [(1, 0), (0, 0)] 0, .code [(1, 0)] 1, .code [] 2]) (σ' := ⟨[(0, .int .i64 a0)], []⟩) rfl trivial rfl ?_
  obtain ⟨v1, hk1, h⟩ := bind_some h
  refine Tri.run 1 [.r ⟨[], .bool v1, []⟩] [.keep [0, 7] []] (K' := [.code [(1, 0)] 1, .code [] 2]) (σ' := ⟨[(0, .int .i64 a0), (7, .bool (!v1))], []⟩) rfl ⟨(fun _ => (w_spec_l1In a0 (0 : Int) (5 : Int) v1 hk1)), trivial⟩ rfl ?_
  rcases bif_some h with ⟨hd2, h⟩ | ⟨hd2, h⟩
  · refine Tri.run 2 [.g true] [.keep [2] []] (K' := [.code [(1, 0), (1, 0)] 1, .code [] 2]) (σ' := ⟨[(2, .int .i64 (0 : Int))], []⟩) rfl ⟨hd2, trivial⟩ rfl ?_
    have h := Option.some.inj h
    subst h
    exact Tri.ret rfl ⟨.inl rfl, rfl, rfl⟩
  · refine Tri.run 3 [.g false] [.keep [0, 3, 4] []] (K' := [.code [(3, 0), (1, 0)] 0, .blk 0, .code [] 4]) (σ' := ⟨[(0, .int .i64 a0), (3, .int .i64 (1 : Int)), (4, .int .i64 (0 : Int))], []⟩) rfl ⟨hd2, trivial⟩ rfl ?_
    obtain ⟨v4, hk4, h⟩ := bind_some h
    refine Tri.loop (K1 := [.code [(3, 0), (1, 0), (0, 0)] 0]) (K2 := [.blk 0, .code [] 4]) (fun (v2, v3) => ⟨[(0, .int .i64 a0), (3, .int .i64 v2), (4, .int .i64 v3)], []⟩) (fun x e σ' => match x with | v4 => e = .exit 0 ∧ σ' = ⟨[(3, .int .i64 v4)], []⟩) hk4 rfl rfl ?_ ?_
    · intro s x hs
      clear h
      have h := hs
      clear hs
      obtain ⟨v2, v3⟩ := s
      refine Tri.run 1 [] [.keep [0, 3, 4, 10] []] (K' := [.code [(3, 0), (1, 0), (0, 0), (0, 0)] 1, .code [(3, 0), (1, 0), (0, 0)] 1]) (σ' := ⟨[(0, .int .i64 a0), (3, .int .i64 v2), (4, .int .i64 v3), (10, .bool (decide (v3 < a0)))], []⟩) rfl trivial rfl ?_
      rcases bif_some h with ⟨hd3, h⟩ | ⟨hd3, h⟩
      · refine Tri.run 3 [.g true] [.keep [0, 3, 4] []] (K' := []) (σ' := ⟨[(0, .int .i64 a0), (3, .int .i64 (IntKind.i64.wrap (v2 * (2 : Int)))), (4, .int .i64 (IntKind.i64.wrap (v3 + (1 : Int))))], []⟩) rfl ⟨hd3, trivial⟩ rfl ?_
        have h := Option.some.inj h
        subst h
        exact Tri.nil ⟨rfl, rfl⟩
      · refine Tri.run 1 [.g false] [.keep [3] []] (K' := [.code [(3, 0), (1, 0), (0, 0), (0, 0), (1, 1)] 0, .code [(3, 0), (1, 0), (0, 0)] 1]) (σ' := ⟨[(3, .int .i64 v2)], []⟩) rfl ⟨hd3, trivial⟩ rfl ?_
        have h := Option.some.inj h
        subst h
        exact Tri.out 0 rfl ⟨nofun, rfl, rfl⟩
    · intro e σ' hne hq
      obtain ⟨rfl, rfl⟩ := hq
      refine TriX.exit (K' := [.code [] 4]) rfl ?_
      refine Tri.run 1 [] [.keep [2] []] (K' := [.code [] 5]) (σ' := ⟨[(2, .int .i64 v4)], []⟩) rfl trivial rfl ?_
      have h := Option.some.inj h
      subst h
      exact Tri.ret rfl ⟨.inl rfl, rfl, rfl⟩
/-! spec.l2Bit -/
noncomputable def E88_spec_l2Bit : Env := ⟨Try.prog, tys, (Try.f88.body).getD .skip, 5, tysOk, mixedOk⟩
abbrev q_spec_l2Bit (r : Int) (σ' : ASt) : Prop := resAV E88_spec_l2Bit.T σ' Try.f88.results.toList = some (.int .i64 r) ∧ keepO σ'.ob (namesO []) = []
noncomputable def m_spec_l2Bit (a0 : Int) : Option Int :=
(m_spec_CountCoalitions a0).bind fun v1 =>
some v1
theorem w_spec_l2Bit (a0 : Int) (r : Int) (h : m_spec_l2Bit a0 = some r) : AM.Spec Try.prog 88 [.int .i64 a0] [] (.int .i64 r) [] := by
  refine spec_of (E := E88_spec_l2Bit) Try.func88 rfl rfl rfl rfl ?_
  refine Tri.run 1 [] [.keep [0] []] (K' := [.code [(1, 0)] 0, .code [] 2]) (σ' := ⟨[(0, .int .i64 a0)], []⟩) rfl trivial rfl ?_
  obtain ⟨v1, hk1, h⟩ := bind_some h
  refine Tri.run 1 [.r ⟨[], .int .i64 v1, []⟩] [.keep [2] []] (K' := [.code [] 2]) (σ' := ⟨[(2, .int .i64 v1)], []⟩) rfl ⟨(fun _ => (w_spec_CountCoalitions a0 v1 hk1)), trivial⟩ rfl ?_
  have h := Option.some.inj h
  subst h
  exact Tri.ret rfl ⟨.inl rfl, rfl, rfl⟩
/-! spec.HasPlayer -/
noncomputable def E44_spec_HasPlayer : Env := ⟨Try.prog, tys, (Try.f44.body).getD .skip, 19, tysOk, mixedOk⟩
abbrev q_spec_HasPlayer (r : Bool) (σ' : ASt) : Prop := resAV E44_spec_HasPlayer.T σ' Try.f44.results.toList = some (.bool r) ∧ keepO σ'.ob (namesO []) = []
noncomputable def m_spec_HasPlayer (a0 : Int) (a1 : Int) : Option Bool :=
(m_spec_l1In a1 (0 : Int) (4 : Int)).bind fun v1 =>
bif v1 then
(bif decide (a0 ≥ (0 : Int)) then
((m_spec_l2Bit a1).bind fun v2 =>
grd (v2 ≠ 0) <|
grd ((2 : Int) ≠ 0) <|
some (((IntKind.i64.wrap (a0.tdiv v2)).tmod (2 : Int)) == (1 : Int)))
else
(some false))
else
(some false)
theorem w_spec_HasPlayer (a0 : Int) (a1 : Int) (r : Bool) (h : m_spec_HasPlayer a0 a1 = some r) : AM.Spec Try.prog 44 [.int .i64 a0, .int .i64 a1] [] (.bool r) [] := by
  refine spec_of (E := E44_spec_HasPlayer) Try.func44 rfl rfl rfl rfl ?_
  refine Tri.run 1 [] [.keep [0, 1] []] (K' := [.code [(1, 0)] 0, .code [] 2]) (σ' := ⟨[(0, .int .i64 a0), (1, .int .i64 a1)], []⟩) rfl trivial rfl ?_
  obtain ⟨v1, hk1, h⟩ := bind_some h
  rcases bif_some h with ⟨hd2, h⟩ | ⟨hd2, h⟩
  · rcases bif_some h with ⟨hd3, h⟩ | ⟨hd3, h⟩
    · obtain ⟨v2, hk4, h⟩ := bind_some h
      obtain ⟨hg5, h⟩ := grd_some h
      obtain ⟨hg6, h⟩ := grd_some h
      refine Tri.run 1 [.r ⟨[], .bool v1, []⟩, .g true, .g true, .r ⟨[], .int .i64 v2, []⟩] [.keep [4] []] (K' := [.code [] 2]) (σ' := ⟨[(4, .bool (((IntKind.i64.wrap (a0.tdiv v2)).tmod (2 : Int)) == (1 : Int)))], []⟩) rfl ⟨hg6, hg5, (fun _ => (w_spec_l2Bit a1 v2 hk4)), hd3, hd2, (fun _ => (w_spec_l1In a1 (0 : Int) (4 : Int) v1 hk1)), trivial⟩ rfl ?_
      have h := Option.some.inj h
      subst h
      exact Tri.ret rfl ⟨.inl rfl, rfl, rfl⟩
    · refine Tri.run 1 [.r ⟨[], .bool v1, []⟩, .g true, .g false] [.keep [4] []] (K' := [.code [] 2]) (σ' := ⟨[(4, .bool false)], []⟩) rfl ⟨hd3, hd2, (fun _ => (w_spec_l1In a1 (0 : Int) (4 : Int) v1 hk1)), trivial⟩ rfl ?_
      have h := Option.some.inj h
      subst h
      exact Tri.ret rfl ⟨.inl rfl, rfl, rfl⟩
  · refine Tri.run 1 [.r ⟨[], .bool v1, []⟩, .g false, .g false] [.keep [4] []] (K' := [.code [] 2]) (σ' := ⟨[(4, .bool false)], []⟩) rfl ⟨rfl, hd2, (fun _ => (w_spec_l1In a1 (0 : Int) (4 : Int) v1 hk1)), trivial⟩ rfl ?_
    have h := Option.some.inj h
    subst h
    exact Tri.ret rfl ⟨.inl rfl, rfl, rfl⟩
/-! spec.SizeOf -/
noncomputable def E45_spec_SizeOf : Env := ⟨Try.prog, tys, (Try.f45.body).getD .skip, 15, tysOk, mixedOk⟩
abbrev q_spec_SizeOf (r : Int) (σ' : ASt) : Prop := resAV E45_spec_SizeOf.T σ' Try.f45.results.toList = some (.int .i64 r) ∧ keepO σ'.ob (namesO []) = []
noncomputable def l_spec_SizeOf_0 (a0 : Int) : (Int × Int) → Option ((Int × Int) ⊕ Int)
  | (v1, v2) => (
bif decide (v2 < (5 : Int)) then
((m_spec_HasPlayer a0 v2).bind fun v3 =>
bif v3 then
(some (.inl (IntKind.i64.wrap (v1 + (1 : Int)), IntKind.i64.wrap (v2 + (1 : Int)))))
else
(some (.inl (v1, IntKind.i64.wrap (v2 + (1 : Int))))))
else
(some (.inr v1)))
noncomputable def m_spec_SizeOf (a0 : Int) : Option Int :=
(iter (l_spec_SizeOf_0 a0) ((0 : Int), (0 : Int))).bind fun
| v4 => (
some v4)
theorem w_spec_SizeOf (a0 : Int) (r : Int) (h : m_spec_SizeOf a0 = some r) : AM.Spec Try.prog 45 [.int .i64 a0] [] (.int .i64 r) [] := by
  refine spec_of (E := E45_spec_SizeOf) Try.func45 rfl rfl rfl rfl ?_
  refine Tri.run 3 [] [.keep [0, 3, 4] []] (K' := [.code [(2, 0), (1, 0)] 0, .blk 0, .code [] 3]) (σ' := ⟨[(0, .int .i64 a0), (3, .int .i64 (0 : Int)), (4, .int .i64 (0 : Int))], []⟩) rfl trivial rfl ?_
  obtain ⟨v4, hk4, h⟩ := bind_some h
  refine Tri.loop (K1 := [.code [(2, 0), (1, 0), (0, 0)] 0]) (K2 := [.blk 0, .code [] 3]) (fun (v1, v2) => ⟨[(0, .int .i64 a0), (3, .int .i64 v1), (4, .int .i64 v2)], []⟩) (fun x e σ' => match x with | v4 => e = .exit 0 ∧ σ' = ⟨[(3, .int .i64 v4)], []⟩) hk4 rfl rfl ?_ ?_
  · intro s x hs
    clear h
    have h := hs
    clear hs
    obtain ⟨v1, v2⟩ := s
    refine Tri.run 1 [] [.keep [0, 3, 4, 6] []] (K' := [.code [(2, 0), (1, 0), (0, 0), (0, 0)] 1, .code [(2, 0), (1, 0), (0, 0)] 1]) (σ' := ⟨[(0, .int .i64 a0), (3, .int .i64 v1), (4, .int .i64 v2), (6, .bool (decide (v2 < (5 : Int))))], []⟩) rfl trivial rfl ?_
    rcases bif_some h with ⟨hd1, h⟩ | ⟨hd1, h⟩
    · obtain ⟨v3, hk2, h⟩ := bind_some h
      refine Tri.run 2 [.g true, .r ⟨[], .bool v3, []⟩] [.keep [0, 3, 4, 11] []] (K' := [.code [(2, 0), (1, 0), (0, 0), (1, 0), (0, 0)] 1, .blk 1, .code [(2, 0), (1, 0), (0, 0)] 2]) (σ' := ⟨[(0, .int .i64 a0), (3, .int .i64 v1), (4, .int .i64 v2), (11, .bool v3)], []⟩) rfl ⟨(fun _ => (w_spec_HasPlayer a0 v2 v3 hk2)), hd1, trivial⟩ rfl ?_
      rcases bif_some h with ⟨hd3, h⟩ | ⟨hd3, h⟩
      · refine Tri.run 3 [.g true] [.keep [0, 3, 4] []] (K' := []) (σ' := ⟨[(0, .int .i64 a0), (3, .int .i64 (IntKind.i64.wrap (v1 + (1 : Int)))), (4, .int .i64 (IntKind.i64.wrap (v2 + (1 : Int))))], []⟩) rfl ⟨hd3, trivial⟩ rfl ?_
        have h := Option.some.inj h
        subst h
        exact Tri.nil ⟨rfl, rfl⟩
      · refine Tri.run 2 [.g false] [.keep [0, 3, 4] []] (K' := []) (σ' := ⟨[(0, .int .i64 a0), (3, .int .i64 v1), (4, .int .i64 (IntKind.i64.wrap (v2 + (1 : Int))))], []⟩) rfl ⟨hd3, trivial⟩ rfl ?_
        have h := Option.some.inj h
        subst h
        exact Tri.nil ⟨rfl, rfl⟩
    · refine Tri.run 1 [.g false] [.keep [3] []] (K' := [.code [(2, 0), (1, 0), (0, 0), (0, 0), (1, 1)] 0, .code [(2, 0), (1, 0), (0, 0)] 1]) (σ' := ⟨[(3, .int .i64 v1)], []⟩) rfl ⟨hd1, trivial⟩ rfl ?_
      have h := Option.some.inj h
      subst h
      exact Tri.out 0 rfl ⟨nofun, rfl, rfl⟩
  · intro e σ' hne hq
    obtain ⟨rfl, rfl⟩ := hq
    refine TriX.exit (K' := [.code [] 3]) rfl ?_
    refine Tri.run 1 [] [.keep [2] []] (K' := [.code [] 4]) (σ' := ⟨[(2, .int .i64 v4)], []⟩) rfl trivial rfl ?_
    have h := Option.some.inj h
    subst h
    exact Tri.ret rfl ⟨.inl rfl, rfl, rfl⟩
/-! spec.l1PickInt -/
noncomputable def E70_spec_l1PickInt : Env := ⟨Try.prog, tys, (Try.f70.body).getD .skip, 12, tysOk, mixedOk⟩
abbrev q_spec_l1PickInt_io1 (x0 : Value) (a0 : List UInt8) (r : Int × Int × Int) (σ' : ASt) : Prop := resAV E70_spec_l1PickInt.T σ' Try.f70.results.toList = some (.int .i64 r.1) ∧ keepO σ'.ob (namesO [(2100, .box [.lst x0 (.bytes a0), .int .i64 r.2.1, .int .i64 r.2.2])]) = [(2100, .box [.lst x0 (.bytes a0), .int .i64 r.2.1, .int .i64 r.2.2])]
noncomputable def m_spec_l1PickInt_io1 (a0 : List UInt8) (a1 : Int) (a2 : Int) (a3 : List Int) : Option (Int × Int × Int) :=
(m_spec_l1Below_io1 a0 a1 a2 (a3.length : Int)).bind fun (v1, v2, v3) =>
grd ((0 : Int) ≤ v1 ∧ v1 < (a3.length : Int)) <|
some (a3.getD v1.toNat 0, v2, v3)
theorem w_spec_l1PickInt_io1 (x0 : Value) (a0 : List UInt8) (a1 : Int) (a2 : Int) (a3 : List Int) (r : Int × Int × Int) (h : m_spec_l1PickInt_io1 a0 a1 a2 a3 = some r) : AM.Spec Try.prog 70 [.ptr 2100 0, .list (.ints a3)] [(2100, .box [.lst x0 (.bytes a0), .int .i64 a1, .int .i64 a2])] (.int .i64 r.1) [(2100, .box [.lst x0 (.bytes a0), .int .i64 r.2.1, .int .i64 r.2.2])] := by
  refine spec_of (E := E70_spec_l1PickInt) Try.func70 rfl rfl rfl rfl ?_
  refine Tri.run 1 [] [.keep [0, 1] [2100]] (K' := [.code [(1, 0)] 0, .code [] 2]) (σ' := ⟨[(0, .ptr 2100 0), (1, .list (.ints a3))], [(2100, .box [.lst x0 (.bytes a0), .int .i64 a1, .int .i64 a2])]⟩) rfl trivial rfl ?_
  obtain ⟨⟨v1, v2, v3⟩, hk1, h⟩ := bind_some h
  obtain ⟨hg2, h⟩ := grd_some h
  refine Tri.run 1 [.r ⟨[2100], .int .i64 v1, [(2100, .box [.undf, .int .i64 v2, .int .i64 v3])]⟩] [.keep [4] [2100]] (K' := [.code [] 2]) (σ' := ⟨[(4, .int .i64 (a3.getD v1.toNat 0))], [(2100, .box [.lst x0 (.bytes a0), .int .i64 v2, .int .i64 v3])]⟩) rfl ⟨hg2, (fun vf => ((w_spec_l1Below_io1 (vf 2100 0) a0 a1 a2 (a3.length : Int) (v1, v2, v3) hk1).swap 2060 2100)), trivial⟩ rfl ?_
  have h := Option.some.inj h
  subst h
  exact Tri.ret rfl ⟨.inl rfl, rfl, rfl⟩
/-! spec.l1Max -/
noncomputable def E69_spec_l1Max : Env := ⟨Try.prog, tys, (Try.f69.body).getD .skip, 10, tysOk, mixedOk⟩
abbrev q_spec_l1Max (r : Int) (σ' : ASt) : Prop := resAV E69_spec_l1Max.T σ' Try.f69.results.toList = some (.int .i64 r) ∧ keepO σ'.ob (namesO []) = []
noncomputable def m_spec_l1Max (a0 : Int) (a1 : Int) : Option Int :=
bif decide (a0 > a1) then
(some a0)
else
(some a1)
theorem w_spec_l1Max (a0 : Int) (a1 : Int) (r : Int) (h : m_spec_l1Max a0 a1 = some r) : AM.Spec Try.prog 69 [.int .i64 a0, .int .i64 a1] [] (.int .i64 r) [] := by
  refine spec_of (E := E69_spec_l1Max) Try.func69 rfl rfl rfl rfl ?_
  refine Tri.run 2 [] [.keep [0, 1, 7] []] (K' := [.code [(1, 0)] 1, .code [] 2]) (σ' := ⟨[(0, .int .i64 a0), (1, .int .i64 a1), (7, .bool (decide (a0 > a1)))], []⟩) rfl trivial rfl ?_
  rcases bif_some h with ⟨hd1, h⟩ | ⟨hd1, h⟩
  · refine Tri.run 2 [.g true] [.keep [4] []] (K' := [.code [(1, 0), (1, 0)] 1, .code [] 2]) (σ' := ⟨[(4, .int .i64 a0)], []⟩) rfl ⟨hd1, trivial⟩ rfl ?_
    have h := Option.some.inj h
    subst h
    exact Tri.ret rfl ⟨.inl rfl, rfl, rfl⟩
  · refine Tri.run 2 [.g false] [.keep [4] []] (K' := [.code [] 3]) (σ' := ⟨[(4, .int .i64 a1)], []⟩) rfl ⟨hd1, trivial⟩ rfl ?_
    have h := Option.some.inj h
    subst h
    exact Tri.ret rfl ⟨.inl rfl, rfl, rfl⟩
/-! spec.l1Bit -/
noncomputable def E107_spec_l1Bit : Env := ⟨Try.prog, tys, (Try.f107.body).getD .skip, 4, tysOk, mixedOk⟩
abbrev q_spec_l1Bit (r : Int) (σ' : ASt) : Prop := resAV E107_spec_l1Bit.T σ' Try.f107.results.toList = some (.int .i64 r) ∧ keepO σ'.ob (namesO []) = []
noncomputable def m_spec_l1Bit (a0 : Bool) : Option Int :=
bif a0 then
(some (1 : Int))
else
(some (0 : Int))
theorem w_spec_l1Bit (a0 : Bool) (r : Int) (h : m_spec_l1Bit a0 = some r) : AM.Spec Try.prog 107 [.bool a0] [] (.int .i64 r) [] := by
  refine spec_of (E := E107_spec_l1Bit) Try.func107 rfl rfl rfl rfl ?_
  refine Tri.run 2 [] [.keep [3] []] (K' := [.code [(1, 0)] 1, .code [] 2]) (σ' := ⟨[(3, .bool a0)], []⟩) rfl trivial rfl ?_
  rcases bif_some h with ⟨hd1, h⟩ | ⟨hd1, h⟩
  · refine Tri.run 2 [.g true] [.keep [2] []] (K' := [.code [(1, 0), (1, 0)] 1, .code [] 2]) (σ' := ⟨[(2, .int .i64 (1 : Int))], []⟩) rfl ⟨hd1, trivial⟩ rfl ?_
    have h := Option.some.inj h
    subst h
    exact Tri.ret rfl ⟨.inl rfl, rfl, rfl⟩
  · refine Tri.run 2 [.g false] [.keep [2] []] (K' := [.code [] 3]) (σ' := ⟨[(2, .int .i64 (0 : Int))], []⟩) rfl ⟨hd1, trivial⟩ rfl ?_
    have h := Option.some.inj h
    subst h
    exact Tri.ret rfl ⟨.inl rfl, rfl, rfl⟩
/-! spec.l8Draw -/
noncomputable def E98_spec_l8Draw : Env := ⟨Try.prog, tys, (Try.f98.body).getD .skip, 81, tysOk, mixedOk⟩
abbrev q_spec_l8Draw_io1 (x0 : Value) (a0 : List UInt8) (r : Int × (List Int) × Int × Int) (σ' : ASt) : Prop := resAV E98_spec_l8Draw.T σ' Try.f98.results.toList = some (.agg [.int .i64 r.1, .sl 1000 0]) ∧ keepO σ'.ob (namesO [(1000, .arr 3 0 0 (.ints r.2.1)), (2040, .box [.lst x0 (.bytes a0), .int .i64 r.2.2.1, .int .i64 r.2.2.2])]) = [(1000, .arr 3 0 0 (.ints r.2.1)), (2040, .box [.lst x0 (.bytes a0), .int .i64 r.2.2.1, .int .i64 r.2.2.2])]
noncomputable def l_spec_l8Draw_io1_0 (a0 : List UInt8) (v1 : Int) (v5 : Int) : (Int × (List Int) × Int × Int) → Option ((Int × (List Int) × Int × Int) ⊕ (((List Int) × Int × Int)))
  | (v8, v9, v10, v11) => (
bif decide (v8 < (v9.length : Int)) then
(bif v5 == (0 : Int) then
((m_spec_SizeOf v8).bind fun v12 =>
(m_spec_SizeOf v8).bind fun v13 =>
(m_spec_l1Below_io1 a0 v10 v11 (2 : Int)).bind fun (v14, v15, v16) =>
grd ((0 : Int) ≤ v8 ∧ v8 < (v9.length : Int)) <|
some (.inl (IntKind.i64.wrap (v8 + (1 : Int)), v9.set v8.toNat (IntKind.i64.wrap ((IntKind.i64.wrap (v12 * v13)) + v14)), v15, v16)))
else
(bif v5 == (1 : Int) then
((m_spec_l1PickInt_io1 a0 v10 v11 [(0 : Int), (1 : Int), (2 : Int), (3 : Int), (5 : Int), (8 : Int), (-2 : Int), (4 : Int)]).bind fun (v17, v18, v19) =>
grd ((0 : Int) ≤ v8 ∧ v8 < (v9.length : Int)) <|
some (.inl (IntKind.i64.wrap (v8 + (1 : Int)), v9.set v8.toNat v17, v18, v19)))
else
(bif v5 == (2 : Int) then
((m_spec_SizeOf v8).bind fun v20 =>
(m_spec_l1Below_io1 a0 v10 v11 (2 : Int)).bind fun (v21, v22, v23) =>
(m_spec_l1Max (0 : Int) (IntKind.i64.wrap ((IntKind.i64.wrap ((IntKind.i64.wrap ((3 : Int) * v20)) - (2 : Int))) - v21))).bind fun v24 =>
grd ((0 : Int) ≤ v8 ∧ v8 < (v9.length : Int)) <|
some (.inl (IntKind.i64.wrap (v8 + (1 : Int)), v9.set v8.toNat v24, v22, v23)))
else
((m_spec_SizeOf v8).bind fun v25 =>
(m_spec_l1Bit (decide ((IntKind.i64.wrap (v25 * (2 : Int))) > (IntKind.i64.wrap ((1 : Int) + v1))))).bind fun v26 =>
(m_spec_l1Below_io1 a0 v10 v11 (2 : Int)).bind fun (v27, v28, v29) =>
grd ((0 : Int) ≤ v8 ∧ v8 < (v9.length : Int)) <|
some (.inl (IntKind.i64.wrap (v8 + (1 : Int)), v9.set v8.toNat (IntKind.i64.wrap (v26 * (IntKind.i64.wrap ((3 : Int) + (IntKind.i64.wrap (v27 * (3 : Int))))))), v28, v29))))))
else
(some (.inr (v9, v10, v11))))
noncomputable def m_spec_l8Draw_io1 (a0 : List UInt8) (a1 : Int) (a2 : Int) (a3 : Int) : Option (Int × (List Int) × Int × Int) :=
(m_spec_l1Below_io1 a0 a1 a2 a3).bind fun (v1, v2, v3) =>
(m_spec_CountCoalitions (IntKind.i64.wrap ((1 : Int) + v1))).bind fun v4 =>
grd ((0 : Int) ≤ v4 ∧ v4 = v4 ∧ v4 ≤ (room : Int)) <|
(m_spec_l1Below_io1 a0 v2 v3 (4 : Int)).bind fun (v5, v6, v7) =>
(iter (l_spec_l8Draw_io1_0 a0 v1 v5) ((1 : Int), List.replicate v4.toNat (0 : Int), v6, v7)).bind fun
| (v30, v31, v32) => (
some (IntKind.i64.wrap ((1 : Int) + v1), v30, v31, v32))
theorem w_spec_l8Draw_io1 (x0 : Value) (a0 : List UInt8) (a1 : Int) (a2 : Int) (a3 : Int) (r : Int × (List Int) × Int × Int) (h : m_spec_l8Draw_io1 a0 a1 a2 a3 = some r) : AM.Spec Try.prog 98 [.ptr 2040 0, .int .i64 a3] [(2040, .box [.lst x0 (.bytes a0), .int .i64 a1, .int .i64 a2])] (.agg [.int .i64 r.1, .sl 1000 0]) [(1000, .arr 3 0 0 (.ints r.2.1)), (2040, .box [.lst x0 (.bytes a0), .int .i64 r.2.2.1, .int .i64 r.2.2.2])] := by
  refine spec_of (E := E98_spec_l8Draw) Try.func98 rfl rfl rfl rfl ?_
  refine Tri.run 1 [] [.keep [0, 1, 4] [4, 2040], .ownc 4 1 1100 3, .keep [0, 1, 4] [4, 1100, 2040]] (K' := [.code [(1, 0)] 0, .code [] 2]) (σ' := ⟨[(0, .ptr 2040 0), (1, .int .i64 a3), (4, .ptr 4 0)], [(4, .box [.int .i64 0, .sl 1100 0]), (1100, .arr 3 0 0 (.ints [])), (2040, .box [.lst x0 (.bytes a0), .int .i64 a1, .int .i64 a2])]⟩) rfl trivial rfl ?_
  obtain ⟨⟨v1, v2, v3⟩, hk1, h⟩ := bind_some h
  obtain ⟨v4, hk2, h⟩ := bind_some h
  obtain ⟨hg3, h⟩ := grd_some h
  refine Tri.run 2 [.r ⟨[2040], .int .i64 v1, [(2040, .box [.undf, .int .i64 v2, .int .i64 v3])]⟩, .r ⟨[], .int .i64 v4, []⟩] [.keep [0, 4, 5, 6] [4, 6, 16, 1100, 2040]] (K' := [.code [(3, 0)] 0, .code [] 4]) (σ' := ⟨[(0, .ptr 2040 0), (4, .ptr 4 0), (5, .int .i64 (IntKind.i64.wrap ((1 : Int) + v1))), (6, .ptr 6 0)], [(4, .box [.int .i64 0, .sl 1100 0]), (6, .box [.int .i64 (IntKind.i64.wrap ((1 : Int) + v1)), .sl 16 0]), (16, .arr 3 0 0 (.ints (List.replicate v4.toNat (0 : Int)))), (1100, .arr 3 0 0 (.ints [])), (2040, .box [.lst x0 (.bytes a0), .int .i64 v2, .int .i64 v3])]⟩) rfl ⟨hg3, (fun _ => (w_spec_CountCoalitions (IntKind.i64.wrap ((1 : Int) + v1)) v4 hk2)), (fun vf => ((w_spec_l1Below_io1 (vf 2040 0) a0 a1 a2 a3 (v1, v2, v3) hk1).swap 2060 2040)), trivial⟩ rfl ?_
  obtain ⟨⟨v5, v6, v7⟩, hk4, h⟩ := bind_some h
  refine Tri.run 2 [.r ⟨[2040], .int .i64 v5, [(2040, .box [.undf, .int .i64 v6, .int .i64 v7])]⟩] [.keep [0, 4, 5, 6, 7, 8] [4, 6, 16, 1100, 2040]] (K' := [.code [(4, 0), (1, 0)] 0, .blk 0, .code [] 5]) (σ' := ⟨[(0, .ptr 2040 0), (4, .ptr 4 0), (5, .int .i64 (IntKind.i64.wrap ((1 : Int) + v1))), (6, .ptr 6 0), (7, .int .i64 v5), (8, .int .i64 (1 : Int))], [(4, .box [.int .i64 0, .sl 1100 0]), (6, .box [.int .i64 (IntKind.i64.wrap ((1 : Int) + v1)), .sl 16 0]), (16, .arr 3 0 0 (.ints (List.replicate v4.toNat (0 : Int)))), (1100, .arr 3 0 0 (.ints [])), (2040, .box [.lst x0 (.bytes a0), .int .i64 v6, .int .i64 v7])]⟩) rfl ⟨(fun vf => ((w_spec_l1Below_io1 (vf 2040 0) a0 v2 v3 (4 : Int) (v5, v6, v7) hk4).swap 2060 2040)), trivial⟩ rfl ?_
  obtain ⟨x1, hk23, h⟩ := bind_some h
  refine Tri.loop (K1 := [.code [(4, 0), (1, 0), (0, 0)] 0]) (K2 := [.blk 0, .code [] 5]) (fun (v8, v9, v10, v11) => ⟨[(0, .ptr 2040 0), (4, .ptr 4 0), (5, .int .i64 (IntKind.i64.wrap ((1 : Int) + v1))), (6, .ptr 6 0), (7, .int .i64 v5), (8, .int .i64 v8)], [(4, .box [.int .i64 0, .sl 1100 0]), (6, .box [.int .i64 (IntKind.i64.wrap ((1 : Int) + v1)), .sl 16 0]), (16, .arr 3 0 0 (.ints v9)), (1100, .arr 3 0 0 (.ints [])), (2040, .box [.lst x0 (.bytes a0), .int .i64 v10, .int .i64 v11])]⟩) (fun x e σ' => match x with | (v30, v31, v32) => e = .exit 0 ∧ σ' = ⟨[(4, .ptr 4 0), (6, .ptr 6 0)], [(4, .box [.int .i64 0, .sl 1100 0]), (6, .box [.int .i64 (IntKind.i64.wrap ((1 : Int) + v1)), .sl 16 0]), (16, .arr 3 0 0 (.ints v30)), (1100, .arr 3 0 0 (.ints [])), (2040, .box [.lst x0 (.bytes a0), .int .i64 v31, .int .i64 v32])]⟩) hk23 rfl rfl ?_ ?_
  · intro s x hs
    clear h
    have h := hs
    clear hs
    obtain ⟨v8, v9, v10, v11⟩ := s
    refine Tri.run 1 [] [.keep [0, 4, 5, 6, 7, 8, 24] [4, 6, 16, 1100, 2040]] (K' := [.code [(4, 0), (1, 0), (0, 0), (0, 0)] 1, .code [(4, 0), (1, 0), (0, 0)] 1]) (σ' := ⟨[(0, .ptr 2040 0), (4, .ptr 4 0), (5, .int .i64 (IntKind.i64.wrap ((1 : Int) + v1))), (6, .ptr 6 0), (7, .int .i64 v5), (8, .int .i64 v8), (24, .bool (decide (v8 < (v9.length : Int))))], [(4, .box [.int .i64 0, .sl 1100 0]), (6, .box [.int .i64 (IntKind.i64.wrap ((1 : Int) + v1)), .sl 16 0]), (16, .arr 3 0 0 (.ints v9)), (1100, .arr 3 0 0 (.ints [])), (2040, .box [.lst x0 (.bytes a0), .int .i64 v10, .int .i64 v11])]⟩) rfl trivial rfl ?_
    rcases bif_some h with ⟨hd5, h⟩ | ⟨hd5, h⟩
    · refine Tri.run 3 [.g true] [.keep [0, 4, 5, 6, 7, 8, 27, 43] [4, 6, 16, 1100, 2040]] (K' := [.code [(4, 0), (1, 0), (0, 0), (1, 0), (0, 0), (1, 0)] 1, .blk 2, .blk 1, .code [(4, 0), (1, 0), (0, 0)] 2]) (σ' := ⟨[(0, .ptr 2040 0), (4, .ptr 4 0), (5, .int .i64 (IntKind.i64.wrap ((1 : Int) + v1))), (6, .ptr 6 0), (7, .int .i64 v5), (8, .int .i64 v8), (27, .int .i64 v5), (43, .bool (v5 == (0 : Int)))], [(4, .box [.int .i64 0, .sl 1100 0]), (6, .box [.int .i64 (IntKind.i64.wrap ((1 : Int) + v1)), .sl 16 0]), (16, .arr 3 0 0 (.ints v9)), (1100, .arr 3 0 0 (.ints [])), (2040, .box [.lst x0 (.bytes a0), .int .i64 v10, .int .i64 v11])]⟩) rfl ⟨hd5, trivial⟩ rfl ?_
      rcases bif_some h with ⟨hd6, h⟩ | ⟨hd6, h⟩
      · obtain ⟨v12, hk7, h⟩ := bind_some h
        obtain ⟨v13, hk8, h⟩ := bind_some h
        obtain ⟨⟨v14, v15, v16⟩, hk9, h⟩ := bind_some h
        obtain ⟨hg10, h⟩ := grd_some h
        refine Tri.run 3 [.g true, .r ⟨[], .int .i64 v12, []⟩, .r ⟨[], .int .i64 v13, []⟩, .r ⟨[2040], .int .i64 v14, [(2040, .box [.undf, .int .i64 v15, .int .i64 v16])]⟩] [.keep [0, 4, 5, 6, 7, 8] [4, 6, 16, 1100, 2040]] (K' := []) (σ' := ⟨[(0, .ptr 2040 0), (4, .ptr 4 0), (5, .int .i64 (IntKind.i64.wrap ((1 : Int) + v1))), (6, .ptr 6 0), (7, .int .i64 v5), (8, .int .i64 (IntKind.i64.wrap (v8 + (1 : Int))))], [(4, .box [.int .i64 0, .sl 1100 0]), (6, .box [.int .i64 (IntKind.i64.wrap ((1 : Int) + v1)), .sl 16 0]), (16, .arr 3 0 0 (.ints (v9.set v8.toNat (IntKind.i64.wrap ((IntKind.i64.wrap (v12 * v13)) + v14))))), (1100, .arr 3 0 0 (.ints [])), (2040, .box [.lst x0 (.bytes a0), .int .i64 v15, .int .i64 v16])]⟩) rfl ⟨hg10, (fun vf => ((w_spec_l1Below_io1 (vf 2040 0) a0 v10 v11 (2 : Int) (v14, v15, v16) hk9).swap 2060 2040)), (fun _ => (w_spec_SizeOf v8 v13 hk8)), (fun _ => (w_spec_SizeOf v8 v12 hk7)), hd6, trivial⟩ rfl ?_
        have h := Option.some.inj h
        subst h
        exact Tri.nil ⟨rfl, rfl⟩
      · refine Tri.run 2 [.g false] [.keep [0, 4, 5, 6, 7, 8, 27, 57] [4, 6, 16, 1100, 2040]] (K' := [.code [(4, 0), (1, 0), (0, 0), (1, 0), (0, 0), (1, 0), (1, 1)] 1, .blk 2, .blk 1, .code [(4, 0), (1, 0), (0, 0)] 2]) (σ' := ⟨[(0, .ptr 2040 0), (4, .ptr 4 0), (5, .int .i64 (IntKind.i64.wrap ((1 : Int) + v1))), (6, .ptr 6 0), (7, .int .i64 v5), (8, .int .i64 v8), (27, .int .i64 v5), (57, .bool (v5 == (1 : Int)))], [(4, .box [.int .i64 0, .sl 1100 0]), (6, .box [.int .i64 (IntKind.i64.wrap ((1 : Int) + v1)), .sl 16 0]), (16, .arr 3 0 0 (.ints v9)), (1100, .arr 3 0 0 (.ints [])), (2040, .box [.lst x0 (.bytes a0), .int .i64 v10, .int .i64 v11])]⟩) rfl ⟨hd6, trivial⟩ rfl ?_
        rcases bif_some h with ⟨hd11, h⟩ | ⟨hd11, h⟩
        · obtain ⟨⟨v17, v18, v19⟩, hk12, h⟩ := bind_some h
          obtain ⟨hg13, h⟩ := grd_some h
          refine Tri.run 3 [.g true, .r ⟨[2040], .int .i64 v17, [(2040, .box [.undf, .int .i64 v18, .int .i64 v19])]⟩] [.keep [0, 4, 5, 6, 7, 8] [4, 6, 16, 1100, 2040]] (K' := []) (σ' := ⟨[(0, .ptr 2040 0), (4, .ptr 4 0), (5, .int .i64 (IntKind.i64.wrap ((1 : Int) + v1))), (6, .ptr 6 0), (7, .int .i64 v5), (8, .int .i64 (IntKind.i64.wrap (v8 + (1 : Int))))], [(4, .box [.int .i64 0, .sl 1100 0]), (6, .box [.int .i64 (IntKind.i64.wrap ((1 : Int) + v1)), .sl 16 0]), (16, .arr 3 0 0 (.ints (v9.set v8.toNat v17))), (1100, .arr 3 0 0 (.ints [])), (2040, .box [.lst x0 (.bytes a0), .int .i64 v18, .int .i64 v19])]⟩) rfl ⟨hg13, (fun vf => ((w_spec_l1PickInt_io1 (vf 2040 0) a0 v10 v11 [(0 : Int), (1 : Int), (2 : Int), (3 : Int), (5 : Int), (8 : Int), (-2 : Int), (4 : Int)] (v17, v18, v19) hk12).swap 2100 2040)), hd11, trivial⟩ rfl ?_
          have h := Option.some.inj h
          subst h
          exact Tri.nil ⟨rfl, rfl⟩
        · refine Tri.run 2 [.g false] [.keep [0, 4, 5, 6, 7, 8, 66] [4, 6, 16, 1100, 2040]] (K' := [.code [(4, 0), (1, 0), (0, 0), (1, 0), (0, 0), (1, 0), (1, 1), (1, 1)] 1, .blk 2, .blk 1, .code [(4, 0), (1, 0), (0, 0)] 2]) (σ' := ⟨[(0, .ptr 2040 0), (4, .ptr 4 0), (5, .int .i64 (IntKind.i64.wrap ((1 : Int) + v1))), (6, .ptr 6 0), (7, .int .i64 v5), (8, .int .i64 v8), (66, .bool (v5 == (2 : Int)))], [(4, .box [.int .i64 0, .sl 1100 0]), (6, .box [.int .i64 (IntKind.i64.wrap ((1 : Int) + v1)), .sl 16 0]), (16, .arr 3 0 0 (.ints v9)), (1100, .arr 3 0 0 (.ints [])), (2040, .box [.lst x0 (.bytes a0), .int .i64 v10, .int .i64 v11])]⟩) rfl ⟨hd11, trivial⟩ rfl ?_
          rcases bif_some h with ⟨hd14, h⟩ | ⟨hd14, h⟩
          · obtain ⟨v20, hk15, h⟩ := bind_some h
            obtain ⟨⟨v21, v22, v23⟩, hk16, h⟩ := bind_some h
            obtain ⟨v24, hk17, h⟩ := bind_some h
            obtain ⟨hg18, h⟩ := grd_some h
            refine Tri.run 3 [.g true, .r ⟨[], .int .i64 v20, []⟩, .r ⟨[2040], .int .i64 v21, [(2040, .box [.undf, .int .i64 v22, .int .i64 v23])]⟩, .r ⟨[], .int .i64 v24, []⟩] [.keep [0, 4, 5, 6, 7, 8] [4, 6, 16, 1100, 2040]] (K' := []) (σ' := ⟨[(0, .ptr 2040 0), (4, .ptr 4 0), (5, .int .i64 (IntKind.i64.wrap ((1 : Int) + v1))), (6, .ptr 6 0), (7, .int .i64 v5), (8, .int .i64 (IntKind.i64.wrap (v8 + (1 : Int))))], [(4, .box [.int .i64 0, .sl 1100 0]), (6, .box [.int .i64 (IntKind.i64.wrap ((1 : Int) + v1)), .sl 16 0]), (16, .arr 3 0 0 (.ints (v9.set v8.toNat v24))), (1100, .arr 3 0 0 (.ints [])), (2040, .box [.lst x0 (.bytes a0), .int .i64 v22, .int .i64 v23])]⟩) rfl ⟨hg18, (fun _ => (w_spec_l1Max (0 : Int) (IntKind.i64.wrap ((IntKind.i64.wrap ((IntKind.i64.wrap ((3 : Int) * v20)) - (2 : Int))) - v21)) v24 hk17)), (fun vf => ((w_spec_l1Below_io1 (vf 2040 0) a0 v10 v11 (2 : Int) (v21, v22, v23) hk16).swap 2060 2040)), (fun _ => (w_spec_SizeOf v8 v20 hk15)), hd14, trivial⟩ rfl ?_
            have h := Option.some.inj h
            subst h
            exact Tri.nil ⟨rfl, rfl⟩
          · obtain ⟨v25, hk19, h⟩ := bind_some h
            obtain ⟨v26, hk20, h⟩ := bind_some h
            obtain ⟨⟨v27, v28, v29⟩, hk21, h⟩ := bind_some h
            obtain ⟨hg22, h⟩ := grd_some h
            refine Tri.run 3 [.g false, .r ⟨[], .int .i64 v25, []⟩, .r ⟨[], .int .i64 v26, []⟩, .r ⟨[2040], .int .i64 v27, [(2040, .box [.undf, .int .i64 v28, .int .i64 v29])]⟩] [.keep [0, 4, 5, 6, 7, 8] [4, 6, 16, 1100, 2040]] (K' := []) (σ' := ⟨[(0, .ptr 2040 0), (4, .ptr 4 0), (5, .int .i64 (IntKind.i64.wrap ((1 : Int) + v1))), (6, .ptr 6 0), (7, .int .i64 v5), (8, .int .i64 (IntKind.i64.wrap (v8 + (1 : Int))))], [(4, .box [.int .i64 0, .sl 1100 0]), (6, .box [.int .i64 (IntKind.i64.wrap ((1 : Int) + v1)), .sl 16 0]), (16, .arr 3 0 0 (.ints (v9.set v8.toNat (IntKind.i64.wrap (v26 * (IntKind.i64.wrap ((3 : Int) + (IntKind.i64.wrap (v27 * (3 : Int)))))))))), (1100, .arr 3 0 0 (.ints [])), (2040, .box [.lst x0 (.bytes a0), .int .i64 v28, .int .i64 v29])]⟩) rfl ⟨hg22, (fun vf => ((w_spec_l1Below_io1 (vf 2040 0) a0 v10 v11 (2 : Int) (v27, v28, v29) hk21).swap 2060 2040)), (fun _ => (w_spec_l1Bit (decide ((IntKind.i64.wrap (v25 * (2 : Int))) > (IntKind.i64.wrap ((1 : Int) + v1)))) v26 hk20)), (fun _ => (w_spec_SizeOf v8 v25 hk19)), hd14, trivial⟩ rfl ?_
            have h := Option.some.inj h
            subst h
            exact Tri.nil ⟨rfl, rfl⟩
    · refine Tri.run 1 [.g false] [.keep [4, 6] [4, 6, 16, 1100, 2040]] (K' := [.code [(4, 0), (1, 0), (0, 0), (0, 0), (1, 1)] 0, .code [(4, 0), (1, 0), (0, 0)] 1]) (σ' := ⟨[(4, .ptr 4 0), (6, .ptr 6 0)], [(4, .box [.int .i64 0, .sl 1100 0]), (6, .box [.int .i64 (IntKind.i64.wrap ((1 : Int) + v1)), .sl 16 0]), (16, .arr 3 0 0 (.ints v9)), (1100, .arr 3 0 0 (.ints [])), (2040, .box [.lst x0 (.bytes a0), .int .i64 v10, .int .i64 v11])]⟩) rfl ⟨hd5, trivial⟩ rfl ?_
      have h := Option.some.inj h
      subst h
      exact Tri.out 0 rfl ⟨nofun, rfl, rfl⟩
  · intro e σ' hne hq
    obtain ⟨v30, v31, v32⟩ := x1
    obtain ⟨rfl, rfl⟩ := hq
    refine TriX.exit (K' := [.code [] 5]) rfl ?_
    refine Tri.run 1 [] [.swap 16 1000, .keep [4] [4, 1000, 2040]] (K' := [.code [] 6]) (σ' := ⟨[(4, .ptr 4 0)], [(4, .box [.int .i64 (IntKind.i64.wrap ((1 : Int) + v1)), .sl 1000 0]), (1000, .arr 3 0 0 (.ints v30)), (2040, .box [.lst x0 (.bytes a0), .int .i64 v31, .int .i64 v32])]⟩) rfl trivial rfl ?_
    have h := Option.some.inj h
    subst h
    exact Tri.ret rfl ⟨.inl rfl, rfl, rfl⟩
/-! spec.l8Bent -/
noncomputable def E54_spec_l8Bent : Env := ⟨Try.prog, tys, (Try.f54.body).getD .skip, 39, tysOk, mixedOk⟩
abbrev q_spec_l8Bent_io1 (x0 : Value) (a0 : List UInt8) (r : Int × (List Int) × Int × Int) (σ' : ASt) : Prop := resAV E54_spec_l8Bent.T σ' Try.f54.results.toList = some (.agg [.int .i64 r.1, .sl 1000 0]) ∧ keepO σ'.ob (namesO [(1000, .arr 3 0 0 (.ints r.2.1)), (2020, .box [.lst x0 (.bytes a0), .int .i64 r.2.2.1, .int .i64 r.2.2.2])]) = [(1000, .arr 3 0 0 (.ints r.2.1)), (2020, .box [.lst x0 (.bytes a0), .int .i64 r.2.2.1, .int .i64 r.2.2.2])]
noncomputable def m_spec_l8Bent_io1 (a0 : List UInt8) (a1 : Int) (a2 : Int) : Option (Int × (List Int) × Int × Int) :=
(m_spec_l8Draw_io1 a0 a1 a2 (4 : Int)).bind fun (v1, v2, v3, v4) =>
(m_spec_l1Below_io1 a0 v3 v4 (12 : Int)).bind fun (v5, v6, v7) =>
bif v5 == (0 : Int) then
(grd ((0 : Int) ≤ (0 : Int) ∧ (0 : Int) < (v2.length : Int)) <|
some (v1, v2.set ((0 : Int).toNat) (1 : Int), v6, v7))
else
(bif v5 == (1 : Int) then
((m_spec_l1PickInt_io1 a0 v6 v7 [(0 : Int), (6 : Int), (2 : Int), (-1 : Int)]).bind fun (v8, v9, v10) =>
some (v8, v2, v9, v10))
else
(bif v5 == (2 : Int) then
(grd (v2.length + ([(1 : Int)] : List Int).length ≤ room) <|
some (v1, v2 ++ [(1 : Int)], v6, v7))
else
(bif v5 == (3 : Int) then
((m_spec_l1PickInt_io1 a0 v6 v7 [(500 : Int), (501 : Int), (-501 : Int)]).bind fun (v11, v12, v13) =>
grd ((0 : Int) ≤ IntKind.i64.wrap ((v2.length : Int) - (1 : Int)) ∧ IntKind.i64.wrap ((v2.length : Int) - (1 : Int)) < (v2.length : Int)) <|
some (v1, v2.set ((IntKind.i64.wrap ((v2.length : Int) - (1 : Int))).toNat) v11, v12, v13))
else
(some (v1, v2, v6, v7)))))
theorem w_spec_l8Bent_io1 (x0 : Value) (a0 : List UInt8) (a1 : Int) (a2 : Int) (r : Int × (List Int) × Int × Int) (h : m_spec_l8Bent_io1 a0 a1 a2 = some r) : AM.Spec Try.prog 54 [.ptr 2020 0] [(2020, .box [.lst x0 (.bytes a0), .int .i64 a1, .int .i64 a2])] (.agg [.int .i64 r.1, .sl 1000 0]) [(1000, .arr 3 0 0 (.ints r.2.1)), (2020, .box [.lst x0 (.bytes a0), .int .i64 r.2.2.1, .int .i64 r.2.2.2])] := by
  refine spec_of (E := E54_spec_l8Bent) Try.func54 rfl rfl rfl rfl ?_
  refine Tri.run 1 [] [.keep [0, 2] [2, 2020], .ownc 2 1 1100 3, .keep [0, 2] [2, 1100, 2020]] (K' := [.code [(1, 0)] 0, .code [] 2]) (σ' := ⟨[(0, .ptr 2020 0), (2, .ptr 2 0)], [(2, .box [.int .i64 0, .sl 1100 0]), (1100, .arr 3 0 0 (.ints [])), (2020, .box [.lst x0 (.bytes a0), .int .i64 a1, .int .i64 a2])]⟩) rfl trivial rfl ?_
  obtain ⟨⟨v1, v2, v3, v4⟩, hk1, h⟩ := bind_some h
  obtain ⟨⟨v5, v6, v7⟩, hk2, h⟩ := bind_some h
  refine Tri.run 3 [.r ⟨[2020], .agg [.int .i64 v1, .sl 1101 0], [(1101, .arr 3 0 0 (.ints v2)), (2020, .box [.undf, .int .i64 v3, .int .i64 v4])]⟩, .r ⟨[2020], .int .i64 v5, [(2020, .box [.undf, .int .i64 v6, .int .i64 v7])]⟩] [.keep [0, 2, 3, 7, 8] [2, 3, 1100, 1101, 2020]] (K' := [.code [(2, 0), (1, 0)] 1, .blk 0, .code [] 3]) (σ' := ⟨[(0, .ptr 2020 0), (2, .ptr 2 0), (3, .ptr 3 0), (7, .int .i64 v5), (8, .bool (v5 == (0 : Int)))], [(2, .box [.int .i64 0, .sl 1100 0]), (3, .box [.int .i64 v1, .sl 1101 0]), (1100, .arr 3 0 0 (.ints [])), (1101, .arr 3 0 0 (.ints v2)), (2020, .box [.lst x0 (.bytes a0), .int .i64 v6, .int .i64 v7])]⟩) rfl ⟨(fun vf => ((w_spec_l1Below_io1 (vf 2020 0) a0 v3 v4 (12 : Int) (v5, v6, v7) hk2).swap 2060 2020)), (fun vf => (((w_spec_l8Draw_io1 (vf 2020 0) a0 a1 a2 (4 : Int) (v1, v2, v3, v4) hk1).swap 1000 1101).swap 2040 2020)), trivial⟩ rfl ?_
  rcases bif_some h with ⟨hd3, h⟩ | ⟨hd3, h⟩
  · obtain ⟨hg4, h⟩ := grd_some h
    refine Tri.run 3 [.g true] [.swap 1101 1000, .keep [2] [2, 1000, 2020]] (K' := [.code [] 4]) (σ' := ⟨[(2, .ptr 2 0)], [(2, .box [.int .i64 v1, .sl 1000 0]), (1000, .arr 3 0 0 (.ints (v2.set ((0 : Int).toNat) (1 : Int)))), (2020, .box [.lst x0 (.bytes a0), .int .i64 v6, .int .i64 v7])]⟩) rfl ⟨hg4, hd3, trivial⟩ rfl ?_
    have h := Option.some.inj h
    subst h
    exact Tri.ret rfl ⟨.inl rfl, rfl, rfl⟩
  · refine Tri.run 2 [.g false] [.keep [0, 2, 3, 7, 13] [2, 3, 1100, 1101, 2020]] (K' := [.code [(2, 0), (1, 0), (1, 1)] 1, .blk 0, .code [] 3]) (σ' := ⟨[(0, .ptr 2020 0), (2, .ptr 2 0), (3, .ptr 3 0), (7, .int .i64 v5), (13, .bool (v5 == (1 : Int)))], [(2, .box [.int .i64 0, .sl 1100 0]), (3, .box [.int .i64 v1, .sl 1101 0]), (1100, .arr 3 0 0 (.ints [])), (1101, .arr 3 0 0 (.ints v2)), (2020, .box [.lst x0 (.bytes a0), .int .i64 v6, .int .i64 v7])]⟩) rfl ⟨hd3, trivial⟩ rfl ?_
    rcases bif_some h with ⟨hd5, h⟩ | ⟨hd5, h⟩
    · obtain ⟨⟨v8, v9, v10⟩, hk6, h⟩ := bind_some h
      refine Tri.run 3 [.g true, .r ⟨[2020], .int .i64 v8, [(2020, .box [.undf, .int .i64 v9, .int .i64 v10])]⟩] [.swap 1101 1000, .keep [2] [2, 1000, 2020]] (K' := [.code [] 4]) (σ' := ⟨[(2, .ptr 2 0)], [(2, .box [.int .i64 v8, .sl 1000 0]), (1000, .arr 3 0 0 (.ints v2)), (2020, .box [.lst x0 (.bytes a0), .int .i64 v9, .int .i64 v10])]⟩) rfl ⟨(fun vf => ((w_spec_l1PickInt_io1 (vf 2020 0) a0 v6 v7 [(0 : Int), (6 : Int), (2 : Int), (-1 : Int)] (v8, v9, v10) hk6).swap 2100 2020)), hd5, trivial⟩ rfl ?_
      have h := Option.some.inj h
      subst h
      exact Tri.ret rfl ⟨.inl rfl, rfl, rfl⟩
    · refine Tri.run 2 [.g false] [.keep [0, 2, 3, 7, 19] [2, 3, 1100, 1101, 2020]] (K' := [.code [(2, 0), (1, 0), (1, 1), (1, 1)] 1, .blk 0, .code [] 3]) (σ' := ⟨[(0, .ptr 2020 0), (2, .ptr 2 0), (3, .ptr 3 0), (7, .int .i64 v5), (19, .bool (v5 == (2 : Int)))], [(2, .box [.int .i64 0, .sl 1100 0]), (3, .box [.int .i64 v1, .sl 1101 0]), (1100, .arr 3 0 0 (.ints [])), (1101, .arr 3 0 0 (.ints v2)), (2020, .box [.lst x0 (.bytes a0), .int .i64 v6, .int .i64 v7])]⟩) rfl ⟨hd5, trivial⟩ rfl ?_
      rcases bif_some h with ⟨hd7, h⟩ | ⟨hd7, h⟩
      · obtain ⟨hg8, h⟩ := grd_some h
        refine Tri.run 3 [.g true] [.rever 1101, .swap 1101 1000, .keep [2] [2, 1000, 2020]] (K' := [.code [] 4]) (σ' := ⟨[(2, .ptr 2 0)], [(2, .box [.int .i64 v1, .sl 1000 0]), (1000, .arr 3 0 0 (.ints (v2 ++ [(1 : Int)]))), (2020, .box [.lst x0 (.bytes a0), .int .i64 v6, .int .i64 v7])]⟩) rfl ⟨hg8, hd7, trivial⟩ rfl ?_
        have h := Option.some.inj h
        subst h
        exact Tri.ret rfl ⟨.inl rfl, rfl, rfl⟩
      · refine Tri.run 2 [.g false] [.keep [0, 2, 3, 26] [2, 3, 1100, 1101, 2020]] (K' := [.code [(2, 0), (1, 0), (1, 1), (1, 1), (1, 1)] 1, .blk 0, .code [] 3]) (σ' := ⟨[(0, .ptr 2020 0), (2, .ptr 2 0), (3, .ptr 3 0), (26, .bool (v5 == (3 : Int)))], [(2, .box [.int .i64 0, .sl 1100 0]), (3, .box [.int .i64 v1, .sl 1101 0]), (1100, .arr 3 0 0 (.ints [])), (1101, .arr 3 0 0 (.ints v2)), (2020, .box [.lst x0 (.bytes a0), .int .i64 v6, .int .i64 v7])]⟩) rfl ⟨hd7, trivial⟩ rfl ?_
        rcases bif_some h with ⟨hd9, h⟩ | ⟨hd9, h⟩
        · obtain ⟨⟨v11, v12, v13⟩, hk10, h⟩ := bind_some h
          obtain ⟨hg11, h⟩ := grd_some h
          refine Tri.run 3 [.g true, .r ⟨[2020], .int .i64 v11, [(2020, .box [.undf, .int .i64 v12, .int .i64 v13])]⟩] [.swap 1101 1000, .keep [2] [2, 1000, 2020]] (K' := [.code [] 4]) (σ' := ⟨[(2, .ptr 2 0)], [(2, .box [.int .i64 v1, .sl 1000 0]), (1000, .arr 3 0 0 (.ints (v2.set ((IntKind.i64.wrap ((v2.length : Int) - (1 : Int))).toNat) v11))), (2020, .box [.lst x0 (.bytes a0), .int .i64 v12, .int .i64 v13])]⟩) rfl ⟨hg11, (fun vf => ((w_spec_l1PickInt_io1 (vf 2020 0) a0 v6 v7 [(500 : Int), (501 : Int), (-501 : Int)] (v11, v12, v13) hk10).swap 2100 2020)), hd9, trivial⟩ rfl ?_
          have h := Option.some.inj h
          subst h
          exact Tri.ret rfl ⟨.inl rfl, rfl, rfl⟩
        · refine Tri.run 2 [.g false] [.swap 1101 1000, .keep [2] [2, 1000, 2020]] (K' := [.code [] 4]) (σ' := ⟨[(2, .ptr 2 0)], [(2, .box [.int .i64 v1, .sl 1000 0]), (1000, .arr 3 0 0 (.ints v2)), (2020, .box [.lst x0 (.bytes a0), .int .i64 v6, .int .i64 v7])]⟩) rfl ⟨hd9, trivial⟩ rfl ?_
          have h := Option.some.inj h
          subst h
          exact Tri.ret rfl ⟨.inl rfl, rfl, rfl⟩
/-! spec.DrawPotentialOf -/
noncomputable def E48_spec_DrawPotentialOf : Env := ⟨Try.prog, tys, (Try.f48.body).getD .skip, 6, tysOk, mixedOk⟩
abbrev q_spec_DrawPotentialOf (r : Int × (List Int)) (σ' : ASt) : Prop := resAV E48_spec_DrawPotentialOf.T σ' Try.f48.results.toList = some (.agg [.int .i64 r.1, .sl 1000 0]) ∧ keepO σ'.ob (namesO [(1000, .arr 3 0 0 (.ints r.2))]) = [(1000, .arr 3 0 0 (.ints r.2))]
noncomputable def m_spec_DrawPotentialOf (a0 : List UInt8) : Option (Int × (List Int)) :=
(m_spec_l1New_io2 0 [] a0).bind fun (v1, v2, v3, _, _) =>
(m_spec_l8Bent_io1 v1 v2 v3).bind fun (v6, v7, _, _) =>
some (v6, v7)
theorem w_spec_DrawPotentialOf (a0 : List UInt8) (r : Int × (List Int)) (h : m_spec_DrawPotentialOf a0 = some r) : AM.Spec Try.prog 48 [.list (.bytes a0)] [] (.agg [.int .i64 r.1, .sl 1000 0]) [(1000, .arr 3 0 0 (.ints r.2))] := by
  refine spec_of (E := E48_spec_DrawPotentialOf) Try.func48 rfl rfl rfl rfl ?_
  refine Tri.run 1 [] [.keep [0, 2] [2], .ownc 2 1 1100 3, .keep [0, 2] [2, 1100]] (K' := [.code [(1, 0)] 0, .code [] 2]) (σ' := ⟨[(0, .list (.bytes a0)), (2, .ptr 2 0)], [(2, .box [.int .i64 0, .sl 1100 0]), (1100, .arr 3 0 0 (.ints []))]⟩) rfl trivial rfl ?_
  obtain ⟨⟨v1, v2, v3, v4, v5⟩, hk1, h⟩ := bind_some h
  obtain ⟨⟨v6, v7, v8, v9⟩, hk2, h⟩ := bind_some h
  refine Tri.run 1 [.r ⟨[2, 1100], .ptr 1101 0, [(1101, .box [.list (.bytes v1), .int .i64 v2, .int .i64 v3]), (1102, .arr 3 0 0 (.ints v4)), (2, .box [.int .i64 v5, .sl 1102 0])]⟩, .r ⟨[1101], .agg [.int .i64 v6, .sl 1103 0], [(1103, .arr 3 0 0 (.ints v7)), (1101, .box [.undf, .int .i64 v8, .int .i64 v9])]⟩] [.swap 1103 1000, .keep [2] [2, 1000]] (K' := [.code [] 2]) (σ' := ⟨[(2, .ptr 2 0)], [(2, .box [.int .i64 v6, .sl 1000 0]), (1000, .arr 3 0 0 (.ints v7))]⟩) rfl ⟨(fun vf => (((w_spec_l8Bent_io1 (vf 1101 0) v1 v2 v3 (v6, v7, v8, v9) hk2).swap 1000 1103).swap 2020 1101)), (fun _ => (((((w_spec_l1New_io2 0 [] a0 (v1, v2, v3, v4, v5) hk1).swap 1000 1101).swap 1001 1102).swap 2000 2).swap 2001 1100)), trivial⟩ rfl ?_
  have h := Option.some.inj h
  subst h
  exact Tri.ret rfl ⟨.inl rfl, rfl, rfl⟩
/-! impl.within -/
noncomputable def E59_impl_within : Env := ⟨Try.prog, tys, (Try.f59.body).getD .skip, 15, tysOk, mixedOk⟩
abbrev q_impl_within (r : Bool) (σ' : ASt) : Prop := resAV E59_impl_within.T σ' Try.f59.results.toList = some (.bool r) ∧ keepO σ'.ob (namesO []) = []
noncomputable def m_impl_within (a0 : Int) (a1 : Int) (a2 : Int) : Option Bool :=
bif decide (a0 ≥ a1) then
(some (decide (a0 ≤ a2)))
else
(some false)
theorem w_impl_within (a0 : Int) (a1 : Int) (a2 : Int) (r : Bool) (h : m_impl_within a0 a1 a2 = some r) : AM.Spec Try.prog 59 [.int .i64 a0, .int .i64 a1, .int .i64 a2] [] (.bool r) [] := by
  refine spec_of (E := E59_impl_within) Try.func59 rfl rfl rfl rfl ?_
  refine Tri.run 1 [] [.keep [0, 1, 2] []] (K' := [.code [(1, 0)] 0, .code [] 2]) (σ' := ⟨[(0, .int .i64 a0), (1, .int .i64 a1), (2, .int .i64 a2)], []⟩) rfl trivial rfl ?_
  rcases bif_some h with ⟨hd1, h⟩ | ⟨hd1, h⟩
  · refine Tri.run 1 [.g true] [.keep [6] []] (K' := [.code [] 2]) (σ' := ⟨[(6, .bool (decide (a0 ≤ a2)))], []⟩) rfl ⟨hd1, trivial⟩ rfl ?_
    have h := Option.some.inj h
    subst h
    exact Tri.ret rfl ⟨.inl rfl, rfl, rfl⟩
  · refine Tri.run 1 [.g false] [.keep [6] []] (K' := [.code [] 2]) (σ' := ⟨[(6, .bool false)], []⟩) rfl ⟨hd1, trivial⟩ rfl ?_
    have h := Option.some.inj h
    subst h
    exact Tri.ret rfl ⟨.inl rfl, rfl, rfl⟩
/-! impl.IsValidGame$1 -/
noncomputable def E82_impl_IsValidGame_1 : Env := ⟨Try.prog, tys, (Try.f82.body).getD .skip, 6, tysOk, mixedOk⟩
abbrev q_impl_IsValidGame_1 (r : Bool) (σ' : ASt) : Prop := resAV E82_impl_IsValidGame_1.T σ' Try.f82.results.toList = some (.bool r) ∧ keepO σ'.ob (namesO []) = []
noncomputable def m_impl_IsValidGame_1 (a0 : Int) : Option Bool :=
(m_impl_within a0 (-500 : Int) (500 : Int)).bind fun v1 =>
some (!v1)
theorem w_impl_IsValidGame_1 (a0 : Int) (r : Bool) (h : m_impl_IsValidGame_1 a0 = some r) : AM.Spec Try.prog 82 [.int .i64 a0] [] (.bool r) [] := by
  refine spec_of (E := E82_impl_IsValidGame_1) Try.func82 rfl rfl rfl rfl ?_
  refine Tri.run 1 [] [.keep [0] []] (K' := [.code [(1, 0)] 0, .code [] 2]) (σ' := ⟨[(0, .int .i64 a0)], []⟩) rfl trivial rfl ?_
  obtain ⟨v1, hk1, h⟩ := bind_some h
  refine Tri.run 1 [.r ⟨[], .bool v1, []⟩] [.keep [2] []] (K' := [.code [] 2]) (σ' := ⟨[(2, .bool (!v1))], []⟩) rfl ⟨(fun _ => (w_impl_within a0 (-500 : Int) (500 : Int) v1 hk1)), trivial⟩ rfl ?_
  have h := Option.some.inj h
  subst h
  exact Tri.ret rfl ⟨.inl rfl, rfl, rfl⟩
/-! slices.IndexFunc(()int,int) -/
noncomputable def E102_slices_IndexFunc_int_int : Env := ⟨Try.prog, tys, (Try.f102.body).getD .skip, 19, tysOk, mixedOk⟩
abbrev q_slices_IndexFunc_int_int_impl_IsValidGame_1 (r : Int) (σ' : ASt) : Prop := resAV E102_slices_IndexFunc_int_int.T σ' Try.f102.results.toList = some (.int .i64 r) ∧ keepO σ'.ob (namesO []) = []
noncomputable def l_slices_IndexFunc_int_int_impl_IsValidGame_1_0 (a0 : List Int) (v1 : Int) : Option (Int ⊕ (Unit ⊕ Int)) :=
bif decide (v1 < (a0.length : Int)) then
(grd ((0 : Int) ≤ v1 ∧ v1 < (a0.length : Int)) <|
(m_impl_IsValidGame_1 (a0.getD v1.toNat 0)).bind fun v2 =>
bif v2 then
(some (.inr (.inr v1)))
else
(some (.inl (IntKind.i64.wrap (v1 + (1 : Int))))))
else
(some (.inr (.inl ())))
noncomputable def m_slices_IndexFunc_int_int_impl_IsValidGame_1 (a0 : List Int) : Option Int :=
(iter (l_slices_IndexFunc_int_int_impl_IsValidGame_1_0 a0) (0 : Int)).bind fun
| (.inl _) => (
some (-1 : Int))
| (.inr r) => some r
theorem w_slices_IndexFunc_int_int_impl_IsValidGame_1 (a0 : List Int) (r : Int) (h : m_slices_IndexFunc_int_int_impl_IsValidGame_1 a0 = some r) : AM.Spec Try.prog 102 [.list (.ints a0), .func 82 [] []] [] (.int .i64 r) [] := by
  refine spec_of (E := E102_slices_IndexFunc_int_int) Try.func102 rfl rfl rfl rfl ?_
  refine Tri.run 2 [] [.keep [0, 1, 7, 8] []] (K' := [.code [(1, 0), (1, 0)] 0, .blk 0, .code [] 2]) (σ' := ⟨[(0, .list (.ints a0)), (1, .func 82 [] []), (7, .int .i64 (a0.length : Int)), (8, .int .i64 (0 : Int))], []⟩) rfl trivial rfl ?_
  obtain ⟨x1, hk5, h⟩ := bind_some h
  refine Tri.loop (K1 := [.code [(1, 0), (1, 0), (0, 0)] 0]) (K2 := [.blk 0, .code [] 2]) (fun v1 => ⟨[(0, .list (.ints a0)), (1, .func 82 [] []), (7, .int .i64 (a0.length : Int)), (8, .int .i64 v1)], []⟩) (fun x e σ' => match x with | (.inl _) => e = .exit 0 ∧ σ' = ⟨[], []⟩ | (.inr r) => e = .ret ∧ q_slices_IndexFunc_int_int_impl_IsValidGame_1 r σ') hk5 rfl rfl ?_ ?_
  · intro v1 x hs
    clear h
    have h := hs
    clear hs
    refine Tri.run 1 [] [.keep [0, 1, 7, 8, 9] []] (K' := [.code [(1, 0), (1, 0), (0, 0), (1, 0)] 0, .code [(1, 0), (1, 0), (0, 0)] 2]) (σ' := ⟨[(0, .list (.ints a0)), (1, .func 82 [] []), (7, .int .i64 (a0.length : Int)), (8, .int .i64 v1), (9, .bool (decide (v1 < (a0.length : Int))))], []⟩) rfl trivial rfl ?_
    rcases bif_some h with ⟨hd1, h⟩ | ⟨hd1, h⟩
    · refine Tri.run 2 [.g true] [.keep [0, 1, 5, 7, 8] []] (K' := [.code [(1, 0), (1, 0), (0, 0), (2, 0), (0, 0), (1, 0)] 0, .code [(1, 0), (1, 0), (0, 0), (2, 0), (0, 0)] 2, .blk 1, .code [(1, 0), (1, 0), (0, 0)] 3]) (σ' := ⟨[(0, .list (.ints a0)), (1, .func 82 [] []), (5, .int .i64 v1), (7, .int .i64 (a0.length : Int)), (8, .int .i64 v1)], []⟩) rfl ⟨hd1, trivial⟩ rfl ?_
      obtain ⟨hg2, h⟩ := grd_some h
      obtain ⟨v2, hk3, h⟩ := bind_some h
      refine Tri.run 1 [.r ⟨[], .bool v2, []⟩] [.keep [0, 1, 5, 7, 8, 16] []] (K' := [.code [(1, 0), (1, 0), (0, 0), (2, 0), (0, 0)] 2, .blk 1, .code [(1, 0), (1, 0), (0, 0)] 3]) (σ' := ⟨[(0, .list (.ints a0)), (1, .func 82 [] []), (5, .int .i64 v1), (7, .int .i64 (a0.length : Int)), (8, .int .i64 v1), (16, .bool v2)], []⟩) rfl ⟨(fun _ => (w_impl_IsValidGame_1 (a0.getD v1.toNat 0) v2 hk3)), hg2, trivial⟩ rfl ?_
      rcases bif_some h with ⟨hd4, h⟩ | ⟨hd4, h⟩
      · refine Tri.run 2 [.g true] [.keep [4] []] (K' := [.code [(1, 0), (1, 0), (0, 0), (2, 0), (0, 0), (2, 0)] 1, .blk 1, .code [(1, 0), (1, 0), (0, 0)] 3]) (σ' := ⟨[(4, .int .i64 v1)], []⟩) rfl ⟨hd4, trivial⟩ rfl ?_
        have h := Option.some.inj h
        subst h
        exact Tri.ret rfl ⟨nofun, rfl, rfl, rfl⟩
      · refine Tri.run 2 [.g false] [.keep [0, 1, 7, 8] []] (K' := []) (σ' := ⟨[(0, .list (.ints a0)), (1, .func 82 [] []), (7, .int .i64 (a0.length : Int)), (8, .int .i64 (IntKind.i64.wrap (v1 + (1 : Int))))], []⟩) rfl ⟨hd4, trivial⟩ rfl ?_
        have h := Option.some.inj h
        subst h
        exact Tri.nil ⟨rfl, rfl⟩
    · refine Tri.run 1 [.g false] [.keep [] []] (K' := [.code [(1, 0), (1, 0), (0, 0), (1, 0), (0, 1)] 0, .code [(1, 0), (1, 0), (0, 0)] 2]) (σ' := ⟨[], []⟩) rfl ⟨hd1, trivial⟩ rfl ?_
      have h := Option.some.inj h
      subst h
      exact Tri.out 0 rfl ⟨nofun, rfl, rfl⟩
  · intro e σ' hne hq
    rcases x1 with _ | r
    · obtain ⟨rfl, rfl⟩ := hq
      refine TriX.exit (K' := [.code [] 2]) rfl ?_
      refine Tri.run 1 [] [.keep [4] []] (K' := [.code [] 3]) (σ' := ⟨[(4, .int .i64 (-1 : Int))], []⟩) rfl trivial rfl ?_
      have h := Option.some.inj h
      subst h
      exact Tri.ret rfl ⟨.inl rfl, rfl, rfl⟩
    · obtain ⟨rfl, hq⟩ := hq
      have h := Option.some.inj h
      subst h
      exact TriX.ret ⟨.inl rfl, hq⟩
/-! slices.ContainsFunc(()int,int) -/
noncomputable def E72_slices_ContainsFunc_int_int : Env := ⟨Try.prog, tys, (Try.f72.body).getD .skip, 9, tysOk, mixedOk⟩
abbrev q_slices_ContainsFunc_int_int_impl_IsValidGame_1 (r : Bool) (σ' : ASt) : Prop := resAV E72_slices_ContainsFunc_int_int.T σ' Try.f72.results.toList = some (.bool r) ∧ keepO σ'.ob (namesO []) = []
noncomputable def m_slices_ContainsFunc_int_int_impl_IsValidGame_1 (a0 : List Int) : Option Bool :=
(m_slices_IndexFunc_int_int_impl_IsValidGame_1 a0).bind fun v1 =>
some (decide (v1 ≥ (0 : Int)))
theorem w_slices_ContainsFunc_int_int_impl_IsValidGame_1 (a0 : List Int) (r : Bool) (h : m_slices_ContainsFunc_int_int_impl_IsValidGame_1 a0 = some r) : AM.Spec Try.prog 72 [.list (.ints a0), .func 82 [] []] [] (.bool r) [] := by
  refine spec_of (E := E72_slices_ContainsFunc_int_int) Try.func72 rfl rfl rfl rfl ?_
  refine Tri.run 1 [] [.keep [0, 1] []] (K' := [.code [(1, 0)] 0, .code [] 2]) (σ' := ⟨[(0, .list (.ints a0)), (1, .func 82 [] [])], []⟩) rfl trivial rfl ?_
  obtain ⟨v1, hk1, h⟩ := bind_some h
  refine Tri.run 1 [.r ⟨[], .int .i64 v1, []⟩] [.keep [4] []] (K' := [.code [] 2]) (σ' := ⟨[(4, .bool (decide (v1 ≥ (0 : Int))))], []⟩) rfl ⟨(fun _ => (w_slices_IndexFunc_int_int_impl_IsValidGame_1 a0 v1 hk1)), trivial⟩ rfl ?_
  have h := Option.some.inj h
  subst h
  exact Tri.ret rfl ⟨.inl rfl, rfl, rfl⟩
/-! impl.IsValidGame -/
noncomputable def E35_impl_IsValidGame : Env := ⟨Try.prog, tys, (Try.f35.body).getD .skip, 27, tysOk, mixedOk⟩
abbrev q_impl_IsValidGame (r : Bool) (σ' : ASt) : Prop := resAV E35_impl_IsValidGame.T σ' Try.f35.results.toList = some (.bool r) ∧ keepO σ'.ob (namesO []) = []
noncomputable def m_impl_IsValidGame (a0 : Int) (a1 : List Int) : Option Bool :=
(m_impl_within a0 (1 : Int) (5 : Int)).bind fun v1 =>
bif !v1 then
(some false)
else
(grd ((0 : Int) ≤ a0) <|
bif (a1.length : Int) != (IntKind.i64.wrap ((1 : Int) * 2 ^ (min a0.toNat 64))) then
(some false)
else
(grd ((0 : Int) ≤ (0 : Int) ∧ (0 : Int) < (a1.length : Int)) <|
bif (a1.getD ((0 : Int).toNat) 0) != (0 : Int) then
(some false)
else
((m_slices_ContainsFunc_int_int_impl_IsValidGame_1 a1).bind fun v2 =>
some (!v2))))
theorem w_impl_IsValidGame (a0 : Int) (a1 : List Int) (r : Bool) (h : m_impl_IsValidGame a0 a1 = some r) : AM.Spec Try.prog 35 [.agg [.int .i64 a0, .list (.ints a1)]] [] (.bool r) [] := by
  refine spec_of (E := E35_impl_IsValidGame) Try.func35 rfl rfl rfl rfl ?_
  refine Tri.run 1 [] [.keep [1] [1]] (K' := [.code [(1, 0), (0, 0)] 0, .code [(1, 0)] 1, .code [] 2]) (σ' := ⟨[(1, .ptr 1 0)], [(1, .box [.int .i64 a0, .list (.ints a1)])]⟩) rfl trivial rfl ?_
  obtain ⟨v1, hk1, h⟩ := bind_some h
  rcases bif_some h with ⟨hd2, h⟩ | ⟨hd2, h⟩
  · refine Tri.run 1 [.r ⟨[], .bool v1, []⟩, .g true, .g true] [.keep [1, 22] [1]] (K' := [.code [(1, 0)] 1, .code [] 2]) (σ' := ⟨[(1, .ptr 1 0), (22, .bool true)], [(1, .box [.int .i64 a0, .list (.ints a1)])]⟩) rfl ⟨rfl, hd2, (fun _ => (w_impl_within a0 (1 : Int) (5 : Int) v1 hk1)), trivial⟩ rfl ?_
    refine Tri.run 2 [.g true] [.keep [2] []] (K' := [.code [(1, 0), (1, 0)] 1, .code [] 2]) (σ' := ⟨[(2, .bool false)], []⟩) rfl ⟨rfl, trivial⟩ rfl ?_
    have h := Option.some.inj h
    subst h
    exact Tri.ret rfl ⟨.inl rfl, rfl, rfl⟩
  · obtain ⟨hg3, h⟩ := grd_some h
    rcases bif_some h with ⟨hd4, h⟩ | ⟨hd4, h⟩
    · refine Tri.run 1 [.r ⟨[], .bool v1, []⟩, .g false, .g true] [.keep [1, 22] [1]] (K' := [.code [(1, 0)] 1, .code [] 2]) (σ' := ⟨[(1, .ptr 1 0), (22, .bool true)], [(1, .box [.int .i64 a0, .list (.ints a1)])]⟩) rfl ⟨hd4, hg3, hd2, (fun _ => (w_impl_within a0 (1 : Int) (5 : Int) v1 hk1)), trivial⟩ rfl ?_
      refine Tri.run 2 [.g true] [.keep [2] []] (K' := [.code [(1, 0), (1, 0)] 1, .code [] 2]) (σ' := ⟨[(2, .bool false)], []⟩) rfl ⟨rfl, trivial⟩ rfl ?_
      have h := Option.some.inj h
      subst h
      exact Tri.ret rfl ⟨.inl rfl, rfl, rfl⟩
    · obtain ⟨hg5, h⟩ := grd_some h
      refine Tri.run 1 [.r ⟨[], .bool v1, []⟩, .g false, .g false] [.keep [1, 22] [1]] (K' := [.code [(1, 0)] 1, .code [] 2]) (σ' := ⟨[(1, .ptr 1 0), (22, .bool ((a1.getD ((0 : Int).toNat) 0) != (0 : Int)))], [(1, .box [.int .i64 a0, .list (.ints a1)])]⟩) rfl ⟨hg5, hd4, hg3, hd2, (fun _ => (w_impl_within a0 (1 : Int) (5 : Int) v1 hk1)), trivial⟩ rfl ?_
      rcases bif_some h with ⟨hd6, h⟩ | ⟨hd6, h⟩
      · refine Tri.run 2 [.g true] [.keep [2] []] (K' := [.code [(1, 0), (1, 0)] 1, .code [] 2]) (σ' := ⟨[(2, .bool false)], []⟩) rfl ⟨hd6, trivial⟩ rfl ?_
        have h := Option.some.inj h
        subst h
        exact Tri.ret rfl ⟨.inl rfl, rfl, rfl⟩
      · obtain ⟨v2, hk7, h⟩ := bind_some h
        refine Tri.run 2 [.g false, .r ⟨[], .bool v2, []⟩] [.keep [2] []] (K' := [.code [] 3]) (σ' := ⟨[(2, .bool (!v2))], []⟩) rfl ⟨(fun _ => (w_slices_ContainsFunc_int_int_impl_IsValidGame_1 a1 v2 hk7)), hd6, trivial⟩ rfl ?_
        have h := Option.some.inj h
        subst h
        exact Tri.ret rfl ⟨.inl rfl, rfl, rfl⟩
/-! impl.whole -/
noncomputable def E90_impl_whole : Env := ⟨Try.prog, tys, (Try.f90.body).getD .skip, 5, tysOk, mixedOk⟩
abbrev q_impl_whole (r : Int × Int) (σ' : ASt) : Prop := resAV E90_impl_whole.T σ' Try.f90.results.toList = some (.agg [.int .i64 r.1, .int .i64 r.2]) ∧ keepO σ'.ob (namesO []) = []
noncomputable def m_impl_whole (a0 : Int) : Option (Int × Int) :=
some (a0, (1 : Int))
theorem w_impl_whole (a0 : Int) (r : Int × Int) (h : m_impl_whole a0 = some r) : AM.Spec Try.prog 90 [.int .i64 a0] [] (.agg [.int .i64 r.1, .int .i64 r.2]) [] := by
  refine spec_of (E := E90_impl_whole) Try.func90 rfl rfl rfl rfl ?_
  refine Tri.run 2 [] [.keep [2] [2]] (K' := [.code [] 2]) (σ' := ⟨[(2, .ptr 2 0)], [(2, .box [.int .i64 a0, .int .i64 (1 : Int)])]⟩) rfl trivial rfl ?_
  have h := Option.some.inj h
  subst h
  exact Tri.ret rfl ⟨.inl rfl, rfl, rfl⟩
/-! impl.HasPlayer -/
noncomputable def E81_impl_HasPlayer : Env := ⟨Try.prog, tys, (Try.f81.body).getD .skip, 18, tysOk, mixedOk⟩
abbrev q_impl_HasPlayer (r : Bool) (σ' : ASt) : Prop := resAV E81_impl_HasPlayer.T σ' Try.f81.results.toList = some (.bool r) ∧ keepO σ'.ob (namesO []) = []
noncomputable def m_impl_HasPlayer (a0 : Int) (a1 : Int) : Option Bool :=
bif decide (a0 ≥ (0 : Int)) then
((m_impl_within a1 (0 : Int) (4 : Int)).bind fun v1 =>
bif v1 then
(grd ((0 : Int) ≤ a1) <|
some ((bitsOf .and .i64 (a0.fdiv (2 ^ (min a1.toNat 64))) (1 : Int)) == (1 : Int)))
else
(some false))
else
(some false)
theorem w_impl_HasPlayer (a0 : Int) (a1 : Int) (r : Bool) (h : m_impl_HasPlayer a0 a1 = some r) : AM.Spec Try.prog 81 [.int .i64 a0, .int .i64 a1] [] (.bool r) [] := by
  refine spec_of (E := E81_impl_HasPlayer) Try.func81 rfl rfl rfl rfl ?_
  refine Tri.run 1 [] [.keep [0, 1] []] (K' := [.code [(1, 0)] 0, .code [] 2]) (σ' := ⟨[(0, .int .i64 a0), (1, .int .i64 a1)], []⟩) rfl trivial rfl ?_
  rcases bif_some h with ⟨hd1, h⟩ | ⟨hd1, h⟩
  · obtain ⟨v1, hk2, h⟩ := bind_some h
    rcases bif_some h with ⟨hd3, h⟩ | ⟨hd3, h⟩
    · obtain ⟨hg4, h⟩ := grd_some h
      refine Tri.run 1 [.g true, .r ⟨[], .bool v1, []⟩, .g true] [.keep [4] []] (K' := [.code [] 2]) (σ' := ⟨[(4, .bool ((bitsOf .and .i64 (a0.fdiv (2 ^ (min a1.toNat 64))) (1 : Int)) == (1 : Int)))], []⟩) rfl ⟨hg4, hd3, (fun _ => (w_impl_within a1 (0 : Int) (4 : Int) v1 hk2)), hd1, trivial⟩ rfl ?_
      have h := Option.some.inj h
      subst h
      exact Tri.ret rfl ⟨.inl rfl, rfl, rfl⟩
    · refine Tri.run 1 [.g true, .r ⟨[], .bool v1, []⟩, .g false] [.keep [4] []] (K' := [.code [] 2]) (σ' := ⟨[(4, .bool false)], []⟩) rfl ⟨hd3, (fun _ => (w_impl_within a1 (0 : Int) (4 : Int) v1 hk2)), hd1, trivial⟩ rfl ?_
      have h := Option.some.inj h
      subst h
      exact Tri.ret rfl ⟨.inl rfl, rfl, rfl⟩
  · refine Tri.run 1 [.g false, .g false] [.keep [4] []] (K' := [.code [] 2]) (σ' := ⟨[(4, .bool false)], []⟩) rfl ⟨rfl, hd1, trivial⟩ rfl ?_
    have h := Option.some.inj h
    subst h
    exact Tri.ret rfl ⟨.inl rfl, rfl, rfl⟩
/-! impl.MembersOf -/
noncomputable def E77_impl_MembersOf : Env := ⟨Try.prog, tys, (Try.f77.body).getD .skip, 21, tysOk, mixedOk⟩
abbrev q_impl_MembersOf (r : List Int) (σ' : ASt) : Prop := resAV E77_impl_MembersOf.T σ' Try.f77.results.toList = some (.sl 1000 0) ∧ keepO σ'.ob (namesO [(1000, .arr 3 0 0 (.ints r))]) = [(1000, .arr 3 0 0 (.ints r))]
noncomputable def l_impl_MembersOf_0 (a0 : Int) : (Int × (List Int)) → Option ((Int × (List Int)) ⊕ ((List Int)))
  | (v2, v3) => (
bif decide (v2 < (5 : Int)) then
((m_impl_HasPlayer a0 v2).bind fun v4 =>
bif v4 then
(grd (v3.length + ([v2] : List Int).length ≤ room) <|
some (.inl (IntKind.i64.wrap (v2 + (1 : Int)), v3 ++ [v2])))
else
(some (.inl (IntKind.i64.wrap (v2 + (1 : Int)), v3))))
else
(some (.inr v3)))
noncomputable def m_impl_MembersOf (a0 : Int) : Option (List Int) :=
(m_impl_within a0 (0 : Int) (31 : Int)).bind fun v1 =>
bif !v1 then
(some [])
else
((iter (l_impl_MembersOf_0 a0) ((0 : Int), [])).bind fun
| v5 => (
some v5))
theorem w_impl_MembersOf (a0 : Int) (r : List Int) (h : m_impl_MembersOf a0 = some r) : AM.Spec Try.prog 77 [.int .i64 a0] [] (.sl 1000 0) [(1000, .arr 3 0 0 (.ints r))] := by
  refine spec_of (E := E77_impl_MembersOf) Try.func77 rfl rfl rfl rfl ?_
  refine Tri.run 1 [] [.keep [0] []] (K' := [.code [(1, 0), (0, 0)] 0, .code [(1, 0)] 1, .code [] 2]) (σ' := ⟨[(0, .int .i64 a0)], []⟩) rfl trivial rfl ?_
  obtain ⟨v1, hk1, h⟩ := bind_some h
  refine Tri.run 1 [.r ⟨[], .bool v1, []⟩] [.keep [0, 7] []] (K' := [.code [(1, 0)] 1, .code [] 2]) (σ' := ⟨[(0, .int .i64 a0), (7, .bool (!v1))], []⟩) rfl ⟨(fun _ => (w_impl_within a0 (0 : Int) (31 : Int) v1 hk1)), trivial⟩ rfl ?_
  rcases bif_some h with ⟨hd2, h⟩ | ⟨hd2, h⟩
  · refine Tri.run 2 [.g true] [.own 2 [] 1100 3, .swap 1100 1000, .keep [2] [1000]] (K' := [.code [(1, 0), (1, 0)] 1, .code [] 2]) (σ' := ⟨[(2, .sl 1000 0)], [(1000, .arr 3 0 0 (.ints []))]⟩) rfl ⟨hd2, trivial⟩ rfl ?_
    have h := Option.some.inj h
    subst h
    exact Tri.ret rfl ⟨.inl rfl, rfl, rfl⟩
  · refine Tri.run 3 [.g false] [.keep [0, 3, 9] [8]] (K' := [.code [(3, 0), (1, 0)] 0, .blk 0, .code [] 4]) (σ' := ⟨[(0, .int .i64 a0), (3, .sl 8 0), (9, .int .i64 (0 : Int))], [(8, .arr 3 0 0 (.ints []))]⟩) rfl ⟨hd2, trivial⟩ rfl ?_
    obtain ⟨v5, hk7, h⟩ := bind_some h
    refine Tri.loop (K1 := [.code [(3, 0), (1, 0), (0, 0)] 0]) (K2 := [.blk 0, .code [] 4]) (fun (v2, v3) => ⟨[(0, .int .i64 a0), (3, .sl 8 0), (9, .int .i64 v2)], [(8, .arr 3 0 0 (.ints v3))]⟩) (fun x e σ' => match x with | v5 => e = .exit 0 ∧ σ' = ⟨[(3, .sl 8 0)], [(8, .arr 3 0 0 (.ints v5))]⟩) hk7 rfl rfl ?_ ?_
    · intro s x hs
      clear h
      have h := hs
      clear hs
      obtain ⟨v2, v3⟩ := s
      refine Tri.run 1 [] [.keep [0, 3, 9, 10] [8]] (K' := [.code [(3, 0), (1, 0), (0, 0), (1, 0)] 0, .code [(3, 0), (1, 0), (0, 0)] 2]) (σ' := ⟨[(0, .int .i64 a0), (3, .sl 8 0), (9, .int .i64 v2), (10, .bool (decide (v2 < (5 : Int))))], [(8, .arr 3 0 0 (.ints v3))]⟩) rfl trivial rfl ?_
      rcases bif_some h with ⟨hd3, h⟩ | ⟨hd3, h⟩
      · refine Tri.run 2 [.g true] [.keep [0, 3, 4, 9] [8]] (K' := [.code [(3, 0), (1, 0), (0, 0), (2, 0), (0, 0), (1, 0)] 0, .code [(3, 0), (1, 0), (0, 0), (2, 0), (0, 0)] 2, .blk 1, .code [(3, 0), (1, 0), (0, 0)] 3]) (σ' := ⟨[(0, .int .i64 a0), (3, .sl 8 0), (4, .int .i64 v2), (9, .int .i64 v2)], [(8, .arr 3 0 0 (.ints v3))]⟩) rfl ⟨hd3, trivial⟩ rfl ?_
        obtain ⟨v4, hk4, h⟩ := bind_some h
        refine Tri.run 1 [.r ⟨[], .bool v4, []⟩] [.keep [0, 3, 4, 9, 14] [8]] (K' := [.code [(3, 0), (1, 0), (0, 0), (2, 0), (0, 0)] 2, .blk 1, .code [(3, 0), (1, 0), (0, 0)] 3]) (σ' := ⟨[(0, .int .i64 a0), (3, .sl 8 0), (4, .int .i64 v2), (9, .int .i64 v2), (14, .bool v4)], [(8, .arr 3 0 0 (.ints v3))]⟩) rfl ⟨(fun _ => (w_impl_HasPlayer a0 v2 v4 hk4)), trivial⟩ rfl ?_
        rcases bif_some h with ⟨hd5, h⟩ | ⟨hd5, h⟩
        · obtain ⟨hg6, h⟩ := grd_some h
          refine Tri.run 3 [.g true] [.rever 8, .keep [0, 3, 9] [8]] (K' := []) (σ' := ⟨[(0, .int .i64 a0), (3, .sl 8 0), (9, .int .i64 (IntKind.i64.wrap (v2 + (1 : Int))))], [(8, .arr 3 0 0 (.ints (v3 ++ [v2])))]⟩) rfl ⟨hg6, hd5, trivial⟩ rfl ?_
          have h := Option.some.inj h
          subst h
          exact Tri.nil ⟨rfl, rfl⟩
        · refine Tri.run 2 [.g false] [.keep [0, 3, 9] [8]] (K' := []) (σ' := ⟨[(0, .int .i64 a0), (3, .sl 8 0), (9, .int .i64 (IntKind.i64.wrap (v2 + (1 : Int))))], [(8, .arr 3 0 0 (.ints v3))]⟩) rfl ⟨hd5, trivial⟩ rfl ?_
          have h := Option.some.inj h
          subst h
          exact Tri.nil ⟨rfl, rfl⟩
      · refine Tri.run 1 [.g false] [.keep [3] [8]] (K' := [.code [(3, 0), (1, 0), (0, 0), (1, 0), (0, 1)] 0, .code [(3, 0), (1, 0), (0, 0)] 2]) (σ' := ⟨[(3, .sl 8 0)], [(8, .arr 3 0 0 (.ints v3))]⟩) rfl ⟨hd3, trivial⟩ rfl ?_
        have h := Option.some.inj h
        subst h
        exact Tri.out 0 rfl ⟨nofun, rfl, rfl⟩
    · intro e σ' hne hq
      obtain ⟨rfl, rfl⟩ := hq
      refine TriX.exit (K' := [.code [] 4]) rfl ?_
      refine Tri.run 1 [] [.swap 8 1000, .keep [2] [1000]] (K' := [.code [] 5]) (σ' := ⟨[(2, .sl 1000 0)], [(1000, .arr 3 0 0 (.ints v5))]⟩) rfl trivial rfl ?_
      have h := Option.some.inj h
      subst h
      exact Tri.ret rfl ⟨.inl rfl, rfl, rfl⟩
/-! impl.common -/
noncomputable def E106_impl_common : Env := ⟨Try.prog, tys, (Try.f106.body).getD .skip, 15, tysOk, mixedOk⟩
abbrev q_impl_common (r : Int) (σ' : ASt) : Prop := resAV E106_impl_common.T σ' Try.f106.results.toList = some (.int .i64 r) ∧ keepO σ'.ob (namesO []) = []
noncomputable def l_impl_common_0 : (Int × Int) → Option ((Int × Int) ⊕ Int)
  | (v1, v2) => (
bif v2 != (0 : Int) then
(grd (v2 ≠ 0) <|
some (.inl (v2, v1.tmod v2)))
else
(some (.inr v1)))
noncomputable def m_impl_common (a0 : Int) (a1 : Int) : Option Int :=
(iter (l_impl_common_0) (a0, a1)).bind fun
| v3 => (
some (if IntKind.i64.wrap (0 - v3) > v3 then IntKind.i64.wrap (0 - v3) else v3))
theorem w_impl_common (a0 : Int) (a1 : Int) (r : Int) (h : m_impl_common a0 a1 = some r) : AM.Spec Try.prog 106 [.int .i64 a0, .int .i64 a1] [] (.int .i64 r) [] := by
  refine spec_of (E := E106_impl_common) Try.func106 rfl rfl rfl rfl ?_
  refine Tri.run 1 [] [.keep [0, 1] []] (K' := [.code [(1, 0), (0, 0)] 0, .blk 0, .code [] 2]) (σ' := ⟨[(0, .int .i64 a0), (1, .int .i64 a1)], []⟩) rfl trivial rfl ?_
  obtain ⟨v3, hk3, h⟩ := bind_some h
  refine Tri.loop (K1 := [.code [(1, 0), (0, 0), (0, 0)] 0]) (K2 := [.blk 0, .code [] 2]) (fun (v1, v2) => ⟨[(0, .int .i64 v1), (1, .int .i64 v2)], []⟩) (fun x e σ' => match x with | v3 => e = .exit 0 ∧ σ' = ⟨[(0, .int .i64 v3)], []⟩) hk3 rfl rfl ?_ ?_
  · intro s x hs
    clear h
    have h := hs
    clear hs
    obtain ⟨v1, v2⟩ := s
    refine Tri.run 1 [] [.keep [0, 1, 6] []] (K' := [.code [(1, 0), (0, 0), (0, 0), (0, 0)] 1, .code [(1, 0), (0, 0), (0, 0)] 1]) (σ' := ⟨[(0, .int .i64 v1), (1, .int .i64 v2), (6, .bool (v2 != (0 : Int)))], []⟩) rfl trivial rfl ?_
    rcases bif_some h with ⟨hd1, h⟩ | ⟨hd1, h⟩
    · obtain ⟨hg2, h⟩ := grd_some h
      refine Tri.run 2 [.g true] [.keep [0, 1] []] (K' := []) (σ' := ⟨[(0, .int .i64 v2), (1, .int .i64 (v1.tmod v2))], []⟩) rfl ⟨hg2, hd1, trivial⟩ rfl ?_
      have h := Option.some.inj h
      subst h
      exact Tri.nil ⟨rfl, rfl⟩
    · refine Tri.run 1 [.g false] [.keep [0] []] (K' := [.code [(1, 0), (0, 0), (0, 0), (0, 0), (1, 1)] 0, .code [(1, 0), (0, 0), (0, 0)] 1]) (σ' := ⟨[(0, .int .i64 v1)], []⟩) rfl ⟨hd1, trivial⟩ rfl ?_
      have h := Option.some.inj h
      subst h
      exact Tri.out 0 rfl ⟨nofun, rfl, rfl⟩
  · intro e σ' hne hq
    obtain ⟨rfl, rfl⟩ := hq
    refine TriX.exit (K' := [.code [] 2]) rfl ?_
    refine Tri.run 1 [] [.keep [4] []] (K' := [.code [] 3]) (σ' := ⟨[(4, .int .i64 (if IntKind.i64.wrap (0 - v3) > v3 then IntKind.i64.wrap (0 - v3) else v3))], []⟩) rfl trivial rfl ?_
    have h := Option.some.inj h
    subst h
    exact Tri.ret rfl ⟨.inl rfl, rfl, rfl⟩
/-! impl.IsValidRat -/
noncomputable def E96_impl_IsValidRat : Env := ⟨Try.prog, tys, (Try.f96.body).getD .skip, 19, tysOk, mixedOk⟩
abbrev q_impl_IsValidRat (r : Bool) (σ' : ASt) : Prop := resAV E96_impl_IsValidRat.T σ' Try.f96.results.toList = some (.bool r) ∧ keepO σ'.ob (namesO []) = []
noncomputable def m_impl_IsValidRat (a0 : Int) (a1 : Int) : Option Bool :=
(m_impl_within a1 (1 : Int) (1000000000 : Int)).bind fun v1 =>
bif v1 then
((m_impl_within a0 (-1000000000 : Int) (1000000000 : Int)).bind fun v2 =>
bif v2 then
((m_impl_common a0 a1).bind fun v3 =>
some (v3 == (1 : Int)))
else
(some false))
else
(some false)
theorem w_impl_IsValidRat (a0 : Int) (a1 : Int) (r : Bool) (h : m_impl_IsValidRat a0 a1 = some r) : AM.Spec Try.prog 96 [.agg [.int .i64 a0, .int .i64 a1]] [] (.bool r) [] := by
  refine spec_of (E := E96_impl_IsValidRat) Try.func96 rfl rfl rfl rfl ?_
  refine Tri.run 1 [] [.keep [1] [1]] (K' := [.code [(1, 0)] 0, .code [] 2]) (σ' := ⟨[(1, .ptr 1 0)], [(1, .box [.int .i64 a0, .int .i64 a1])]⟩) rfl trivial rfl ?_
  obtain ⟨v1, hk1, h⟩ := bind_some h
  rcases bif_some h with ⟨hd2, h⟩ | ⟨hd2, h⟩
  · obtain ⟨v2, hk3, h⟩ := bind_some h
    rcases bif_some h with ⟨hd4, h⟩ | ⟨hd4, h⟩
    · obtain ⟨v3, hk5, h⟩ := bind_some h
      refine Tri.run 1 [.r ⟨[], .bool v1, []⟩, .g true, .r ⟨[], .bool v2, []⟩, .g true, .r ⟨[], .int .i64 v3, []⟩] [.keep [2] []] (K' := [.code [] 2]) (σ' := ⟨[(2, .bool (v3 == (1 : Int)))], []⟩) rfl ⟨(fun _ => (w_impl_common a0 a1 v3 hk5)), hd4, (fun _ => (w_impl_within a0 (-1000000000 : Int) (1000000000 : Int) v2 hk3)), hd2, (fun _ => (w_impl_within a1 (1 : Int) (1000000000 : Int) v1 hk1)), trivial⟩ rfl ?_
      have h := Option.some.inj h
      subst h
      exact Tri.ret rfl ⟨.inl rfl, rfl, rfl⟩
    · refine Tri.run 1 [.r ⟨[], .bool v1, []⟩, .g true, .r ⟨[], .bool v2, []⟩, .g false] [.keep [2] []] (K' := [.code [] 2]) (σ' := ⟨[(2, .bool false)], []⟩) rfl ⟨hd4, (fun _ => (w_impl_within a0 (-1000000000 : Int) (1000000000 : Int) v2 hk3)), hd2, (fun _ => (w_impl_within a1 (1 : Int) (1000000000 : Int) v1 hk1)), trivial⟩ rfl ?_
      have h := Option.some.inj h
      subst h
      exact Tri.ret rfl ⟨.inl rfl, rfl, rfl⟩
  · refine Tri.run 1 [.r ⟨[], .bool v1, []⟩, .g false, .g false] [.keep [2] []] (K' := [.code [] 2]) (σ' := ⟨[(2, .bool false)], []⟩) rfl ⟨rfl, hd2, (fun _ => (w_impl_within a1 (1 : Int) (1000000000 : Int) v1 hk1)), trivial⟩ rfl ?_
    have h := Option.some.inj h
    subst h
    exact Tri.ret rfl ⟨.inl rfl, rfl, rfl⟩
/-! impl.RatOf -/
noncomputable def E97_impl_RatOf : Env := ⟨Try.prog, tys, (Try.f97.body).getD .skip, 40, tysOk, mixedOk⟩
abbrev q_impl_RatOf (r : Int × Int × Bool) (σ' : ASt) : Prop := resAV E97_impl_RatOf.T σ' Try.f97.results.toList = some (.tuple [.agg [.int .i64 r.1, .int .i64 r.2.1], .bool r.2.2]) ∧ keepO σ'.ob (namesO []) = []
noncomputable def m_impl_RatOf (a0 : Int) (a1 : Int) : Option (Int × Int × Bool) :=
bif a1 == (0 : Int) then
(some (0, 0, false))
else
((m_impl_within a0 (-1000000000000000000 : Int) (1000000000000000000 : Int)).bind fun v1 =>
bif !v1 then
(some (0, 0, false))
else
((m_impl_within a1 (-1000000000000000000 : Int) (1000000000000000000 : Int)).bind fun v2 =>
bif !v2 then
(some (0, 0, false))
else
((m_impl_common a0 a1).bind fun v3 =>
bif decide (a1 < (0 : Int)) then
(grd ((IntKind.i64.wrap (0 - v3)) ≠ 0) <|
grd ((IntKind.i64.wrap (0 - v3)) ≠ 0) <|
(m_impl_IsValidRat (IntKind.i64.wrap (a0.tdiv (IntKind.i64.wrap (0 - v3)))) (IntKind.i64.wrap (a1.tdiv (IntKind.i64.wrap (0 - v3))))).bind fun v4 =>
bif !v4 then
(some (0, 0, false))
else
(some (IntKind.i64.wrap (a0.tdiv (IntKind.i64.wrap (0 - v3))), IntKind.i64.wrap (a1.tdiv (IntKind.i64.wrap (0 - v3))), true)))
else
(grd (v3 ≠ 0) <|
grd (v3 ≠ 0) <|
(m_impl_IsValidRat (IntKind.i64.wrap (a0.tdiv v3)) (IntKind.i64.wrap (a1.tdiv v3))).bind fun v5 =>
bif !v5 then
(some (0, 0, false))
else
(some (IntKind.i64.wrap (a0.tdiv v3), IntKind.i64.wrap (a1.tdiv v3), true))))))
theorem w_impl_RatOf (a0 : Int) (a1 : Int) (r : Int × Int × Bool) (h : m_impl_RatOf a0 a1 = some r) : AM.Spec Try.prog 97 [.int .i64 a0, .int .i64 a1] [] (.tuple [.agg [.int .i64 r.1, .int .i64 r.2.1], .bool r.2.2]) [] := by
  refine spec_of (E := E97_impl_RatOf) Try.func97 rfl rfl rfl rfl ?_
  refine Tri.run 1 [] [.keep [0, 1, 4] [4]] (K' := [.code [(1, 0), (0, 0)] 0, .code [(1, 0)] 1, .code [] 2]) (σ' := ⟨[(0, .int .i64 a0), (1, .int .i64 a1), (4, .ptr 4 0)], [(4, .box [.int .i64 0, .int .i64 0])]⟩) rfl trivial rfl ?_
  rcases bif_some h with ⟨hd1, h⟩ | ⟨hd1, h⟩
  · refine Tri.run 1 [.g true, .g true] [.keep [0, 1, 4, 19] [4]] (K' := [.code [(1, 0)] 1, .code [] 2]) (σ' := ⟨[(0, .int .i64 a0), (1, .int .i64 a1), (4, .ptr 4 0), (19, .bool true)], [(4, .box [.int .i64 0, .int .i64 0])]⟩) rfl ⟨rfl, hd1, trivial⟩ rfl ?_
    refine Tri.run 2 [.g true] [.keep [4, 5] [4]] (K' := [.code [(1, 0), (1, 0)] 1, .code [] 2]) (σ' := ⟨[(4, .ptr 4 0), (5, .bool false)], [(4, .box [.int .i64 0, .int .i64 0])]⟩) rfl ⟨rfl, trivial⟩ rfl ?_
    have h := Option.some.inj h
    subst h
    exact Tri.ret rfl ⟨.inl rfl, rfl, rfl⟩
  · obtain ⟨v1, hk2, h⟩ := bind_some h
    rcases bif_some h with ⟨hd3, h⟩ | ⟨hd3, h⟩
    · refine Tri.run 1 [.g false, .r ⟨[], .bool v1, []⟩, .g true] [.keep [0, 1, 4, 19] [4]] (K' := [.code [(1, 0)] 1, .code [] 2]) (σ' := ⟨[(0, .int .i64 a0), (1, .int .i64 a1), (4, .ptr 4 0), (19, .bool true)], [(4, .box [.int .i64 0, .int .i64 0])]⟩) rfl ⟨hd3, (fun _ => (w_impl_within a0 (-1000000000000000000 : Int) (1000000000000000000 : Int) v1 hk2)), hd1, trivial⟩ rfl ?_
      refine Tri.run 2 [.g true] [.keep [4, 5] [4]] (K' := [.code [(1, 0), (1, 0)] 1, .code [] 2]) (σ' := ⟨[(4, .ptr 4 0), (5, .bool false)], [(4, .box [.int .i64 0, .int .i64 0])]⟩) rfl ⟨rfl, trivial⟩ rfl ?_
      have h := Option.some.inj h
      subst h
      exact Tri.ret rfl ⟨.inl rfl, rfl, rfl⟩
    · obtain ⟨v2, hk4, h⟩ := bind_some h
      refine Tri.run 1 [.g false, .r ⟨[], .bool v1, []⟩, .g false, .r ⟨[], .bool v2, []⟩] [.keep [0, 1, 4, 19] [4]] (K' := [.code [(1, 0)] 1, .code [] 2]) (σ' := ⟨[(0, .int .i64 a0), (1, .int .i64 a1), (4, .ptr 4 0), (19, .bool (!v2))], [(4, .box [.int .i64 0, .int .i64 0])]⟩) rfl ⟨(fun _ => (w_impl_within a1 (-1000000000000000000 : Int) (1000000000000000000 : Int) v2 hk4)), hd3, (fun _ => (w_impl_within a0 (-1000000000000000000 : Int) (1000000000000000000 : Int) v1 hk2)), hd1, trivial⟩ rfl ?_
      rcases bif_some h with ⟨hd5, h⟩ | ⟨hd5, h⟩
      · refine Tri.run 2 [.g true] [.keep [4, 5] [4]] (K' := [.code [(1, 0), (1, 0)] 1, .code [] 2]) (σ' := ⟨[(4, .ptr 4 0), (5, .bool false)], [(4, .box [.int .i64 0, .int .i64 0])]⟩) rfl ⟨hd5, trivial⟩ rfl ?_
        have h := Option.some.inj h
        subst h
        exact Tri.ret rfl ⟨.inl rfl, rfl, rfl⟩
      · obtain ⟨v3, hk6, h⟩ := bind_some h
        refine Tri.run 3 [.g false, .r ⟨[], .int .i64 v3, []⟩] [.keep [0, 1, 4, 6, 25] [4]] (K' := [.code [(3, 0)] 1, .code [] 4]) (σ' := ⟨[(0, .int .i64 a0), (1, .int .i64 a1), (4, .ptr 4 0), (6, .int .i64 v3), (25, .bool (decide (a1 < (0 : Int))))], [(4, .box [.int .i64 0, .int .i64 0])]⟩) rfl ⟨(fun _ => (w_impl_common a0 a1 v3 hk6)), hd5, trivial⟩ rfl ?_
        rcases bif_some h with ⟨hd7, h⟩ | ⟨hd7, h⟩
        · obtain ⟨hg8, h⟩ := grd_some h
          obtain ⟨hg9, h⟩ := grd_some h
          refine Tri.run 3 [.g true] [.keep [4, 7] [4, 7]] (K' := [.code [(5, 0), (0, 0)] 0, .code [(5, 0)] 1, .code [] 6]) (σ' := ⟨[(4, .ptr 4 0), (7, .ptr 7 0)], [(4, .box [.int .i64 0, .int .i64 0]), (7, .box [.int .i64 (IntKind.i64.wrap (a0.tdiv (IntKind.i64.wrap (0 - v3)))), .int .i64 (IntKind.i64.wrap (a1.tdiv (IntKind.i64.wrap (0 - v3))))])]⟩) rfl ⟨hg9, hg8, hd7, trivial⟩ rfl ?_
          obtain ⟨v4, hk10, h⟩ := bind_some h
          refine Tri.run 1 [.r ⟨[], .bool v4, []⟩] [.keep [4, 7, 37] [4, 7]] (K' := [.code [(5, 0)] 1, .code [] 6]) (σ' := ⟨[(4, .ptr 4 0), (7, .ptr 7 0), (37, .bool (!v4))], [(4, .box [.int .i64 0, .int .i64 0]), (7, .box [.int .i64 (IntKind.i64.wrap (a0.tdiv (IntKind.i64.wrap (0 - v3)))), .int .i64 (IntKind.i64.wrap (a1.tdiv (IntKind.i64.wrap (0 - v3))))])]⟩) rfl ⟨(fun _ => (w_impl_IsValidRat (IntKind.i64.wrap (a0.tdiv (IntKind.i64.wrap (0 - v3)))) (IntKind.i64.wrap (a1.tdiv (IntKind.i64.wrap (0 - v3)))) v4 hk10)), trivial⟩ rfl ?_
          rcases bif_some h with ⟨hd11, h⟩ | ⟨hd11, h⟩
          · refine Tri.run 2 [.g true] [.keep [4, 5] [4]] (K' := [.code [(5, 0), (1, 0)] 1, .code [] 6]) (σ' := ⟨[(4, .ptr 4 0), (5, .bool false)], [(4, .box [.int .i64 0, .int .i64 0])]⟩) rfl ⟨hd11, trivial⟩ rfl ?_
            have h := Option.some.inj h
            subst h
            exact Tri.ret rfl ⟨.inl rfl, rfl, rfl⟩
          · refine Tri.run 2 [.g false] [.keep [4, 5] [4]] (K' := [.code [] 7]) (σ' := ⟨[(4, .ptr 4 0), (5, .bool true)], [(4, .box [.int .i64 (IntKind.i64.wrap (a0.tdiv (IntKind.i64.wrap (0 - v3)))), .int .i64 (IntKind.i64.wrap (a1.tdiv (IntKind.i64.wrap (0 - v3))))])]⟩) rfl ⟨hd11, trivial⟩ rfl ?_
            have h := Option.some.inj h
            subst h
            exact Tri.ret rfl ⟨.inl rfl, rfl, rfl⟩
        · obtain ⟨hg12, h⟩ := grd_some h
          obtain ⟨hg13, h⟩ := grd_some h
          refine Tri.run 2 [.g false] [.keep [4, 7] [4, 7]] (K' := [.code [(5, 0), (0, 0)] 0, .code [(5, 0)] 1, .code [] 6]) (σ' := ⟨[(4, .ptr 4 0), (7, .ptr 7 0)], [(4, .box [.int .i64 0, .int .i64 0]), (7, .box [.int .i64 (IntKind.i64.wrap (a0.tdiv v3)), .int .i64 (IntKind.i64.wrap (a1.tdiv v3))])]⟩) rfl ⟨hg13, hg12, hd7, trivial⟩ rfl ?_
          obtain ⟨v5, hk14, h⟩ := bind_some h
          refine Tri.run 1 [.r ⟨[], .bool v5, []⟩] [.keep [4, 7, 37] [4, 7]] (K' := [.code [(5, 0)] 1, .code [] 6]) (σ' := ⟨[(4, .ptr 4 0), (7, .ptr 7 0), (37, .bool (!v5))], [(4, .box [.int .i64 0, .int .i64 0]), (7, .box [.int .i64 (IntKind.i64.wrap (a0.tdiv v3)), .int .i64 (IntKind.i64.wrap (a1.tdiv v3))])]⟩) rfl ⟨(fun _ => (w_impl_IsValidRat (IntKind.i64.wrap (a0.tdiv v3)) (IntKind.i64.wrap (a1.tdiv v3)) v5 hk14)), trivial⟩ rfl ?_
          rcases bif_some h with ⟨hd15, h⟩ | ⟨hd15, h⟩
          · refine Tri.run 2 [.g true] [.keep [4, 5] [4]] (K' := [.code [(5, 0), (1, 0)] 1, .code [] 6]) (σ' := ⟨[(4, .ptr 4 0), (5, .bool false)], [(4, .box [.int .i64 0, .int .i64 0])]⟩) rfl ⟨hd15, trivial⟩ rfl ?_
            have h := Option.some.inj h
            subst h
            exact Tri.ret rfl ⟨.inl rfl, rfl, rfl⟩
          · refine Tri.run 2 [.g false] [.keep [4, 5] [4]] (K' := [.code [] 7]) (σ' := ⟨[(4, .ptr 4 0), (5, .bool true)], [(4, .box [.int .i64 (IntKind.i64.wrap (a0.tdiv v3)), .int .i64 (IntKind.i64.wrap (a1.tdiv v3))])]⟩) rfl ⟨hd15, trivial⟩ rfl ?_
            have h := Option.some.inj h
            subst h
            exact Tri.ret rfl ⟨.inl rfl, rfl, rfl⟩
/-! impl.AddRat -/
noncomputable def E91_impl_AddRat : Env := ⟨Try.prog, tys, (Try.f91.body).getD .skip, 34, tysOk, mixedOk⟩
abbrev q_impl_AddRat (r : Int × Int × Bool) (σ' : ASt) : Prop := resAV E91_impl_AddRat.T σ' Try.f91.results.toList = some (.tuple [.agg [.int .i64 r.1, .int .i64 r.2.1], .bool r.2.2]) ∧ keepO σ'.ob (namesO []) = []
noncomputable def m_impl_AddRat (a0 : Int) (a1 : Int) (a2 : Int) (a3 : Int) : Option (Int × Int × Bool) :=
(m_impl_IsValidRat a0 a1).bind fun v1 =>
bif !v1 then
(some (0, 0, false))
else
((m_impl_IsValidRat a2 a3).bind fun v2 =>
bif !v2 then
(some (0, 0, false))
else
((m_impl_RatOf (IntKind.i64.wrap ((IntKind.i64.wrap (a0 * a3)) + (IntKind.i64.wrap (a2 * a1)))) (IntKind.i64.wrap (a1 * a3))).bind fun (v3, v4, v5) =>
some (v3, v4, v5)))
theorem w_impl_AddRat (a0 : Int) (a1 : Int) (a2 : Int) (a3 : Int) (r : Int × Int × Bool) (h : m_impl_AddRat a0 a1 a2 a3 = some r) : AM.Spec Try.prog 91 [.agg [.int .i64 a0, .int .i64 a1], .agg [.int .i64 a2, .int .i64 a3]] [] (.tuple [.agg [.int .i64 r.1, .int .i64 r.2.1], .bool r.2.2]) [] := by
  refine spec_of (E := E91_impl_AddRat) Try.func91 rfl rfl rfl rfl ?_
  refine Tri.run 1 [] [.keep [2, 3, 4] [2, 3, 4]] (K' := [.code [(1, 0), (0, 0)] 0, .code [(1, 0)] 1, .code [] 2]) (σ' := ⟨[(2, .ptr 2 0), (3, .ptr 3 0), (4, .ptr 4 0)], [(2, .box [.int .i64 a0, .int .i64 a1]), (3, .box [.int .i64 a2, .int .i64 a3]), (4, .box [.int .i64 0, .int .i64 0])]⟩) rfl trivial rfl ?_
  obtain ⟨v1, hk1, h⟩ := bind_some h
  rcases bif_some h with ⟨hd2, h⟩ | ⟨hd2, h⟩
  · refine Tri.run 1 [.r ⟨[], .bool v1, []⟩, .g true] [.keep [2, 3, 4, 13] [2, 3, 4]] (K' := [.code [(1, 0)] 1, .code [] 2]) (σ' := ⟨[(2, .ptr 2 0), (3, .ptr 3 0), (4, .ptr 4 0), (13, .bool true)], [(2, .box [.int .i64 a0, .int .i64 a1]), (3, .box [.int .i64 a2, .int .i64 a3]), (4, .box [.int .i64 0, .int .i64 0])]⟩) rfl ⟨hd2, (fun _ => (w_impl_IsValidRat a0 a1 v1 hk1)), trivial⟩ rfl ?_
    refine Tri.run 2 [.g true] [.keep [4, 5] [4]] (K' := [.code [(1, 0), (1, 0)] 1, .code [] 2]) (σ' := ⟨[(4, .ptr 4 0), (5, .bool false)], [(4, .box [.int .i64 0, .int .i64 0])]⟩) rfl ⟨rfl, trivial⟩ rfl ?_
    have h := Option.some.inj h
    subst h
    exact Tri.ret rfl ⟨.inl rfl, rfl, rfl⟩
  · obtain ⟨v2, hk3, h⟩ := bind_some h
    refine Tri.run 1 [.r ⟨[], .bool v1, []⟩, .g false, .r ⟨[], .bool v2, []⟩] [.keep [2, 3, 4, 13] [2, 3, 4]] (K' := [.code [(1, 0)] 1, .code [] 2]) (σ' := ⟨[(2, .ptr 2 0), (3, .ptr 3 0), (4, .ptr 4 0), (13, .bool (!v2))], [(2, .box [.int .i64 a0, .int .i64 a1]), (3, .box [.int .i64 a2, .int .i64 a3]), (4, .box [.int .i64 0, .int .i64 0])]⟩) rfl ⟨(fun _ => (w_impl_IsValidRat a2 a3 v2 hk3)), hd2, (fun _ => (w_impl_IsValidRat a0 a1 v1 hk1)), trivial⟩ rfl ?_
    rcases bif_some h with ⟨hd4, h⟩ | ⟨hd4, h⟩
    · refine Tri.run 2 [.g true] [.keep [4, 5] [4]] (K' := [.code [(1, 0), (1, 0)] 1, .code [] 2]) (σ' := ⟨[(4, .ptr 4 0), (5, .bool false)], [(4, .box [.int .i64 0, .int .i64 0])]⟩) rfl ⟨hd4, trivial⟩ rfl ?_
      have h := Option.some.inj h
      subst h
      exact Tri.ret rfl ⟨.inl rfl, rfl, rfl⟩
    · obtain ⟨⟨v3, v4, v5⟩, hk5, h⟩ := bind_some h
      refine Tri.run 2 [.g false, .r ⟨[], .tuple [.agg [.int .i64 v3, .int .i64 v4], .bool v5], []⟩] [.keep [4, 5] [4]] (K' := [.code [] 3]) (σ' := ⟨[(4, .ptr 4 0), (5, .bool v5)], [(4, .box [.int .i64 v3, .int .i64 v4])]⟩) rfl ⟨(fun _ => (w_impl_RatOf (IntKind.i64.wrap ((IntKind.i64.wrap (a0 * a3)) + (IntKind.i64.wrap (a2 * a1)))) (IntKind.i64.wrap (a1 * a3)) (v3, v4, v5) hk5)), hd4, trivial⟩ rfl ?_
      have h := Option.some.inj h
      subst h
      exact Tri.ret rfl ⟨.inl rfl, rfl, rfl⟩
/-! impl.DivRat -/
noncomputable def E92_impl_DivRat : Env := ⟨Try.prog, tys, (Try.f92.body).getD .skip, 28, tysOk, mixedOk⟩
abbrev q_impl_DivRat (r : Int × Int × Bool) (σ' : ASt) : Prop := resAV E92_impl_DivRat.T σ' Try.f92.results.toList = some (.tuple [.agg [.int .i64 r.1, .int .i64 r.2.1], .bool r.2.2]) ∧ keepO σ'.ob (namesO []) = []
noncomputable def m_impl_DivRat (a0 : Int) (a1 : Int) (a2 : Int) (a3 : Int) : Option (Int × Int × Bool) :=
(m_impl_IsValidRat a0 a1).bind fun v1 =>
bif !v1 then
(some (0, 0, false))
else
((m_impl_IsValidRat a2 a3).bind fun v2 =>
bif !v2 then
(some (0, 0, false))
else
((m_impl_RatOf (IntKind.i64.wrap (a0 * a3)) (IntKind.i64.wrap (a1 * a2))).bind fun (v3, v4, v5) =>
some (v3, v4, v5)))
theorem w_impl_DivRat (a0 : Int) (a1 : Int) (a2 : Int) (a3 : Int) (r : Int × Int × Bool) (h : m_impl_DivRat a0 a1 a2 a3 = some r) : AM.Spec Try.prog 92 [.agg [.int .i64 a0, .int .i64 a1], .agg [.int .i64 a2, .int .i64 a3]] [] (.tuple [.agg [.int .i64 r.1, .int .i64 r.2.1], .bool r.2.2]) [] := by
  refine spec_of (E := E92_impl_DivRat) Try.func92 rfl rfl rfl rfl ?_
  refine Tri.run 1 [] [.keep [2, 3, 4] [2, 3, 4]] (K' := [.code [(1, 0), (0, 0)] 0, .code [(1, 0)] 1, .code [] 2]) (σ' := ⟨[(2, .ptr 2 0), (3, .ptr 3 0), (4, .ptr 4 0)], [(2, .box [.int .i64 a0, .int .i64 a1]), (3, .box [.int .i64 a2, .int .i64 a3]), (4, .box [.int .i64 0, .int .i64 0])]⟩) rfl trivial rfl ?_
  obtain ⟨v1, hk1, h⟩ := bind_some h
  rcases bif_some h with ⟨hd2, h⟩ | ⟨hd2, h⟩
  · refine Tri.run 1 [.r ⟨[], .bool v1, []⟩, .g true] [.keep [2, 3, 4, 13] [2, 3, 4]] (K' := [.code [(1, 0)] 1, .code [] 2]) (σ' := ⟨[(2, .ptr 2 0), (3, .ptr 3 0), (4, .ptr 4 0), (13, .bool true)], [(2, .box [.int .i64 a0, .int .i64 a1]), (3, .box [.int .i64 a2, .int .i64 a3]), (4, .box [.int .i64 0, .int .i64 0])]⟩) rfl ⟨hd2, (fun _ => (w_impl_IsValidRat a0 a1 v1 hk1)), trivial⟩ rfl ?_
    refine Tri.run 2 [.g true] [.keep [4, 5] [4]] (K' := [.code [(1, 0), (1, 0)] 1, .code [] 2]) (σ' := ⟨[(4, .ptr 4 0), (5, .bool false)], [(4, .box [.int .i64 0, .int .i64 0])]⟩) rfl ⟨rfl, trivial⟩ rfl ?_
    have h := Option.some.inj h
    subst h
    exact Tri.ret rfl ⟨.inl rfl, rfl, rfl⟩
  · obtain ⟨v2, hk3, h⟩ := bind_some h
    refine Tri.run 1 [.r ⟨[], .bool v1, []⟩, .g false, .r ⟨[], .bool v2, []⟩] [.keep [2, 3, 4, 13] [2, 3, 4]] (K' := [.code [(1, 0)] 1, .code [] 2]) (σ' := ⟨[(2, .ptr 2 0), (3, .ptr 3 0), (4, .ptr 4 0), (13, .bool (!v2))], [(2, .box [.int .i64 a0, .int .i64 a1]), (3, .box [.int .i64 a2, .int .i64 a3]), (4, .box [.int .i64 0, .int .i64 0])]⟩) rfl ⟨(fun _ => (w_impl_IsValidRat a2 a3 v2 hk3)), hd2, (fun _ => (w_impl_IsValidRat a0 a1 v1 hk1)), trivial⟩ rfl ?_
    rcases bif_some h with ⟨hd4, h⟩ | ⟨hd4, h⟩
    · refine Tri.run 2 [.g true] [.keep [4, 5] [4]] (K' := [.code [(1, 0), (1, 0)] 1, .code [] 2]) (σ' := ⟨[(4, .ptr 4 0), (5, .bool false)], [(4, .box [.int .i64 0, .int .i64 0])]⟩) rfl ⟨hd4, trivial⟩ rfl ?_
      have h := Option.some.inj h
      subst h
      exact Tri.ret rfl ⟨.inl rfl, rfl, rfl⟩
    · obtain ⟨⟨v3, v4, v5⟩, hk5, h⟩ := bind_some h
      refine Tri.run 2 [.g false, .r ⟨[], .tuple [.agg [.int .i64 v3, .int .i64 v4], .bool v5], []⟩] [.keep [4, 5] [4]] (K' := [.code [] 3]) (σ' := ⟨[(4, .ptr 4 0), (5, .bool v5)], [(4, .box [.int .i64 v3, .int .i64 v4])]⟩) rfl ⟨(fun _ => (w_impl_RatOf (IntKind.i64.wrap (a0 * a3)) (IntKind.i64.wrap (a1 * a2)) (v3, v4, v5) hk5)), hd4, trivial⟩ rfl ?_
      have h := Option.some.inj h
      subst h
      exact Tri.ret rfl ⟨.inl rfl, rfl, rfl⟩
/-! impl.PotentialOf -/
noncomputable def E49_impl_PotentialOf : Env := ⟨Try.prog, tys, (Try.f49.body).getD .skip, 70, tysOk, mixedOk⟩
abbrev q_impl_PotentialOf (r : List Q) (σ' : ASt) : Prop := resAV E49_impl_PotentialOf.T σ' Try.f49.results.toList = some (.sl 1000 0) ∧ keepO σ'.ob (namesO [(1000, .arr 54 0 0 (.rats r))]) = [(1000, .arr 54 0 0 (.rats r))]
noncomputable def l_impl_PotentialOf_1 (v4 : Int) (v5 : List Q) (v8 : List Int) : (Int × Int × Int) → Option ((Int × Int × Int) ⊕ ((Int × Int) ⊕ ((List Q))))
  | (v9, v10, v11) => (
bif decide (v9 < (v8.length : Int)) then
(grd ((0 : Int) ≤ v9 ∧ v9 < (v8.length : Int)) <|
grd ((0 : Int) ≤ v8.getD v9.toNat 0) <|
grd ((0 : Int) ≤ bitsOf .andNot .i64 v4 (IntKind.i64.wrap ((1 : Int) * 2 ^ (min (v8.getD v9.toNat 0).toNat 64))) ∧ bitsOf .andNot .i64 v4 (IntKind.i64.wrap ((1 : Int) * 2 ^ (min (v8.getD v9.toNat 0).toNat 64))) < (v5.length : Int)) <|
(m_impl_AddRat v10 v11 ((v5.getD ((bitsOf .andNot .i64 v4 (IntKind.i64.wrap ((1 : Int) * 2 ^ (min (v8.getD v9.toNat 0).toNat 64)))).toNat) ⟨0, 0⟩).num) ((v5.getD ((bitsOf .andNot .i64 v4 (IntKind.i64.wrap ((1 : Int) * 2 ^ (min (v8.getD v9.toNat 0).toNat 64)))).toNat) ⟨0, 0⟩).den)).bind fun (v12, v13, v14) =>
bif !v14 then
(some (.inr (.inr [])))
else
(some (.inl (IntKind.i64.wrap (v9 + (1 : Int)), v12, v13))))
else
(some (.inr (.inl (v10, v11)))))
noncomputable def l_impl_PotentialOf_0 (a1 : List Int) : (Int × (List Q)) → Option ((Int × (List Q)) ⊕ ((List Q) ⊕ ((List Q))))
  | (v4, v5) => (
bif decide (v4 < (a1.length : Int)) then
(grd ((0 : Int) ≤ v4 ∧ v4 < (a1.length : Int)) <|
(m_impl_whole (a1.getD v4.toNat 0)).bind fun (v6, v7) =>
(m_impl_MembersOf v4).bind fun v8 =>
(iter (l_impl_PotentialOf_1 v4 v5 v8) ((0 : Int), v6, v7)).bind fun
| (.inl (v15, v16)) => (
(m_impl_whole (v8.length : Int)).bind fun (v17, v18) =>
(m_impl_DivRat v15 v16 v17 v18).bind fun (v19, v20, v21) =>
bif !v21 then
(some (.inr (.inr [])))
else
(grd (v5.length + ([⟨v19, v20⟩] : List Q).length ≤ room) <|
some (.inl (IntKind.i64.wrap (v4 + (1 : Int)), v5 ++ [⟨v19, v20⟩]))))
| (.inr r) => some (.inr (.inr r)))
else
(some (.inr (.inl v5))))
noncomputable def m_impl_PotentialOf (a0 : Int) (a1 : List Int) : Option (List Q) :=
(m_impl_IsValidGame a0 a1).bind fun v1 =>
bif !v1 then
(some [])
else
((m_impl_whole (0 : Int)).bind fun (v2, v3) =>
(iter (l_impl_PotentialOf_0 a1) ((1 : Int), [⟨v2, v3⟩])).bind fun
| (.inl v22) => (
some v22)
| (.inr r) => some r)
theorem w_impl_PotentialOf (a0 : Int) (a1 : List Int) (r : List Q) (h : m_impl_PotentialOf a0 a1 = some r) : AM.Spec Try.prog 49 [.agg [.int .i64 a0, .list (.ints a1)]] [] (.sl 1000 0) [(1000, .arr 54 0 0 (.rats r))] := by
  refine spec_of (E := E49_impl_PotentialOf) Try.func49 rfl rfl rfl rfl ?_
  refine Tri.run 1 [] [.keep [1] [1]] (K' := [.code [(1, 0), (0, 0)] 0, .code [(1, 0)] 1, .code [] 2]) (σ' := ⟨[(1, .ptr 1 0)], [(1, .box [.int .i64 a0, .list (.ints a1)])]⟩) rfl trivial rfl ?_
  obtain ⟨v1, hk1, h⟩ := bind_some h
  refine Tri.run 1 [.r ⟨[], .bool v1, []⟩] [.keep [1, 15] [1]] (K' := [.code [(1, 0)] 1, .code [] 2]) (σ' := ⟨[(1, .ptr 1 0), (15, .bool (!v1))], [(1, .box [.int .i64 a0, .list (.ints a1)])]⟩) rfl ⟨(fun _ => (w_impl_IsValidGame a0 a1 v1 hk1)), trivial⟩ rfl ?_
  rcases bif_some h with ⟨hd2, h⟩ | ⟨hd2, h⟩
  · refine Tri.run 2 [.g true] [.own 2 [] 1100 54, .swap 1100 1000, .keep [2] [1000]] (K' := [.code [(1, 0), (1, 0)] 1, .code [] 2]) (σ' := ⟨[(2, .sl 1000 0)], [(1000, .arr 54 0 0 (.rats []))]⟩) rfl ⟨hd2, trivial⟩ rfl ?_
    have h := Option.some.inj h
    subst h
    exact Tri.ret rfl ⟨.inl rfl, rfl, rfl⟩
  · obtain ⟨⟨v2, v3⟩, hk3, h⟩ := bind_some h
    refine Tri.run 3 [.g false, .r ⟨[], .agg [.int .i64 v2, .int .i64 v3], []⟩] [.keep [1, 3, 4] [1, 17]] (K' := [.code [(3, 0), (1, 0)] 0, .blk 0, .code [] 4]) (σ' := ⟨[(1, .ptr 1 0), (3, .sl 17 0), (4, .int .i64 (1 : Int))], [(1, .box [.int .i64 a0, .list (.ints a1)]), (17, .arr 54 0 0 (.rats [⟨v2, v3⟩]))]⟩) rfl ⟨(fun _ => (w_impl_whole (0 : Int) (v2, v3) hk3)), hd2, trivial⟩ rfl ?_
    obtain ⟨x2, hk19, h⟩ := bind_some h
    refine Tri.loop (K1 := [.code [(3, 0), (1, 0), (0, 0)] 0]) (K2 := [.blk 0, .code [] 4]) (fun (v4, v5) => ⟨[(1, .ptr 1 0), (3, .sl 17 0), (4, .int .i64 v4)], [(1, .box [.int .i64 a0, .list (.ints a1)]), (17, .arr 54 0 0 (.rats v5))]⟩) (fun x e σ' => match x with | (.inl v22) => e = .exit 0 ∧ σ' = ⟨[(3, .sl 17 0)], [(17, .arr 54 0 0 (.rats v22))]⟩ | (.inr r) => e = .ret ∧ q_impl_PotentialOf r σ') hk19 rfl rfl ?_ ?_
    · intro s x hs
      clear h
      have h := hs
      clear hs
      obtain ⟨v4, v5⟩ := s
      refine Tri.run 1 [] [.keep [1, 3, 4, 22] [1, 17]] (K' := [.code [(3, 0), (1, 0), (0, 0), (0, 0)] 1, .code [(3, 0), (1, 0), (0, 0)] 1]) (σ' := ⟨[(1, .ptr 1 0), (3, .sl 17 0), (4, .int .i64 v4), (22, .bool (decide (v4 < (a1.length : Int))))], [(1, .box [.int .i64 a0, .list (.ints a1)]), (17, .arr 54 0 0 (.rats v5))]⟩) rfl trivial rfl ?_
      rcases bif_some h with ⟨hd4, h⟩ | ⟨hd4, h⟩
      · obtain ⟨hg5, h⟩ := grd_some h
        obtain ⟨⟨v6, v7⟩, hk6, h⟩ := bind_some h
        refine Tri.run 2 [.g true, .r ⟨[], .agg [.int .i64 v6, .int .i64 v7], []⟩] [.keep [1, 3, 4, 5] [1, 5, 17]] (K' := [.code [(3, 0), (1, 0), (0, 0), (1, 0), (0, 0), (1, 0)] 0, .code [(3, 0), (1, 0), (0, 0), (1, 0), (0, 0)] 2, .blk 1, .code [(3, 0), (1, 0), (0, 0)] 2]) (σ' := ⟨[(1, .ptr 1 0), (3, .sl 17 0), (4, .int .i64 v4), (5, .ptr 5 0)], [(1, .box [.int .i64 a0, .list (.ints a1)]), (5, .box [.int .i64 v6, .int .i64 v7]), (17, .arr 54 0 0 (.rats v5))]⟩) rfl ⟨(fun _ => (w_impl_whole (a1.getD v4.toNat 0) (v6, v7) hk6)), hg5, hd4, trivial⟩ rfl ?_
        obtain ⟨v8, hk7, h⟩ := bind_some h
        refine Tri.run 2 [.r ⟨[], .sl 1101 0, [(1101, .arr 3 0 0 (.ints v8))]⟩] [.keep [1, 3, 4, 5, 6, 33, 34, 35] [1, 5, 17, 1101]] (K' := [.code [(3, 0), (1, 0), (0, 0), (1, 0), (0, 0), (2, 0), (1, 0)] 0, .blk 2, .code [(3, 0), (1, 0), (0, 0), (1, 0), (0, 0)] 3, .blk 1, .code [(3, 0), (1, 0), (0, 0)] 2]) (σ' := ⟨[(1, .ptr 1 0), (3, .sl 17 0), (4, .int .i64 v4), (5, .ptr 5 0), (6, .sl 1101 0), (33, .sl 1101 0), (34, .int .i64 (v8.length : Int)), (35, .int .i64 (0 : Int))], [(1, .box [.int .i64 a0, .list (.ints a1)]), (5, .box [.int .i64 v6, .int .i64 v7]), (17, .arr 54 0 0 (.rats v5)), (1101, .arr 3 0 0 (.ints v8))]⟩) rfl ⟨(fun _ => ((w_impl_MembersOf v4 v8 hk7).swap 1000 1101)), trivial⟩ rfl ?_
        obtain ⟨x2, hk14, h⟩ := bind_some h
        refine Tri.loop (K1 := [.code [(3, 0), (1, 0), (0, 0), (1, 0), (0, 0), (2, 0), (1, 0), (0, 0)] 0]) (K2 := [.blk 2, .code [(3, 0), (1, 0), (0, 0), (1, 0), (0, 0)] 3, .blk 1, .code [(3, 0), (1, 0), (0, 0)] 2]) (fun (v9, v10, v11) => ⟨[(1, .ptr 1 0), (3, .sl 17 0), (4, .int .i64 v4), (5, .ptr 5 0), (6, .sl 1101 0), (33, .sl 1101 0), (34, .int .i64 (v8.length : Int)), (35, .int .i64 v9)], [(1, .box [.int .i64 a0, .list (.ints a1)]), (5, .box [.int .i64 v10, .int .i64 v11]), (17, .arr 54 0 0 (.rats v5)), (1101, .arr 3 0 0 (.ints v8))]⟩) (fun x e σ' => match x with | (.inl (v15, v16)) => e = .exit 2 ∧ σ' = ⟨[(1, .ptr 1 0), (3, .sl 17 0), (4, .int .i64 v4), (5, .ptr 5 0), (6, .sl 1101 0)], [(1, .box [.int .i64 a0, .list (.ints a1)]), (5, .box [.int .i64 v15, .int .i64 v16]), (17, .arr 54 0 0 (.rats v5)), (1101, .arr 3 0 0 (.ints v8))]⟩ | (.inr r) => e = .ret ∧ q_impl_PotentialOf r σ') hk14 rfl rfl ?_ ?_
        · intro s x hs
          clear h
          have h := hs
          clear hs
          obtain ⟨v9, v10, v11⟩ := s
          refine Tri.run 1 [] [.keep [1, 3, 4, 5, 6, 33, 34, 35, 36] [1, 5, 17, 1101]] (K' := [.code [(3, 0), (1, 0), (0, 0), (1, 0), (0, 0), (2, 0), (1, 0), (0, 0), (1, 0)] 0, .code [(3, 0), (1, 0), (0, 0), (1, 0), (0, 0), (2, 0), (1, 0), (0, 0)] 2]) (σ' := ⟨[(1, .ptr 1 0), (3, .sl 17 0), (4, .int .i64 v4), (5, .ptr 5 0), (6, .sl 1101 0), (33, .sl 1101 0), (34, .int .i64 (v8.length : Int)), (35, .int .i64 v9), (36, .bool (decide (v9 < (v8.length : Int))))], [(1, .box [.int .i64 a0, .list (.ints a1)]), (5, .box [.int .i64 v10, .int .i64 v11]), (17, .arr 54 0 0 (.rats v5)), (1101, .arr 3 0 0 (.ints v8))]⟩) rfl trivial rfl ?_
          rcases bif_some h with ⟨hd8, h⟩ | ⟨hd8, h⟩
          · obtain ⟨hg9, h⟩ := grd_some h
            refine Tri.run 2 [.g true] [.keep [1, 3, 4, 5, 6, 8, 33, 34, 35] [1, 5, 17, 1101]] (K' := [.code [(3, 0), (1, 0), (0, 0), (1, 0), (0, 0), (2, 0), (1, 0), (0, 0), (2, 0), (0, 0), (1, 0)] 0, .code [(3, 0), (1, 0), (0, 0), (1, 0), (0, 0), (2, 0), (1, 0), (0, 0), (2, 0), (0, 0)] 2, .blk 3, .code [(3, 0), (1, 0), (0, 0), (1, 0), (0, 0), (2, 0), (1, 0), (0, 0)] 3]) (σ' := ⟨[(1, .ptr 1 0), (3, .sl 17 0), (4, .int .i64 v4), (5, .ptr 5 0), (6, .sl 1101 0), (8, .int .i64 (v8.getD v9.toNat 0)), (33, .sl 1101 0), (34, .int .i64 (v8.length : Int)), (35, .int .i64 v9)], [(1, .box [.int .i64 a0, .list (.ints a1)]), (5, .box [.int .i64 v10, .int .i64 v11]), (17, .arr 54 0 0 (.rats v5)), (1101, .arr 3 0 0 (.ints v8))]⟩) rfl ⟨hg9, hd8, trivial⟩ rfl ?_
            obtain ⟨hg10, h⟩ := grd_some h
            obtain ⟨hg11, h⟩ := grd_some h
            obtain ⟨⟨v12, v13, v14⟩, hk12, h⟩ := bind_some h
            refine Tri.run 2 [.r ⟨[], .tuple [.agg [.int .i64 v12, .int .i64 v13], .bool v14], []⟩] [.keep [1, 3, 4, 5, 6, 9, 33, 34, 35, 52] [1, 5, 9, 17, 1101]] (K' := [.code [(3, 0), (1, 0), (0, 0), (1, 0), (0, 0), (2, 0), (1, 0), (0, 0), (2, 0), (0, 0), (2, 0)] 1, .code [(3, 0), (1, 0), (0, 0), (1, 0), (0, 0), (2, 0), (1, 0), (0, 0), (2, 0), (0, 0)] 3, .blk 3, .code [(3, 0), (1, 0), (0, 0), (1, 0), (0, 0), (2, 0), (1, 0), (0, 0)] 3]) (σ' := ⟨[(1, .ptr 1 0), (3, .sl 17 0), (4, .int .i64 v4), (5, .ptr 5 0), (6, .sl 1101 0), (9, .ptr 9 0), (33, .sl 1101 0), (34, .int .i64 (v8.length : Int)), (35, .int .i64 v9), (52, .bool (!v14))], [(1, .box [.int .i64 a0, .list (.ints a1)]), (5, .box [.int .i64 v10, .int .i64 v11]), (9, .box [.int .i64 v12, .int .i64 v13]), (17, .arr 54 0 0 (.rats v5)), (1101, .arr 3 0 0 (.ints v8))]⟩) rfl ⟨(fun _ => (w_impl_AddRat v10 v11 ((v5.getD ((bitsOf .andNot .i64 v4 (IntKind.i64.wrap ((1 : Int) * 2 ^ (min (v8.getD v9.toNat 0).toNat 64)))).toNat) ⟨0, 0⟩).num) ((v5.getD ((bitsOf .andNot .i64 v4 (IntKind.i64.wrap ((1 : Int) * 2 ^ (min (v8.getD v9.toNat 0).toNat 64)))).toNat) ⟨0, 0⟩).den) (v12, v13, v14) hk12)), hg11, hg10, trivial⟩ rfl ?_
            rcases bif_some h with ⟨hd13, h⟩ | ⟨hd13, h⟩
            · refine Tri.run 2 [.g true] [.own 2 [] 1102 54, .swap 1102 1000, .keep [2] [1000]] (K' := [.code [(3, 0), (1, 0), (0, 0), (1, 0), (0, 0), (2, 0), (1, 0), (0, 0), (2, 0), (0, 0), (2, 0), (1, 0)] 1, .code [(3, 0), (1, 0), (0, 0), (1, 0), (0, 0), (2, 0), (1, 0), (0, 0), (2, 0), (0, 0)] 3, .blk 3, .code [(3, 0), (1, 0), (0, 0), (1, 0), (0, 0), (2, 0), (1, 0), (0, 0)] 3]) (σ' := ⟨[(2, .sl 1000 0)], [(1000, .arr 54 0 0 (.rats []))]⟩) rfl ⟨hd13, trivial⟩ rfl ?_
              have h := Option.some.inj h
              subst h
              exact Tri.ret rfl ⟨nofun, rfl, rfl, rfl⟩
            · refine Tri.run 3 [.g false] [.keep [1, 3, 4, 5, 6, 33, 34, 35] [1, 5, 17, 1101]] (K' := []) (σ' := ⟨[(1, .ptr 1 0), (3, .sl 17 0), (4, .int .i64 v4), (5, .ptr 5 0), (6, .sl 1101 0), (33, .sl 1101 0), (34, .int .i64 (v8.length : Int)), (35, .int .i64 (IntKind.i64.wrap (v9 + (1 : Int))))], [(1, .box [.int .i64 a0, .list (.ints a1)]), (5, .box [.int .i64 v12, .int .i64 v13]), (17, .arr 54 0 0 (.rats v5)), (1101, .arr 3 0 0 (.ints v8))]⟩) rfl ⟨hd13, trivial⟩ rfl ?_
              have h := Option.some.inj h
              subst h
              exact Tri.nil ⟨rfl, rfl⟩
          · refine Tri.run 1 [.g false] [.keep [1, 3, 4, 5, 6] [1, 5, 17, 1101]] (K' := [.code [(3, 0), (1, 0), (0, 0), (1, 0), (0, 0), (2, 0), (1, 0), (0, 0), (1, 0), (0, 1)] 0, .code [(3, 0), (1, 0), (0, 0), (1, 0), (0, 0), (2, 0), (1, 0), (0, 0)] 2]) (σ' := ⟨[(1, .ptr 1 0), (3, .sl 17 0), (4, .int .i64 v4), (5, .ptr 5 0), (6, .sl 1101 0)], [(1, .box [.int .i64 a0, .list (.ints a1)]), (5, .box [.int .i64 v10, .int .i64 v11]), (17, .arr 54 0 0 (.rats v5)), (1101, .arr 3 0 0 (.ints v8))]⟩) rfl ⟨hd8, trivial⟩ rfl ?_
            have h := Option.some.inj h
            subst h
            exact Tri.out 2 rfl ⟨nofun, rfl, rfl⟩
        · intro e σ' hne hq
          rcases x2 with ⟨v15, v16⟩ | r
          · obtain ⟨rfl, rfl⟩ := hq
            refine TriX.exit (K' := [.code [(3, 0), (1, 0), (0, 0), (1, 0), (0, 0)] 3, .blk 1, .code [(3, 0), (1, 0), (0, 0)] 2]) rfl ?_
            obtain ⟨⟨v17, v18⟩, hk15, h⟩ := bind_some h
            obtain ⟨⟨v19, v20, v21⟩, hk16, h⟩ := bind_some h
            refine Tri.run 2 [.r ⟨[], .agg [.int .i64 v17, .int .i64 v18], []⟩, .r ⟨[], .tuple [.agg [.int .i64 v19, .int .i64 v20], .bool v21], []⟩] [.keep [1, 3, 4, 11, 64] [1, 11, 17]] (K' := [.code [(3, 0), (1, 0), (0, 0), (1, 0), (0, 0), (4, 0)] 1, .code [(3, 0), (1, 0), (0, 0), (1, 0), (0, 0)] 5, .blk 1, .code [(3, 0), (1, 0), (0, 0)] 2]) (σ' := ⟨[(1, .ptr 1 0), (3, .sl 17 0), (4, .int .i64 v4), (11, .ptr 11 0), (64, .bool (!v21))], [(1, .box [.int .i64 a0, .list (.ints a1)]), (11, .box [.int .i64 v19, .int .i64 v20]), (17, .arr 54 0 0 (.rats v5))]⟩) rfl ⟨(fun _ => (w_impl_DivRat v15 v16 v17 v18 (v19, v20, v21) hk16)), (fun _ => (w_impl_whole (v8.length : Int) (v17, v18) hk15)), trivial⟩ rfl ?_
            rcases bif_some h with ⟨hd17, h⟩ | ⟨hd17, h⟩
            · refine Tri.run 2 [.g true] [.own 2 [] 1103 54, .swap 1103 1000, .keep [2] [1000]] (K' := [.code [(3, 0), (1, 0), (0, 0), (1, 0), (0, 0), (4, 0), (1, 0)] 1, .code [(3, 0), (1, 0), (0, 0), (1, 0), (0, 0)] 5, .blk 1, .code [(3, 0), (1, 0), (0, 0)] 2]) (σ' := ⟨[(2, .sl 1000 0)], [(1000, .arr 54 0 0 (.rats []))]⟩) rfl ⟨hd17, trivial⟩ rfl ?_
              have h := Option.some.inj h
              subst h
              exact Tri.ret rfl ⟨nofun, rfl, rfl, rfl⟩
            · obtain ⟨hg18, h⟩ := grd_some h
              refine Tri.run 3 [.g false] [.rever 17, .keep [1, 3, 4] [1, 17]] (K' := []) (σ' := ⟨[(1, .ptr 1 0), (3, .sl 17 0), (4, .int .i64 (IntKind.i64.wrap (v4 + (1 : Int))))], [(1, .box [.int .i64 a0, .list (.ints a1)]), (17, .arr 54 0 0 (.rats (v5 ++ [⟨v19, v20⟩])))]⟩) rfl ⟨hg18, hd17, trivial⟩ rfl ?_
              have h := Option.some.inj h
              subst h
              exact Tri.nil ⟨rfl, rfl⟩
          · obtain ⟨rfl, hq⟩ := hq
            have h := Option.some.inj h
            subst h
            exact TriX.ret ⟨nofun, rfl, hq⟩
      · refine Tri.run 1 [.g false] [.keep [3] [17]] (K' := [.code [(3, 0), (1, 0), (0, 0), (0, 0), (1, 1)] 0, .code [(3, 0), (1, 0), (0, 0)] 1]) (σ' := ⟨[(3, .sl 17 0)], [(17, .arr 54 0 0 (.rats v5))]⟩) rfl ⟨hd4, trivial⟩ rfl ?_
        have h := Option.some.inj h
        subst h
        exact Tri.out 0 rfl ⟨nofun, rfl, rfl⟩
    · intro e σ' hne hq
      rcases x2 with v22 | r
      · obtain ⟨rfl, rfl⟩ := hq
        refine TriX.exit (K' := [.code [] 4]) rfl ?_
        refine Tri.run 1 [] [.swap 17 1000, .keep [2] [1000]] (K' := [.code [] 5]) (σ' := ⟨[(2, .sl 1000 0)], [(1000, .arr 54 0 0 (.rats v22))]⟩) rfl trivial rfl ?_
        have h := Option.some.inj h
        subst h
        exact Tri.ret rfl ⟨.inl rfl, rfl, rfl⟩
      · obtain ⟨rfl, hq⟩ := hq
        have h := Option.some.inj h
        subst h
        exact TriX.ret ⟨.inl rfl, hq⟩
/-! spec.IsValidGame -/
noncomputable def E22_spec_IsValidGame : Env := ⟨Try.prog, tys, (Try.f22.body).getD .skip, 37, tysOk, mixedOk⟩
abbrev q_spec_IsValidGame (r : Bool) (σ' : ASt) : Prop := resAV E22_spec_IsValidGame.T σ' Try.f22.results.toList = some (.bool r) ∧ keepO σ'.ob (namesO []) = []
noncomputable def l_spec_IsValidGame_0 (a1 : List Int) (v1 : Int) : Option (Int ⊕ (Unit ⊕ Bool)) :=
bif decide (v1 < (a1.length : Int)) then
(grd ((0 : Int) ≤ v1 ∧ v1 < (a1.length : Int)) <|
(m_spec_l1In (a1.getD v1.toNat 0) (-500 : Int) (500 : Int)).bind fun v2 =>
bif !v2 then
(some (.inr (.inr false)))
else
(some (.inl (IntKind.i64.wrap (v1 + (1 : Int))))))
else
(some (.inr (.inl ())))
noncomputable def m_spec_IsValidGame (a0 : Int) (a1 : List Int) : Option Bool :=
(iter (l_spec_IsValidGame_0 a1) (0 : Int)).bind fun
| (.inl _) => (
(m_spec_l1In a0 (1 : Int) (5 : Int)).bind fun v3 =>
bif v3 then
((m_spec_CountCoalitions a0).bind fun v4 =>
bif (a1.length : Int) == v4 then
(grd ((0 : Int) ≤ (0 : Int) ∧ (0 : Int) < (a1.length : Int)) <|
some ((a1.getD ((0 : Int).toNat) 0) == (0 : Int)))
else
(some false))
else
(some false))
| (.inr r) => some r
theorem w_spec_IsValidGame (a0 : Int) (a1 : List Int) (r : Bool) (h : m_spec_IsValidGame a0 a1 = some r) : AM.Spec Try.prog 22 [.agg [.int .i64 a0, .list (.ints a1)]] [] (.bool r) [] := by
  refine spec_of (E := E22_spec_IsValidGame) Try.func22 rfl rfl rfl rfl ?_
  refine Tri.run 2 [] [.keep [1, 3] [1]] (K' := [.code [(1, 0), (1, 0)] 0, .blk 0, .code [] 2]) (σ' := ⟨[(1, .ptr 1 0), (3, .int .i64 (0 : Int))], [(1, .box [.int .i64 a0, .list (.ints a1)])]⟩) rfl trivial rfl ?_
  obtain ⟨x1, hk5, h⟩ := bind_some h
  refine Tri.loop (K1 := [.code [(1, 0), (1, 0), (0, 0)] 0]) (K2 := [.blk 0, .code [] 2]) (fun v1 => ⟨[(1, .ptr 1 0), (3, .int .i64 v1)], [(1, .box [.int .i64 a0, .list (.ints a1)])]⟩) (fun x e σ' => match x with | (.inl _) => e = .exit 0 ∧ σ' = ⟨[(1, .ptr 1 0)], [(1, .box [.int .i64 a0, .list (.ints a1)])]⟩ | (.inr r) => e = .ret ∧ q_spec_IsValidGame r σ') hk5 rfl rfl ?_ ?_
  · intro v1 x hs
    clear h
    have h := hs
    clear hs
    refine Tri.run 1 [] [.keep [1, 3, 8] [1]] (K' := [.code [(1, 0), (1, 0), (0, 0), (0, 0)] 1, .code [(1, 0), (1, 0), (0, 0)] 1]) (σ' := ⟨[(1, .ptr 1 0), (3, .int .i64 v1), (8, .bool (decide (v1 < (a1.length : Int))))], [(1, .box [.int .i64 a0, .list (.ints a1)])]⟩) rfl trivial rfl ?_
    rcases bif_some h with ⟨hd1, h⟩ | ⟨hd1, h⟩
    · obtain ⟨hg2, h⟩ := grd_some h
      obtain ⟨v2, hk3, h⟩ := bind_some h
      refine Tri.run 2 [.g true, .r ⟨[], .bool v2, []⟩] [.keep [1, 3, 17] [1]] (K' := [.code [(1, 0), (1, 0), (0, 0), (1, 0), (0, 0)] 1, .blk 1, .code [(1, 0), (1, 0), (0, 0)] 2]) (σ' := ⟨[(1, .ptr 1 0), (3, .int .i64 v1), (17, .bool (!v2))], [(1, .box [.int .i64 a0, .list (.ints a1)])]⟩) rfl ⟨(fun _ => (w_spec_l1In (a1.getD v1.toNat 0) (-500 : Int) (500 : Int) v2 hk3)), hg2, hd1, trivial⟩ rfl ?_
      rcases bif_some h with ⟨hd4, h⟩ | ⟨hd4, h⟩
      · refine Tri.run 2 [.g true] [.keep [2] []] (K' := [.code [(1, 0), (1, 0), (0, 0), (1, 0), (0, 0), (1, 0)] 1, .blk 1, .code [(1, 0), (1, 0), (0, 0)] 2]) (σ' := ⟨[(2, .bool false)], []⟩) rfl ⟨hd4, trivial⟩ rfl ?_
        have h := Option.some.inj h
        subst h
        exact Tri.ret rfl ⟨nofun, rfl, rfl, rfl⟩
      · refine Tri.run 2 [.g false] [.keep [1, 3] [1]] (K' := []) (σ' := ⟨[(1, .ptr 1 0), (3, .int .i64 (IntKind.i64.wrap (v1 + (1 : Int))))], [(1, .box [.int .i64 a0, .list (.ints a1)])]⟩) rfl ⟨hd4, trivial⟩ rfl ?_
        have h := Option.some.inj h
        subst h
        exact Tri.nil ⟨rfl, rfl⟩
    · refine Tri.run 1 [.g false] [.keep [1] [1]] (K' := [.code [(1, 0), (1, 0), (0, 0), (0, 0), (1, 1)] 0, .code [(1, 0), (1, 0), (0, 0)] 1]) (σ' := ⟨[(1, .ptr 1 0)], [(1, .box [.int .i64 a0, .list (.ints a1)])]⟩) rfl ⟨hd1, trivial⟩ rfl ?_
      have h := Option.some.inj h
      subst h
      exact Tri.out 0 rfl ⟨nofun, rfl, rfl⟩
  · intro e σ' hne hq
    rcases x1 with _ | r
    · obtain ⟨rfl, rfl⟩ := hq
      refine TriX.exit (K' := [.code [] 2]) rfl ?_
      obtain ⟨v3, hk6, h⟩ := bind_some h
      rcases bif_some h with ⟨hd7, h⟩ | ⟨hd7, h⟩
      · obtain ⟨v4, hk8, h⟩ := bind_some h
        rcases bif_some h with ⟨hd9, h⟩ | ⟨hd9, h⟩
        · obtain ⟨hg10, h⟩ := grd_some h
          refine Tri.run 1 [.r ⟨[], .bool v3, []⟩, .g true, .r ⟨[], .int .i64 v4, []⟩, .g true] [.keep [2] []] (K' := [.code [] 3]) (σ' := ⟨[(2, .bool ((a1.getD ((0 : Int).toNat) 0) == (0 : Int)))], []⟩) rfl ⟨hg10, hd9, (fun _ => (w_spec_CountCoalitions a0 v4 hk8)), hd7, (fun _ => (w_spec_l1In a0 (1 : Int) (5 : Int) v3 hk6)), trivial⟩ rfl ?_
          have h := Option.some.inj h
          subst h
          exact Tri.ret rfl ⟨.inl rfl, rfl, rfl⟩
        · refine Tri.run 1 [.r ⟨[], .bool v3, []⟩, .g true, .r ⟨[], .int .i64 v4, []⟩, .g false] [.keep [2] []] (K' := [.code [] 3]) (σ' := ⟨[(2, .bool false)], []⟩) rfl ⟨hd9, (fun _ => (w_spec_CountCoalitions a0 v4 hk8)), hd7, (fun _ => (w_spec_l1In a0 (1 : Int) (5 : Int) v3 hk6)), trivial⟩ rfl ?_
          have h := Option.some.inj h
          subst h
          exact Tri.ret rfl ⟨.inl rfl, rfl, rfl⟩
      · refine Tri.run 1 [.r ⟨[], .bool v3, []⟩, .g false, .g false] [.keep [2] []] (K' := [.code [] 3]) (σ' := ⟨[(2, .bool false)], []⟩) rfl ⟨rfl, hd7, (fun _ => (w_spec_l1In a0 (1 : Int) (5 : Int) v3 hk6)), trivial⟩ rfl ?_
        have h := Option.some.inj h
        subst h
        exact Tri.ret rfl ⟨.inl rfl, rfl, rfl⟩
    · obtain ⟨rfl, hq⟩ := hq
      have h := Option.some.inj h
      subst h
      exact TriX.ret ⟨.inl rfl, hq⟩
/-! spec.l3Int -/
noncomputable def E93_spec_l3Int : Env := ⟨Try.prog, tys, (Try.f93.body).getD .skip, 5, tysOk, mixedOk⟩
abbrev q_spec_l3Int (r : Int × Int) (σ' : ASt) : Prop := resAV E93_spec_l3Int.T σ' Try.f93.results.toList = some (.agg [.int .i64 r.1, .int .i64 r.2]) ∧ keepO σ'.ob (namesO []) = []
noncomputable def m_spec_l3Int (a0 : Int) : Option (Int × Int) :=
some (a0, (1 : Int))
theorem w_spec_l3Int (a0 : Int) (r : Int × Int) (h : m_spec_l3Int a0 = some r) : AM.Spec Try.prog 93 [.int .i64 a0] [] (.agg [.int .i64 r.1, .int .i64 r.2]) [] := by
  refine spec_of (E := E93_spec_l3Int) Try.func93 rfl rfl rfl rfl ?_
  refine Tri.run 2 [] [.keep [2] [2]] (K' := [.code [] 2]) (σ' := ⟨[(2, .ptr 2 0)], [(2, .box [.int .i64 a0, .int .i64 (1 : Int)])]⟩) rfl trivial rfl ?_
  have h := Option.some.inj h
  subst h
  exact Tri.ret rfl ⟨.inl rfl, rfl, rfl⟩
/-! spec.l2Good -/
noncomputable def E103_spec_l2Good : Env := ⟨Try.prog, tys, (Try.f103.body).getD .skip, 5, tysOk, mixedOk⟩
abbrev q_spec_l2Good (r : Bool) (σ' : ASt) : Prop := resAV E103_spec_l2Good.T σ' Try.f103.results.toList = some (.bool r) ∧ keepO σ'.ob (namesO []) = []
noncomputable def m_spec_l2Good (a0 : Int) : Option Bool :=
(m_spec_l1In a0 (0 : Int) (31 : Int)).bind fun v1 =>
some v1
theorem w_spec_l2Good (a0 : Int) (r : Bool) (h : m_spec_l2Good a0 = some r) : AM.Spec Try.prog 103 [.int .i64 a0] [] (.bool r) [] := by
  refine spec_of (E := E103_spec_l2Good) Try.func103 rfl rfl rfl rfl ?_
  refine Tri.run 1 [] [.keep [0] []] (K' := [.code [(1, 0)] 0, .code [] 2]) (σ' := ⟨[(0, .int .i64 a0)], []⟩) rfl trivial rfl ?_
  obtain ⟨v1, hk1, h⟩ := bind_some h
  refine Tri.run 1 [.r ⟨[], .bool v1, []⟩] [.keep [2] []] (K' := [.code [] 2]) (σ' := ⟨[(2, .bool v1)], []⟩) rfl ⟨(fun _ => (w_spec_l1In a0 (0 : Int) (31 : Int) v1 hk1)), trivial⟩ rfl ?_
  have h := Option.some.inj h
  subst h
  exact Tri.ret rfl ⟨.inl rfl, rfl, rfl⟩
/-! spec.MembersOf -/
noncomputable def E79_spec_MembersOf : Env := ⟨Try.prog, tys, (Try.f79.body).getD .skip, 22, tysOk, mixedOk⟩
abbrev q_spec_MembersOf (r : List Int) (σ' : ASt) : Prop := resAV E79_spec_MembersOf.T σ' Try.f79.results.toList = some (.sl 1000 0) ∧ keepO σ'.ob (namesO [(1000, .arr 3 0 0 (.ints r))]) = [(1000, .arr 3 0 0 (.ints r))]
noncomputable def l_spec_MembersOf_0 (a0 : Int) : (Int × (List Int)) → Option ((Int × (List Int)) ⊕ ((List Int)))
  | (v1, v2) => (
bif decide (v1 < (5 : Int)) then
((m_spec_l2Good a0).bind fun v3 =>
bif v3 then
((m_spec_HasPlayer a0 v1).bind fun v4 =>
bif v4 then
(grd (v2.length + ([v1] : List Int).length ≤ room) <|
some (.inl (IntKind.i64.wrap (v1 + (1 : Int)), v2 ++ [v1])))
else
(some (.inl (IntKind.i64.wrap (v1 + (1 : Int)), v2))))
else
(some (.inr v2)))
else
(some (.inr v2)))
noncomputable def m_spec_MembersOf (a0 : Int) : Option (List Int) :=
(iter (l_spec_MembersOf_0 a0) ((0 : Int), [])).bind fun
| v5 => (
some v5)
theorem w_spec_MembersOf (a0 : Int) (r : List Int) (h : m_spec_MembersOf a0 = some r) : AM.Spec Try.prog 79 [.int .i64 a0] [] (.sl 1000 0) [(1000, .arr 3 0 0 (.ints r))] := by
  refine spec_of (E := E79_spec_MembersOf) Try.func79 rfl rfl rfl rfl ?_
  refine Tri.run 3 [] [.keep [0, 3, 4] [5]] (K' := [.code [(2, 0), (1, 0)] 0, .blk 0, .code [] 3]) (σ' := ⟨[(0, .int .i64 a0), (3, .sl 5 0), (4, .int .i64 (0 : Int))], [(5, .arr 3 0 0 (.ints []))]⟩) rfl trivial rfl ?_
  obtain ⟨v5, hk7, h⟩ := bind_some h
  refine Tri.loop (K1 := [.code [(2, 0), (1, 0), (0, 0)] 0]) (K2 := [.blk 0, .code [] 3]) (fun (v1, v2) => ⟨[(0, .int .i64 a0), (3, .sl 5 0), (4, .int .i64 v1)], [(5, .arr 3 0 0 (.ints v2))]⟩) (fun x e σ' => match x with | v5 => e = .exit 0 ∧ σ' = ⟨[(3, .sl 5 0)], [(5, .arr 3 0 0 (.ints v5))]⟩) hk7 rfl rfl ?_ ?_
  · intro s x hs
    clear h
    have h := hs
    clear hs
    obtain ⟨v1, v2⟩ := s
    rcases bif_some h with ⟨hd1, h⟩ | ⟨hd1, h⟩
    · obtain ⟨v3, hk2, h⟩ := bind_some h
      refine Tri.run 1 [.g true, .r ⟨[], .bool v3, []⟩] [.keep [0, 3, 4, 11] [5]] (K' := [.code [(2, 0), (1, 0), (0, 0), (0, 0)] 1, .code [(2, 0), (1, 0), (0, 0)] 1]) (σ' := ⟨[(0, .int .i64 a0), (3, .sl 5 0), (4, .int .i64 v1), (11, .bool v3)], [(5, .arr 3 0 0 (.ints v2))]⟩) rfl ⟨(fun _ => (w_spec_l2Good a0 v3 hk2)), hd1, trivial⟩ rfl ?_
      rcases bif_some h with ⟨hd3, h⟩ | ⟨hd3, h⟩
      · obtain ⟨v4, hk4, h⟩ := bind_some h
        refine Tri.run 2 [.g true, .r ⟨[], .bool v4, []⟩] [.keep [0, 3, 4, 16] [5]] (K' := [.code [(2, 0), (1, 0), (0, 0), (1, 0), (0, 0)] 1, .blk 1, .code [(2, 0), (1, 0), (0, 0)] 2]) (σ' := ⟨[(0, .int .i64 a0), (3, .sl 5 0), (4, .int .i64 v1), (16, .bool v4)], [(5, .arr 3 0 0 (.ints v2))]⟩) rfl ⟨(fun _ => (w_spec_HasPlayer a0 v1 v4 hk4)), hd3, trivial⟩ rfl ?_
        rcases bif_some h with ⟨hd5, h⟩ | ⟨hd5, h⟩
        · obtain ⟨hg6, h⟩ := grd_some h
          refine Tri.run 3 [.g true] [.rever 5, .keep [0, 3, 4] [5]] (K' := []) (σ' := ⟨[(0, .int .i64 a0), (3, .sl 5 0), (4, .int .i64 (IntKind.i64.wrap (v1 + (1 : Int))))], [(5, .arr 3 0 0 (.ints (v2 ++ [v1])))]⟩) rfl ⟨hg6, hd5, trivial⟩ rfl ?_
          have h := Option.some.inj h
          subst h
          exact Tri.nil ⟨rfl, rfl⟩
        · refine Tri.run 2 [.g false] [.keep [0, 3, 4] [5]] (K' := []) (σ' := ⟨[(0, .int .i64 a0), (3, .sl 5 0), (4, .int .i64 (IntKind.i64.wrap (v1 + (1 : Int))))], [(5, .arr 3 0 0 (.ints v2))]⟩) rfl ⟨hd5, trivial⟩ rfl ?_
          have h := Option.some.inj h
          subst h
          exact Tri.nil ⟨rfl, rfl⟩
      · refine Tri.run 1 [.g false] [.keep [3] [5]] (K' := [.code [(2, 0), (1, 0), (0, 0), (0, 0), (1, 1)] 0, .code [(2, 0), (1, 0), (0, 0)] 1]) (σ' := ⟨[(3, .sl 5 0)], [(5, .arr 3 0 0 (.ints v2))]⟩) rfl ⟨hd3, trivial⟩ rfl ?_
        have h := Option.some.inj h
        subst h
        exact Tri.out 0 rfl ⟨nofun, rfl, rfl⟩
    · refine Tri.run 1 [.g false] [.keep [0, 3, 4, 11] [5]] (K' := [.code [(2, 0), (1, 0), (0, 0), (0, 0)] 1, .code [(2, 0), (1, 0), (0, 0)] 1]) (σ' := ⟨[(0, .int .i64 a0), (3, .sl 5 0), (4, .int .i64 v1), (11, .bool false)], [(5, .arr 3 0 0 (.ints v2))]⟩) rfl ⟨hd1, trivial⟩ rfl ?_
      refine Tri.run 1 [.g false] [.keep [3] [5]] (K' := [.code [(2, 0), (1, 0), (0, 0), (0, 0), (1, 1)] 0, .code [(2, 0), (1, 0), (0, 0)] 1]) (σ' := ⟨[(3, .sl 5 0)], [(5, .arr 3 0 0 (.ints v2))]⟩) rfl ⟨rfl, trivial⟩ rfl ?_
      have h := Option.some.inj h
      subst h
      exact Tri.out 0 rfl ⟨nofun, rfl, rfl⟩
  · intro e σ' hne hq
    obtain ⟨rfl, rfl⟩ := hq
    refine TriX.exit (K' := [.code [] 3]) rfl ?_
    refine Tri.run 1 [] [.swap 5 1000, .keep [2] [1000]] (K' := [.code [] 4]) (σ' := ⟨[(2, .sl 1000 0)], [(1000, .arr 3 0 0 (.ints v5))]⟩) rfl trivial rfl ?_
    have h := Option.some.inj h
    subst h
    exact Tri.ret rfl ⟨.inl rfl, rfl, rfl⟩
/-! spec.l3Gcd -/
noncomputable def E104_spec_l3Gcd : Env := ⟨Try.prog, tys, (Try.f104.body).getD .skip, 22, tysOk, mixedOk⟩
abbrev q_spec_l3Gcd (r : Int) (σ' : ASt) : Prop := resAV E104_spec_l3Gcd.T σ' Try.f104.results.toList = some (.int .i64 r) ∧ keepO σ'.ob (namesO []) = []
noncomputable def l_spec_l3Gcd_0 : (Int × Int) → Option ((Int × Int) ⊕ Int)
  | (v1, v2) => (
bif decide (v2 > (0 : Int)) then
(grd (v2 ≠ 0) <|
some (.inl (v2, v1.tmod v2)))
else
(some (.inr v1)))
noncomputable def l_spec_l3Gcd_1 : (Int × Int) → Option ((Int × Int) ⊕ Int)
  | (v4, v5) => (
bif decide (v5 > (0 : Int)) then
(grd (v5 ≠ 0) <|
some (.inl (v5, v4.tmod v5)))
else
(some (.inr v4)))
noncomputable def l_spec_l3Gcd_2 : (Int × Int) → Option ((Int × Int) ⊕ Int)
  | (v7, v8) => (
bif decide (v8 > (0 : Int)) then
(grd (v8 ≠ 0) <|
some (.inl (v8, v7.tmod v8)))
else
(some (.inr v7)))
noncomputable def l_spec_l3Gcd_3 : (Int × Int) → Option ((Int × Int) ⊕ Int)
  | (v10, v11) => (
bif decide (v11 > (0 : Int)) then
(grd (v11 ≠ 0) <|
some (.inl (v11, v10.tmod v11)))
else
(some (.inr v10)))
noncomputable def m_spec_l3Gcd (a0 : Int) (a1 : Int) : Option Int :=
bif decide (a0 < (0 : Int)) then
(bif decide (a1 < (0 : Int)) then
((iter (l_spec_l3Gcd_0) (IntKind.i64.wrap (0 - a0), IntKind.i64.wrap (0 - a1))).bind fun
| v3 => (
some v3))
else
((iter (l_spec_l3Gcd_1) (IntKind.i64.wrap (0 - a0), a1)).bind fun
| v6 => (
some v6)))
else
(bif decide (a1 < (0 : Int)) then
((iter (l_spec_l3Gcd_2) (a0, IntKind.i64.wrap (0 - a1))).bind fun
| v9 => (
some v9))
else
((iter (l_spec_l3Gcd_3) (a0, a1)).bind fun
| v12 => (
some v12)))
theorem w_spec_l3Gcd (a0 : Int) (a1 : Int) (r : Int) (h : m_spec_l3Gcd a0 a1 = some r) : AM.Spec Try.prog 104 [.int .i64 a0, .int .i64 a1] [] (.int .i64 r) [] := by
  refine spec_of (E := E104_spec_l3Gcd) Try.func104 rfl rfl rfl rfl ?_
  refine Tri.run 2 [] [.keep [0, 1, 7] []] (K' := [.code [(1, 0)] 1, .code [] 2]) (σ' := ⟨[(0, .int .i64 a0), (1, .int .i64 a1), (7, .bool (decide (a0 < (0 : Int))))], []⟩) rfl trivial rfl ?_
  rcases bif_some h with ⟨hd1, h⟩ | ⟨hd1, h⟩
  · refine Tri.run 3 [.g true] [.keep [0, 1, 11] []] (K' := [.code [(2, 0)] 1, .code [] 3]) (σ' := ⟨[(0, .int .i64 (IntKind.i64.wrap (0 - a0))), (1, .int .i64 a1), (11, .bool (decide (a1 < (0 : Int))))], []⟩) rfl ⟨hd1, trivial⟩ rfl ?_
    rcases bif_some h with ⟨hd2, h⟩ | ⟨hd2, h⟩
    · refine Tri.run 2 [.g true] [.keep [0, 1] []] (K' := [.code [(3, 0), (0, 0)] 0, .blk 0, .code [] 4]) (σ' := ⟨[(0, .int .i64 (IntKind.i64.wrap (0 - a0))), (1, .int .i64 (IntKind.i64.wrap (0 - a1)))], []⟩) rfl ⟨hd2, trivial⟩ rfl ?_
      obtain ⟨v3, hk5, h⟩ := bind_some h
      refine Tri.loop (K1 := [.code [(3, 0), (0, 0), (0, 0)] 0]) (K2 := [.blk 0, .code [] 4]) (fun (v1, v2) => ⟨[(0, .int .i64 v1), (1, .int .i64 v2)], []⟩) (fun x e σ' => match x with | v3 => e = .exit 0 ∧ σ' = ⟨[(0, .int .i64 v3)], []⟩) hk5 rfl rfl ?_ ?_
      · intro s x hs
        clear h
        have h := hs
        clear hs
        obtain ⟨v1, v2⟩ := s
        refine Tri.run 1 [] [.keep [0, 1, 15] []] (K' := [.code [(3, 0), (0, 0), (0, 0), (0, 0)] 1, .code [(3, 0), (0, 0), (0, 0)] 1]) (σ' := ⟨[(0, .int .i64 v1), (1, .int .i64 v2), (15, .bool (decide (v2 > (0 : Int))))], []⟩) rfl trivial rfl ?_
        rcases bif_some h with ⟨hd3, h⟩ | ⟨hd3, h⟩
        · obtain ⟨hg4, h⟩ := grd_some h
          refine Tri.run 3 [.g true] [.keep [0, 5] []] (K' := [.code [(3, 0), (0, 0), (0, 0), (1, 0)] 2, .blk 1]) (σ' := ⟨[(0, .int .i64 v2), (5, .int .i64 (v1.tmod v2))], []⟩) rfl ⟨hg4, hd3, trivial⟩ rfl ?_
          refine Tri.run 1 [] [.keep [0, 1] []] (K' := []) (σ' := ⟨[(0, .int .i64 v2), (1, .int .i64 (v1.tmod v2))], []⟩) rfl trivial rfl ?_
          have h := Option.some.inj h
          subst h
          exact Tri.nil ⟨rfl, rfl⟩
        · refine Tri.run 1 [.g false] [.keep [0] []] (K' := [.code [(3, 0), (0, 0), (0, 0), (0, 0), (1, 1)] 0, .code [(3, 0), (0, 0), (0, 0)] 1]) (σ' := ⟨[(0, .int .i64 v1)], []⟩) rfl ⟨hd3, trivial⟩ rfl ?_
          have h := Option.some.inj h
          subst h
          exact Tri.out 0 rfl ⟨nofun, rfl, rfl⟩
      · intro e σ' hne hq
        obtain ⟨rfl, rfl⟩ := hq
        refine TriX.exit (K' := [.code [] 4]) rfl ?_
        refine Tri.run 1 [] [.keep [4] []] (K' := [.code [] 5]) (σ' := ⟨[(4, .int .i64 v3)], []⟩) rfl trivial rfl ?_
        have h := Option.some.inj h
        subst h
        exact Tri.ret rfl ⟨.inl rfl, rfl, rfl⟩
    · refine Tri.run 1 [.g false] [.keep [0, 1] []] (K' := [.code [(3, 0), (0, 0)] 0, .blk 0, .code [] 4]) (σ' := ⟨[(0, .int .i64 (IntKind.i64.wrap (0 - a0))), (1, .int .i64 a1)], []⟩) rfl ⟨hd2, trivial⟩ rfl ?_
      obtain ⟨v6, hk8, h⟩ := bind_some h
      refine Tri.loop (K1 := [.code [(3, 0), (0, 0), (0, 0)] 0]) (K2 := [.blk 0, .code [] 4]) (fun (v4, v5) => ⟨[(0, .int .i64 v4), (1, .int .i64 v5)], []⟩) (fun x e σ' => match x with | v6 => e = .exit 0 ∧ σ' = ⟨[(0, .int .i64 v6)], []⟩) hk8 rfl rfl ?_ ?_
      · intro s x hs
        clear h
        have h := hs
        clear hs
        obtain ⟨v4, v5⟩ := s
        refine Tri.run 1 [] [.keep [0, 1, 15] []] (K' := [.code [(3, 0), (0, 0), (0, 0), (0, 0)] 1, .code [(3, 0), (0, 0), (0, 0)] 1]) (σ' := ⟨[(0, .int .i64 v4), (1, .int .i64 v5), (15, .bool (decide (v5 > (0 : Int))))], []⟩) rfl trivial rfl ?_
        rcases bif_some h with ⟨hd6, h⟩ | ⟨hd6, h⟩
        · obtain ⟨hg7, h⟩ := grd_some h
          refine Tri.run 3 [.g true] [.keep [0, 5] []] (K' := [.code [(3, 0), (0, 0), (0, 0), (1, 0)] 2, .blk 1]) (σ' := ⟨[(0, .int .i64 v5), (5, .int .i64 (v4.tmod v5))], []⟩) rfl ⟨hg7, hd6, trivial⟩ rfl ?_
          refine Tri.run 1 [] [.keep [0, 1] []] (K' := []) (σ' := ⟨[(0, .int .i64 v5), (1, .int .i64 (v4.tmod v5))], []⟩) rfl trivial rfl ?_
          have h := Option.some.inj h
          subst h
          exact Tri.nil ⟨rfl, rfl⟩
        · refine Tri.run 1 [.g false] [.keep [0] []] (K' := [.code [(3, 0), (0, 0), (0, 0), (0, 0), (1, 1)] 0, .code [(3, 0), (0, 0), (0, 0)] 1]) (σ' := ⟨[(0, .int .i64 v4)], []⟩) rfl ⟨hd6, trivial⟩ rfl ?_
          have h := Option.some.inj h
          subst h
          exact Tri.out 0 rfl ⟨nofun, rfl, rfl⟩
      · intro e σ' hne hq
        obtain ⟨rfl, rfl⟩ := hq
        refine TriX.exit (K' := [.code [] 4]) rfl ?_
        refine Tri.run 1 [] [.keep [4] []] (K' := [.code [] 5]) (σ' := ⟨[(4, .int .i64 v6)], []⟩) rfl trivial rfl ?_
        have h := Option.some.inj h
        subst h
        exact Tri.ret rfl ⟨.inl rfl, rfl, rfl⟩
  · refine Tri.run 2 [.g false] [.keep [0, 1, 11] []] (K' := [.code [(2, 0)] 1, .code [] 3]) (σ' := ⟨[(0, .int .i64 a0), (1, .int .i64 a1), (11, .bool (decide (a1 < (0 : Int))))], []⟩) rfl ⟨hd1, trivial⟩ rfl ?_
    rcases bif_some h with ⟨hd9, h⟩ | ⟨hd9, h⟩
    · refine Tri.run 2 [.g true] [.keep [0, 1] []] (K' := [.code [(3, 0), (0, 0)] 0, .blk 0, .code [] 4]) (σ' := ⟨[(0, .int .i64 a0), (1, .int .i64 (IntKind.i64.wrap (0 - a1)))], []⟩) rfl ⟨hd9, trivial⟩ rfl ?_
      obtain ⟨v9, hk12, h⟩ := bind_some h
      refine Tri.loop (K1 := [.code [(3, 0), (0, 0), (0, 0)] 0]) (K2 := [.blk 0, .code [] 4]) (fun (v7, v8) => ⟨[(0, .int .i64 v7), (1, .int .i64 v8)], []⟩) (fun x e σ' => match x with | v9 => e = .exit 0 ∧ σ' = ⟨[(0, .int .i64 v9)], []⟩) hk12 rfl rfl ?_ ?_
      · intro s x hs
        clear h
        have h := hs
        clear hs
        obtain ⟨v7, v8⟩ := s
        refine Tri.run 1 [] [.keep [0, 1, 15] []] (K' := [.code [(3, 0), (0, 0), (0, 0), (0, 0)] 1, .code [(3, 0), (0, 0), (0, 0)] 1]) (σ' := ⟨[(0, .int .i64 v7), (1, .int .i64 v8), (15, .bool (decide (v8 > (0 : Int))))], []⟩) rfl trivial rfl ?_
        rcases bif_some h with ⟨hd10, h⟩ | ⟨hd10, h⟩
        · obtain ⟨hg11, h⟩ := grd_some h
          refine Tri.run 3 [.g true] [.keep [0, 5] []] (K' := [.code [(3, 0), (0, 0), (0, 0), (1, 0)] 2, .blk 1]) (σ' := ⟨[(0, .int .i64 v8), (5, .int .i64 (v7.tmod v8))], []⟩) rfl ⟨hg11, hd10, trivial⟩ rfl ?_
          refine Tri.run 1 [] [.keep [0, 1] []] (K' := []) (σ' := ⟨[(0, .int .i64 v8), (1, .int .i64 (v7.tmod v8))], []⟩) rfl trivial rfl ?_
          have h := Option.some.inj h
          subst h
          exact Tri.nil ⟨rfl, rfl⟩
        · refine Tri.run 1 [.g false] [.keep [0] []] (K' := [.code [(3, 0), (0, 0), (0, 0), (0, 0), (1, 1)] 0, .code [(3, 0), (0, 0), (0, 0)] 1]) (σ' := ⟨[(0, .int .i64 v7)], []⟩) rfl ⟨hd10, trivial⟩ rfl ?_
          have h := Option.some.inj h
          subst h
          exact Tri.out 0 rfl ⟨nofun, rfl, rfl⟩
      · intro e σ' hne hq
        obtain ⟨rfl, rfl⟩ := hq
        refine TriX.exit (K' := [.code [] 4]) rfl ?_
        refine Tri.run 1 [] [.keep [4] []] (K' := [.code [] 5]) (σ' := ⟨[(4, .int .i64 v9)], []⟩) rfl trivial rfl ?_
        have h := Option.some.inj h
        subst h
        exact Tri.ret rfl ⟨.inl rfl, rfl, rfl⟩
    · refine Tri.run 1 [.g false] [.keep [0, 1] []] (K' := [.code [(3, 0), (0, 0)] 0, .blk 0, .code [] 4]) (σ' := ⟨[(0, .int .i64 a0), (1, .int .i64 a1)], []⟩) rfl ⟨hd9, trivial⟩ rfl ?_
      obtain ⟨v12, hk15, h⟩ := bind_some h
      refine Tri.loop (K1 := [.code [(3, 0), (0, 0), (0, 0)] 0]) (K2 := [.blk 0, .code [] 4]) (fun (v10, v11) => ⟨[(0, .int .i64 v10), (1, .int .i64 v11)], []⟩) (fun x e σ' => match x with | v12 => e = .exit 0 ∧ σ' = ⟨[(0, .int .i64 v12)], []⟩) hk15 rfl rfl ?_ ?_
      · intro s x hs
        clear h
        have h := hs
        clear hs
        obtain ⟨v10, v11⟩ := s
        refine Tri.run 1 [] [.keep [0, 1, 15] []] (K' := [.code [(3, 0), (0, 0), (0, 0), (0, 0)] 1, .code [(3, 0), (0, 0), (0, 0)] 1]) (σ' := ⟨[(0, .int .i64 v10), (1, .int .i64 v11), (15, .bool (decide (v11 > (0 : Int))))], []⟩) rfl trivial rfl ?_
        rcases bif_some h with ⟨hd13, h⟩ | ⟨hd13, h⟩
        · obtain ⟨hg14, h⟩ := grd_some h
          refine Tri.run 3 [.g true] [.keep [0, 5] []] (K' := [.code [(3, 0), (0, 0), (0, 0), (1, 0)] 2, .blk 1]) (σ' := ⟨[(0, .int .i64 v11), (5, .int .i64 (v10.tmod v11))], []⟩) rfl ⟨hg14, hd13, trivial⟩ rfl ?_
          refine Tri.run 1 [] [.keep [0, 1] []] (K' := []) (σ' := ⟨[(0, .int .i64 v11), (1, .int .i64 (v10.tmod v11))], []⟩) rfl trivial rfl ?_
          have h := Option.some.inj h
          subst h
          exact Tri.nil ⟨rfl, rfl⟩
        · refine Tri.run 1 [.g false] [.keep [0] []] (K' := [.code [(3, 0), (0, 0), (0, 0), (0, 0), (1, 1)] 0, .code [(3, 0), (0, 0), (0, 0)] 1]) (σ' := ⟨[(0, .int .i64 v10)], []⟩) rfl ⟨hd13, trivial⟩ rfl ?_
          have h := Option.some.inj h
          subst h
          exact Tri.out 0 rfl ⟨nofun, rfl, rfl⟩
      · intro e σ' hne hq
        obtain ⟨rfl, rfl⟩ := hq
        refine TriX.exit (K' := [.code [] 4]) rfl ?_
        refine Tri.run 1 [] [.keep [4] []] (K' := [.code [] 5]) (σ' := ⟨[(4, .int .i64 v12)], []⟩) rfl trivial rfl ?_
        have h := Option.some.inj h
        subst h
        exact Tri.ret rfl ⟨.inl rfl, rfl, rfl⟩
/-! spec.IsValidRat -/
noncomputable def E105_spec_IsValidRat : Env := ⟨Try.prog, tys, (Try.f105.body).getD .skip, 19, tysOk, mixedOk⟩
abbrev q_spec_IsValidRat (r : Bool) (σ' : ASt) : Prop := resAV E105_spec_IsValidRat.T σ' Try.f105.results.toList = some (.bool r) ∧ keepO σ'.ob (namesO []) = []
noncomputable def m_spec_IsValidRat (a0 : Int) (a1 : Int) : Option Bool :=
(m_spec_l1In a1 (1 : Int) (1000000000 : Int)).bind fun v1 =>
bif v1 then
((m_spec_l1In a0 (-1000000000 : Int) (1000000000 : Int)).bind fun v2 =>
bif v2 then
((m_spec_l3Gcd a0 a1).bind fun v3 =>
some (v3 == (1 : Int)))
else
(some false))
else
(some false)
theorem w_spec_IsValidRat (a0 : Int) (a1 : Int) (r : Bool) (h : m_spec_IsValidRat a0 a1 = some r) : AM.Spec Try.prog 105 [.agg [.int .i64 a0, .int .i64 a1]] [] (.bool r) [] := by
  refine spec_of (E := E105_spec_IsValidRat) Try.func105 rfl rfl rfl rfl ?_
  refine Tri.run 1 [] [.keep [1] [1]] (K' := [.code [(1, 0)] 0, .code [] 2]) (σ' := ⟨[(1, .ptr 1 0)], [(1, .box [.int .i64 a0, .int .i64 a1])]⟩) rfl trivial rfl ?_
  obtain ⟨v1, hk1, h⟩ := bind_some h
  rcases bif_some h with ⟨hd2, h⟩ | ⟨hd2, h⟩
  · obtain ⟨v2, hk3, h⟩ := bind_some h
    rcases bif_some h with ⟨hd4, h⟩ | ⟨hd4, h⟩
    · obtain ⟨v3, hk5, h⟩ := bind_some h
      refine Tri.run 1 [.r ⟨[], .bool v1, []⟩, .g true, .r ⟨[], .bool v2, []⟩, .g true, .r ⟨[], .int .i64 v3, []⟩] [.keep [2] []] (K' := [.code [] 2]) (σ' := ⟨[(2, .bool (v3 == (1 : Int)))], []⟩) rfl ⟨(fun _ => (w_spec_l3Gcd a0 a1 v3 hk5)), hd4, (fun _ => (w_spec_l1In a0 (-1000000000 : Int) (1000000000 : Int) v2 hk3)), hd2, (fun _ => (w_spec_l1In a1 (1 : Int) (1000000000 : Int) v1 hk1)), trivial⟩ rfl ?_
      have h := Option.some.inj h
      subst h
      exact Tri.ret rfl ⟨.inl rfl, rfl, rfl⟩
    · refine Tri.run 1 [.r ⟨[], .bool v1, []⟩, .g true, .r ⟨[], .bool v2, []⟩, .g false] [.keep [2] []] (K' := [.code [] 2]) (σ' := ⟨[(2, .bool false)], []⟩) rfl ⟨hd4, (fun _ => (w_spec_l1In a0 (-1000000000 : Int) (1000000000 : Int) v2 hk3)), hd2, (fun _ => (w_spec_l1In a1 (1 : Int) (1000000000 : Int) v1 hk1)), trivial⟩ rfl ?_
      have h := Option.some.inj h
      subst h
      exact Tri.ret rfl ⟨.inl rfl, rfl, rfl⟩
  · refine Tri.run 1 [.r ⟨[], .bool v1, []⟩, .g false, .g false] [.keep [2] []] (K' := [.code [] 2]) (σ' := ⟨[(2, .bool false)], []⟩) rfl ⟨rfl, hd2, (fun _ => (w_spec_l1In a1 (1 : Int) (1000000000 : Int) v1 hk1)), trivial⟩ rfl ?_
    have h := Option.some.inj h
    subst h
    exact Tri.ret rfl ⟨.inl rfl, rfl, rfl⟩
/-! spec.RatOf -/
noncomputable def E89_spec_RatOf : Env := ⟨Try.prog, tys, (Try.f89.body).getD .skip, 42, tysOk, mixedOk⟩
abbrev q_spec_RatOf (r : Int × Int × Bool) (σ' : ASt) : Prop := resAV E89_spec_RatOf.T σ' Try.f89.results.toList = some (.tuple [.agg [.int .i64 r.1, .int .i64 r.2.1], .bool r.2.2]) ∧ keepO σ'.ob (namesO []) = []
noncomputable def m_spec_RatOf (a0 : Int) (a1 : Int) : Option (Int × Int × Bool) :=
bif a1 == (0 : Int) then
(some (0, 0, false))
else
((m_spec_l1In a0 (-1000000000000000000 : Int) (1000000000000000000 : Int)).bind fun v1 =>
bif !v1 then
(some (0, 0, false))
else
((m_spec_l1In a1 (-1000000000000000000 : Int) (1000000000000000000 : Int)).bind fun v2 =>
bif !v2 then
(some (0, 0, false))
else
(bif decide (a1 < (0 : Int)) then
((m_spec_l3Gcd (IntKind.i64.wrap (0 - a0)) (IntKind.i64.wrap (0 - a1))).bind fun v3 =>
grd (v3 ≠ 0) <|
grd (v3 ≠ 0) <|
(m_spec_IsValidRat (IntKind.i64.wrap ((IntKind.i64.wrap (0 - a0)).tdiv v3)) (IntKind.i64.wrap ((IntKind.i64.wrap (0 - a1)).tdiv v3))).bind fun v4 =>
bif !v4 then
(some (0, 0, false))
else
(some (IntKind.i64.wrap ((IntKind.i64.wrap (0 - a0)).tdiv v3), IntKind.i64.wrap ((IntKind.i64.wrap (0 - a1)).tdiv v3), true)))
else
((m_spec_l3Gcd a0 a1).bind fun v5 =>
grd (v5 ≠ 0) <|
grd (v5 ≠ 0) <|
(m_spec_IsValidRat (IntKind.i64.wrap (a0.tdiv v5)) (IntKind.i64.wrap (a1.tdiv v5))).bind fun v6 =>
bif !v6 then
(some (0, 0, false))
else
(some (IntKind.i64.wrap (a0.tdiv v5), IntKind.i64.wrap (a1.tdiv v5), true))))))
theorem w_spec_RatOf (a0 : Int) (a1 : Int) (r : Int × Int × Bool) (h : m_spec_RatOf a0 a1 = some r) : AM.Spec Try.prog 89 [.int .i64 a0, .int .i64 a1] [] (.tuple [.agg [.int .i64 r.1, .int .i64 r.2.1], .bool r.2.2]) [] := by
  refine spec_of (E := E89_spec_RatOf) Try.func89 rfl rfl rfl rfl ?_
  refine Tri.run 1 [] [.keep [0, 1, 4] [4]] (K' := [.code [(1, 0), (0, 0)] 0, .code [(1, 0)] 1, .code [] 2]) (σ' := ⟨[(0, .int .i64 a0), (1, .int .i64 a1), (4, .ptr 4 0)], [(4, .box [.int .i64 0, .int .i64 0])]⟩) rfl trivial rfl ?_
  rcases bif_some h with ⟨hd1, h⟩ | ⟨hd1, h⟩
  · refine Tri.run 1 [.g true, .g true] [.keep [0, 1, 4, 19] [4]] (K' := [.code [(1, 0)] 1, .code [] 2]) (σ' := ⟨[(0, .int .i64 a0), (1, .int .i64 a1), (4, .ptr 4 0), (19, .bool true)], [(4, .box [.int .i64 0, .int .i64 0])]⟩) rfl ⟨rfl, hd1, trivial⟩ rfl ?_
    refine Tri.run 2 [.g true] [.keep [4, 5] [4]] (K' := [.code [(1, 0), (1, 0)] 1, .code [] 2]) (σ' := ⟨[(4, .ptr 4 0), (5, .bool false)], [(4, .box [.int .i64 0, .int .i64 0])]⟩) rfl ⟨rfl, trivial⟩ rfl ?_
    have h := Option.some.inj h
    subst h
    exact Tri.ret rfl ⟨.inl rfl, rfl, rfl⟩
  · obtain ⟨v1, hk2, h⟩ := bind_some h
    rcases bif_some h with ⟨hd3, h⟩ | ⟨hd3, h⟩
    · refine Tri.run 1 [.g false, .r ⟨[], .bool v1, []⟩, .g true] [.keep [0, 1, 4, 19] [4]] (K' := [.code [(1, 0)] 1, .code [] 2]) (σ' := ⟨[(0, .int .i64 a0), (1, .int .i64 a1), (4, .ptr 4 0), (19, .bool true)], [(4, .box [.int .i64 0, .int .i64 0])]⟩) rfl ⟨hd3, (fun _ => (w_spec_l1In a0 (-1000000000000000000 : Int) (1000000000000000000 : Int) v1 hk2)), hd1, trivial⟩ rfl ?_
      refine Tri.run 2 [.g true] [.keep [4, 5] [4]] (K' := [.code [(1, 0), (1, 0)] 1, .code [] 2]) (σ' := ⟨[(4, .ptr 4 0), (5, .bool false)], [(4, .box [.int .i64 0, .int .i64 0])]⟩) rfl ⟨rfl, trivial⟩ rfl ?_
      have h := Option.some.inj h
      subst h
      exact Tri.ret rfl ⟨.inl rfl, rfl, rfl⟩
    · obtain ⟨v2, hk4, h⟩ := bind_some h
      refine Tri.run 1 [.g false, .r ⟨[], .bool v1, []⟩, .g false, .r ⟨[], .bool v2, []⟩] [.keep [0, 1, 4, 19] [4]] (K' := [.code [(1, 0)] 1, .code [] 2]) (σ' := ⟨[(0, .int .i64 a0), (1, .int .i64 a1), (4, .ptr 4 0), (19, .bool (!v2))], [(4, .box [.int .i64 0, .int .i64 0])]⟩) rfl ⟨(fun _ => (w_spec_l1In a1 (-1000000000000000000 : Int) (1000000000000000000 : Int) v2 hk4)), hd3, (fun _ => (w_spec_l1In a0 (-1000000000000000000 : Int) (1000000000000000000 : Int) v1 hk2)), hd1, trivial⟩ rfl ?_
      rcases bif_some h with ⟨hd5, h⟩ | ⟨hd5, h⟩
      · refine Tri.run 2 [.g true] [.keep [4, 5] [4]] (K' := [.code [(1, 0), (1, 0)] 1, .code [] 2]) (σ' := ⟨[(4, .ptr 4 0), (5, .bool false)], [(4, .box [.int .i64 0, .int .i64 0])]⟩) rfl ⟨hd5, trivial⟩ rfl ?_
        have h := Option.some.inj h
        subst h
        exact Tri.ret rfl ⟨.inl rfl, rfl, rfl⟩
      · refine Tri.run 2 [.g false] [.keep [0, 1, 4, 22] [4]] (K' := [.code [(2, 0)] 1, .code [] 3]) (σ' := ⟨[(0, .int .i64 a0), (1, .int .i64 a1), (4, .ptr 4 0), (22, .bool (decide (a1 < (0 : Int))))], [(4, .box [.int .i64 0, .int .i64 0])]⟩) rfl ⟨hd5, trivial⟩ rfl ?_
        rcases bif_some h with ⟨hd6, h⟩ | ⟨hd6, h⟩
        · refine Tri.run 3 [.g true] [.keep [0, 1, 4] [4]] (K' := [.code [(3, 0)] 0, .code [] 4]) (σ' := ⟨[(0, .int .i64 (IntKind.i64.wrap (0 - a0))), (1, .int .i64 (IntKind.i64.wrap (0 - a1))), (4, .ptr 4 0)], [(4, .box [.int .i64 0, .int .i64 0])]⟩) rfl ⟨hd6, trivial⟩ rfl ?_
          obtain ⟨v3, hk7, h⟩ := bind_some h
          obtain ⟨hg8, h⟩ := grd_some h
          obtain ⟨hg9, h⟩ := grd_some h
          refine Tri.run 2 [.r ⟨[], .int .i64 v3, []⟩] [.keep [4, 7] [4, 7]] (K' := [.code [(5, 0), (0, 0)] 0, .code [(5, 0)] 1, .code [] 6]) (σ' := ⟨[(4, .ptr 4 0), (7, .ptr 7 0)], [(4, .box [.int .i64 0, .int .i64 0]), (7, .box [.int .i64 (IntKind.i64.wrap ((IntKind.i64.wrap (0 - a0)).tdiv v3)), .int .i64 (IntKind.i64.wrap ((IntKind.i64.wrap (0 - a1)).tdiv v3))])]⟩) rfl ⟨hg9, hg8, (fun _ => (w_spec_l3Gcd (IntKind.i64.wrap (0 - a0)) (IntKind.i64.wrap (0 - a1)) v3 hk7)), trivial⟩ rfl ?_
          obtain ⟨v4, hk10, h⟩ := bind_some h
          refine Tri.run 1 [.r ⟨[], .bool v4, []⟩] [.keep [4, 7, 39] [4, 7]] (K' := [.code [(5, 0)] 1, .code [] 6]) (σ' := ⟨[(4, .ptr 4 0), (7, .ptr 7 0), (39, .bool (!v4))], [(4, .box [.int .i64 0, .int .i64 0]), (7, .box [.int .i64 (IntKind.i64.wrap ((IntKind.i64.wrap (0 - a0)).tdiv v3)), .int .i64 (IntKind.i64.wrap ((IntKind.i64.wrap (0 - a1)).tdiv v3))])]⟩) rfl ⟨(fun _ => (w_spec_IsValidRat (IntKind.i64.wrap ((IntKind.i64.wrap (0 - a0)).tdiv v3)) (IntKind.i64.wrap ((IntKind.i64.wrap (0 - a1)).tdiv v3)) v4 hk10)), trivial⟩ rfl ?_
          rcases bif_some h with ⟨hd11, h⟩ | ⟨hd11, h⟩
          · refine Tri.run 2 [.g true] [.keep [4, 5] [4]] (K' := [.code [(5, 0), (1, 0)] 1, .code [] 6]) (σ' := ⟨[(4, .ptr 4 0), (5, .bool false)], [(4, .box [.int .i64 0, .int .i64 0])]⟩) rfl ⟨hd11, trivial⟩ rfl ?_
            have h := Option.some.inj h
            subst h
            exact Tri.ret rfl ⟨.inl rfl, rfl, rfl⟩
          · refine Tri.run 2 [.g false] [.keep [4, 5] [4]] (K' := [.code [] 7]) (σ' := ⟨[(4, .ptr 4 0), (5, .bool true)], [(4, .box [.int .i64 (IntKind.i64.wrap ((IntKind.i64.wrap (0 - a0)).tdiv v3)), .int .i64 (IntKind.i64.wrap ((IntKind.i64.wrap (0 - a1)).tdiv v3))])]⟩) rfl ⟨hd11, trivial⟩ rfl ?_
            have h := Option.some.inj h
            subst h
            exact Tri.ret rfl ⟨.inl rfl, rfl, rfl⟩
        · obtain ⟨v5, hk12, h⟩ := bind_some h
          obtain ⟨hg13, h⟩ := grd_some h
          obtain ⟨hg14, h⟩ := grd_some h
          refine Tri.run 3 [.g false, .r ⟨[], .int .i64 v5, []⟩] [.keep [4, 7] [4, 7]] (K' := [.code [(5, 0), (0, 0)] 0, .code [(5, 0)] 1, .code [] 6]) (σ' := ⟨[(4, .ptr 4 0), (7, .ptr 7 0)], [(4, .box [.int .i64 0, .int .i64 0]), (7, .box [.int .i64 (IntKind.i64.wrap (a0.tdiv v5)), .int .i64 (IntKind.i64.wrap (a1.tdiv v5))])]⟩) rfl ⟨hg14, hg13, (fun _ => (w_spec_l3Gcd a0 a1 v5 hk12)), hd6, trivial⟩ rfl ?_
          obtain ⟨v6, hk15, h⟩ := bind_some h
          refine Tri.run 1 [.r ⟨[], .bool v6, []⟩] [.keep [4, 7, 39] [4, 7]] (K' := [.code [(5, 0)] 1, .code [] 6]) (σ' := ⟨[(4, .ptr 4 0), (7, .ptr 7 0), (39, .bool (!v6))], [(4, .box [.int .i64 0, .int .i64 0]), (7, .box [.int .i64 (IntKind.i64.wrap (a0.tdiv v5)), .int .i64 (IntKind.i64.wrap (a1.tdiv v5))])]⟩) rfl ⟨(fun _ => (w_spec_IsValidRat (IntKind.i64.wrap (a0.tdiv v5)) (IntKind.i64.wrap (a1.tdiv v5)) v6 hk15)), trivial⟩ rfl ?_
          rcases bif_some h with ⟨hd16, h⟩ | ⟨hd16, h⟩
          · refine Tri.run 2 [.g true] [.keep [4, 5] [4]] (K' := [.code [(5, 0), (1, 0)] 1, .code [] 6]) (σ' := ⟨[(4, .ptr 4 0), (5, .bool false)], [(4, .box [.int .i64 0, .int .i64 0])]⟩) rfl ⟨hd16, trivial⟩ rfl ?_
            have h := Option.some.inj h
            subst h
            exact Tri.ret rfl ⟨.inl rfl, rfl, rfl⟩
          · refine Tri.run 2 [.g false] [.keep [4, 5] [4]] (K' := [.code [] 7]) (σ' := ⟨[(4, .ptr 4 0), (5, .bool true)], [(4, .box [.int .i64 (IntKind.i64.wrap (a0.tdiv v5)), .int .i64 (IntKind.i64.wrap (a1.tdiv v5))])]⟩) rfl ⟨hd16, trivial⟩ rfl ?_
            have h := Option.some.inj h
            subst h
            exact Tri.ret rfl ⟨.inl rfl, rfl, rfl⟩
/-! spec.AddRat -/
noncomputable def E94_spec_AddRat : Env := ⟨Try.prog, tys, (Try.f94.body).getD .skip, 34, tysOk, mixedOk⟩
abbrev q_spec_AddRat (r : Int × Int × Bool) (σ' : ASt) : Prop := resAV E94_spec_AddRat.T σ' Try.f94.results.toList = some (.tuple [.agg [.int .i64 r.1, .int .i64 r.2.1], .bool r.2.2]) ∧ keepO σ'.ob (namesO []) = []
noncomputable def m_spec_AddRat (a0 : Int) (a1 : Int) (a2 : Int) (a3 : Int) : Option (Int × Int × Bool) :=
(m_spec_IsValidRat a0 a1).bind fun v1 =>
bif !v1 then
(some (0, 0, false))
else
((m_spec_IsValidRat a2 a3).bind fun v2 =>
bif !v2 then
(some (0, 0, false))
else
((m_spec_RatOf (IntKind.i64.wrap ((IntKind.i64.wrap (a0 * a3)) + (IntKind.i64.wrap (a2 * a1)))) (IntKind.i64.wrap (a1 * a3))).bind fun (v3, v4, v5) =>
some (v3, v4, v5)))
theorem w_spec_AddRat (a0 : Int) (a1 : Int) (a2 : Int) (a3 : Int) (r : Int × Int × Bool) (h : m_spec_AddRat a0 a1 a2 a3 = some r) : AM.Spec Try.prog 94 [.agg [.int .i64 a0, .int .i64 a1], .agg [.int .i64 a2, .int .i64 a3]] [] (.tuple [.agg [.int .i64 r.1, .int .i64 r.2.1], .bool r.2.2]) [] := by
  refine spec_of (E := E94_spec_AddRat) Try.func94 rfl rfl rfl rfl ?_
  refine Tri.run 1 [] [.keep [2, 3, 4] [2, 3, 4]] (K' := [.code [(1, 0), (0, 0)] 0, .code [(1, 0)] 1, .code [] 2]) (σ' := ⟨[(2, .ptr 2 0), (3, .ptr 3 0), (4, .ptr 4 0)], [(2, .box [.int .i64 a0, .int .i64 a1]), (3, .box [.int .i64 a2, .int .i64 a3]), (4, .box [.int .i64 0, .int .i64 0])]⟩) rfl trivial rfl ?_
  obtain ⟨v1, hk1, h⟩ := bind_some h
  rcases bif_some h with ⟨hd2, h⟩ | ⟨hd2, h⟩
  · refine Tri.run 1 [.r ⟨[], .bool v1, []⟩, .g true] [.keep [2, 3, 4, 13] [2, 3, 4]] (K' := [.code [(1, 0)] 1, .code [] 2]) (σ' := ⟨[(2, .ptr 2 0), (3, .ptr 3 0), (4, .ptr 4 0), (13, .bool true)], [(2, .box [.int .i64 a0, .int .i64 a1]), (3, .box [.int .i64 a2, .int .i64 a3]), (4, .box [.int .i64 0, .int .i64 0])]⟩) rfl ⟨hd2, (fun _ => (w_spec_IsValidRat a0 a1 v1 hk1)), trivial⟩ rfl ?_
    refine Tri.run 2 [.g true] [.keep [4, 5] [4]] (K' := [.code [(1, 0), (1, 0)] 1, .code [] 2]) (σ' := ⟨[(4, .ptr 4 0), (5, .bool false)], [(4, .box [.int .i64 0, .int .i64 0])]⟩) rfl ⟨rfl, trivial⟩ rfl ?_
    have h := Option.some.inj h
    subst h
    exact Tri.ret rfl ⟨.inl rfl, rfl, rfl⟩
  · obtain ⟨v2, hk3, h⟩ := bind_some h
    refine Tri.run 1 [.r ⟨[], .bool v1, []⟩, .g false, .r ⟨[], .bool v2, []⟩] [.keep [2, 3, 4, 13] [2, 3, 4]] (K' := [.code [(1, 0)] 1, .code [] 2]) (σ' := ⟨[(2, .ptr 2 0), (3, .ptr 3 0), (4, .ptr 4 0), (13, .bool (!v2))], [(2, .box [.int .i64 a0, .int .i64 a1]), (3, .box [.int .i64 a2, .int .i64 a3]), (4, .box [.int .i64 0, .int .i64 0])]⟩) rfl ⟨(fun _ => (w_spec_IsValidRat a2 a3 v2 hk3)), hd2, (fun _ => (w_spec_IsValidRat a0 a1 v1 hk1)), trivial⟩ rfl ?_
    rcases bif_some h with ⟨hd4, h⟩ | ⟨hd4, h⟩
    · refine Tri.run 2 [.g true] [.keep [4, 5] [4]] (K' := [.code [(1, 0), (1, 0)] 1, .code [] 2]) (σ' := ⟨[(4, .ptr 4 0), (5, .bool false)], [(4, .box [.int .i64 0, .int .i64 0])]⟩) rfl ⟨hd4, trivial⟩ rfl ?_
      have h := Option.some.inj h
      subst h
      exact Tri.ret rfl ⟨.inl rfl, rfl, rfl⟩
    · obtain ⟨⟨v3, v4, v5⟩, hk5, h⟩ := bind_some h
      refine Tri.run 2 [.g false, .r ⟨[], .tuple [.agg [.int .i64 v3, .int .i64 v4], .bool v5], []⟩] [.keep [4, 5] [4]] (K' := [.code [] 3]) (σ' := ⟨[(4, .ptr 4 0), (5, .bool v5)], [(4, .box [.int .i64 v3, .int .i64 v4])]⟩) rfl ⟨(fun _ => (w_spec_RatOf (IntKind.i64.wrap ((IntKind.i64.wrap (a0 * a3)) + (IntKind.i64.wrap (a2 * a1)))) (IntKind.i64.wrap (a1 * a3)) (v3, v4, v5) hk5)), hd4, trivial⟩ rfl ?_
      have h := Option.some.inj h
      subst h
      exact Tri.ret rfl ⟨.inl rfl, rfl, rfl⟩
/-! spec.DivRat -/
noncomputable def E95_spec_DivRat : Env := ⟨Try.prog, tys, (Try.f95.body).getD .skip, 28, tysOk, mixedOk⟩
abbrev q_spec_DivRat (r : Int × Int × Bool) (σ' : ASt) : Prop := resAV E95_spec_DivRat.T σ' Try.f95.results.toList = some (.tuple [.agg [.int .i64 r.1, .int .i64 r.2.1], .bool r.2.2]) ∧ keepO σ'.ob (namesO []) = []
noncomputable def m_spec_DivRat (a0 : Int) (a1 : Int) (a2 : Int) (a3 : Int) : Option (Int × Int × Bool) :=
(m_spec_IsValidRat a0 a1).bind fun v1 =>
bif !v1 then
(some (0, 0, false))
else
((m_spec_IsValidRat a2 a3).bind fun v2 =>
bif !v2 then
(some (0, 0, false))
else
((m_spec_RatOf (IntKind.i64.wrap (a0 * a3)) (IntKind.i64.wrap (a1 * a2))).bind fun (v3, v4, v5) =>
some (v3, v4, v5)))
theorem w_spec_DivRat (a0 : Int) (a1 : Int) (a2 : Int) (a3 : Int) (r : Int × Int × Bool) (h : m_spec_DivRat a0 a1 a2 a3 = some r) : AM.Spec Try.prog 95 [.agg [.int .i64 a0, .int .i64 a1], .agg [.int .i64 a2, .int .i64 a3]] [] (.tuple [.agg [.int .i64 r.1, .int .i64 r.2.1], .bool r.2.2]) [] := by
  refine spec_of (E := E95_spec_DivRat) Try.func95 rfl rfl rfl rfl ?_
  refine Tri.run 1 [] [.keep [2, 3, 4] [2, 3, 4]] (K' := [.code [(1, 0), (0, 0)] 0, .code [(1, 0)] 1, .code [] 2]) (σ' := ⟨[(2, .ptr 2 0), (3, .ptr 3 0), (4, .ptr 4 0)], [(2, .box [.int .i64 a0, .int .i64 a1]), (3, .box [.int .i64 a2, .int .i64 a3]), (4, .box [.int .i64 0, .int .i64 0])]⟩) rfl trivial rfl ?_
  obtain ⟨v1, hk1, h⟩ := bind_some h
  rcases bif_some h with ⟨hd2, h⟩ | ⟨hd2, h⟩
  · refine Tri.run 1 [.r ⟨[], .bool v1, []⟩, .g true] [.keep [2, 3, 4, 13] [2, 3, 4]] (K' := [.code [(1, 0)] 1, .code [] 2]) (σ' := ⟨[(2, .ptr 2 0), (3, .ptr 3 0), (4, .ptr 4 0), (13, .bool true)], [(2, .box [.int .i64 a0, .int .i64 a1]), (3, .box [.int .i64 a2, .int .i64 a3]), (4, .box [.int .i64 0, .int .i64 0])]⟩) rfl ⟨hd2, (fun _ => (w_spec_IsValidRat a0 a1 v1 hk1)), trivial⟩ rfl ?_
    refine Tri.run 2 [.g true] [.keep [4, 5] [4]] (K' := [.code [(1, 0), (1, 0)] 1, .code [] 2]) (σ' := ⟨[(4, .ptr 4 0), (5, .bool false)], [(4, .box [.int .i64 0, .int .i64 0])]⟩) rfl ⟨rfl, trivial⟩ rfl ?_
    have h := Option.some.inj h
    subst h
    exact Tri.ret rfl ⟨.inl rfl, rfl, rfl⟩
  · obtain ⟨v2, hk3, h⟩ := bind_some h
    refine Tri.run 1 [.r ⟨[], .bool v1, []⟩, .g false, .r ⟨[], .bool v2, []⟩] [.keep [2, 3, 4, 13] [2, 3, 4]] (K' := [.code [(1, 0)] 1, .code [] 2]) (σ' := ⟨[(2, .ptr 2 0), (3, .ptr 3 0), (4, .ptr 4 0), (13, .bool (!v2))], [(2, .box [.int .i64 a0, .int .i64 a1]), (3, .box [.int .i64 a2, .int .i64 a3]), (4, .box [.int .i64 0, .int .i64 0])]⟩) rfl ⟨(fun _ => (w_spec_IsValidRat a2 a3 v2 hk3)), hd2, (fun _ => (w_spec_IsValidRat a0 a1 v1 hk1)), trivial⟩ rfl ?_
    rcases bif_some h with ⟨hd4, h⟩ | ⟨hd4, h⟩
    · refine Tri.run 2 [.g true] [.keep [4, 5] [4]] (K' := [.code [(1, 0), (1, 0)] 1, .code [] 2]) (σ' := ⟨[(4, .ptr 4 0), (5, .bool false)], [(4, .box [.int .i64 0, .int .i64 0])]⟩) rfl ⟨hd4, trivial⟩ rfl ?_
      have h := Option.some.inj h
      subst h
      exact Tri.ret rfl ⟨.inl rfl, rfl, rfl⟩
    · obtain ⟨⟨v3, v4, v5⟩, hk5, h⟩ := bind_some h
      refine Tri.run 2 [.g false, .r ⟨[], .tuple [.agg [.int .i64 v3, .int .i64 v4], .bool v5], []⟩] [.keep [4, 5] [4]] (K' := [.code [] 3]) (σ' := ⟨[(4, .ptr 4 0), (5, .bool v5)], [(4, .box [.int .i64 v3, .int .i64 v4])]⟩) rfl ⟨(fun _ => (w_spec_RatOf (IntKind.i64.wrap (a0 * a3)) (IntKind.i64.wrap (a1 * a2)) (v3, v4, v5) hk5)), hd4, trivial⟩ rfl ?_
      have h := Option.some.inj h
      subst h
      exact Tri.ret rfl ⟨.inl rfl, rfl, rfl⟩
/-! spec.PotentialOf -/
noncomputable def E51_spec_PotentialOf : Env := ⟨Try.prog, tys, (Try.f51.body).getD .skip, 74, tysOk, mixedOk⟩
abbrev q_spec_PotentialOf (r : List Q) (σ' : ASt) : Prop := resAV E51_spec_PotentialOf.T σ' Try.f51.results.toList = some (.sl 1000 0) ∧ keepO σ'.ob (namesO [(1000, .arr 54 0 0 (.rats r))]) = [(1000, .arr 54 0 0 (.rats r))]
noncomputable def l_spec_PotentialOf_1 (v1 : Int) (v2 : List Q) (v6 : List Int) : (Int × Int × Int) → Option ((Int × Int × Int) ⊕ ((Int × Int) ⊕ ((List Q))))
  | (v7, v8, v9) => (
bif decide (v7 < (v6.length : Int)) then
(grd ((0 : Int) ≤ v7 ∧ v7 < (v6.length : Int)) <|
(m_spec_l2Bit (v6.getD v7.toNat 0)).bind fun v10 =>
grd ((0 : Int) ≤ IntKind.i64.wrap (v1 - v10) ∧ IntKind.i64.wrap (v1 - v10) < (v2.length : Int)) <|
(m_spec_AddRat v8 v9 ((v2.getD ((IntKind.i64.wrap (v1 - v10)).toNat) ⟨0, 0⟩).num) ((v2.getD ((IntKind.i64.wrap (v1 - v10)).toNat) ⟨0, 0⟩).den)).bind fun (v11, v12, v13) =>
bif !v13 then
(some (.inr (.inr [])))
else
(some (.inl (IntKind.i64.wrap (v7 + (1 : Int)), v11, v12))))
else
(some (.inr (.inl (v8, v9)))))
noncomputable def l_spec_PotentialOf_0 (a0 : Int) (a1 : List Int) : (Int × (List Q)) → Option ((Int × (List Q)) ⊕ ((List Q) ⊕ ((List Q))))
  | (v1, v2) => (
bif decide (v1 < (a1.length : Int)) then
((m_spec_IsValidGame a0 a1).bind fun v3 =>
bif v3 then
(grd ((0 : Int) ≤ v1 ∧ v1 < (a1.length : Int)) <|
(m_spec_l3Int (a1.getD v1.toNat 0)).bind fun (v4, v5) =>
(m_spec_MembersOf v1).bind fun v6 =>
(iter (l_spec_PotentialOf_1 v1 v2 v6) ((0 : Int), v4, v5)).bind fun
| (.inl (v14, v15)) => (
(m_spec_l1Max (1 : Int) (v6.length : Int)).bind fun v16 =>
(m_spec_l3Int v16).bind fun (v17, v18) =>
(m_spec_DivRat v14 v15 v17 v18).bind fun (v19, v20, v21) =>
bif !v21 then
(some (.inr (.inr [])))
else
(grd (v2.length + ([⟨v19, v20⟩] : List Q).length ≤ room) <|
some (.inl (IntKind.i64.wrap (v1 + (1 : Int)), v2 ++ [⟨v19, v20⟩]))))
| (.inr r) => some (.inr (.inr r)))
else
(some (.inr (.inl v2))))
else
(some (.inr (.inl v2))))
noncomputable def m_spec_PotentialOf (a0 : Int) (a1 : List Int) : Option (List Q) :=
(iter (l_spec_PotentialOf_0 a0 a1) ((0 : Int), [])).bind fun
| (.inl v22) => (
some v22)
| (.inr r) => some r
theorem w_spec_PotentialOf (a0 : Int) (a1 : List Int) (r : List Q) (h : m_spec_PotentialOf a0 a1 = some r) : AM.Spec Try.prog 51 [.agg [.int .i64 a0, .list (.ints a1)]] [] (.sl 1000 0) [(1000, .arr 54 0 0 (.rats r))] := by
  refine spec_of (E := E51_spec_PotentialOf) Try.func51 rfl rfl rfl rfl ?_
  refine Tri.run 3 [] [.keep [1, 3, 4] [1, 12]] (K' := [.code [(2, 0), (1, 0)] 0, .blk 0, .code [] 3]) (σ' := ⟨[(1, .ptr 1 0), (3, .sl 12 0), (4, .int .i64 (0 : Int))], [(1, .box [.int .i64 a0, .list (.ints a1)]), (12, .arr 54 0 0 (.rats []))]⟩) rfl trivial rfl ?_
  obtain ⟨x2, hk19, h⟩ := bind_some h
  refine Tri.loop (K1 := [.code [(2, 0), (1, 0), (0, 0)] 0]) (K2 := [.blk 0, .code [] 3]) (fun (v1, v2) => ⟨[(1, .ptr 1 0), (3, .sl 12 0), (4, .int .i64 v1)], [(1, .box [.int .i64 a0, .list (.ints a1)]), (12, .arr 54 0 0 (.rats v2))]⟩) (fun x e σ' => match x with | (.inl v22) => e = .exit 0 ∧ σ' = ⟨[(3, .sl 12 0)], [(12, .arr 54 0 0 (.rats v22))]⟩ | (.inr r) => e = .ret ∧ q_spec_PotentialOf r σ') hk19 rfl rfl ?_ ?_
  · intro s x hs
    clear h
    have h := hs
    clear hs
    obtain ⟨v1, v2⟩ := s
    rcases bif_some h with ⟨hd1, h⟩ | ⟨hd1, h⟩
    · obtain ⟨v3, hk2, h⟩ := bind_some h
      refine Tri.run 1 [.g true, .r ⟨[], .bool v3, []⟩] [.keep [1, 3, 4, 21] [1, 12]] (K' := [.code [(2, 0), (1, 0), (0, 0), (0, 0)] 1, .code [(2, 0), (1, 0), (0, 0)] 1]) (σ' := ⟨[(1, .ptr 1 0), (3, .sl 12 0), (4, .int .i64 v1), (21, .bool v3)], [(1, .box [.int .i64 a0, .list (.ints a1)]), (12, .arr 54 0 0 (.rats v2))]⟩) rfl ⟨(fun _ => (w_spec_IsValidGame a0 a1 v3 hk2)), hd1, trivial⟩ rfl ?_
      rcases bif_some h with ⟨hd3, h⟩ | ⟨hd3, h⟩
      · obtain ⟨hg4, h⟩ := grd_some h
        obtain ⟨⟨v4, v5⟩, hk5, h⟩ := bind_some h
        refine Tri.run 2 [.g true, .r ⟨[], .agg [.int .i64 v4, .int .i64 v5], []⟩] [.keep [1, 3, 4, 5] [1, 5, 12]] (K' := [.code [(2, 0), (1, 0), (0, 0), (1, 0), (0, 0), (1, 0)] 0, .code [(2, 0), (1, 0), (0, 0), (1, 0), (0, 0)] 2, .blk 1, .code [(2, 0), (1, 0), (0, 0)] 2]) (σ' := ⟨[(1, .ptr 1 0), (3, .sl 12 0), (4, .int .i64 v1), (5, .ptr 5 0)], [(1, .box [.int .i64 a0, .list (.ints a1)]), (5, .box [.int .i64 v4, .int .i64 v5]), (12, .arr 54 0 0 (.rats v2))]⟩) rfl ⟨(fun _ => (w_spec_l3Int (a1.getD v1.toNat 0) (v4, v5) hk5)), hg4, hd3, trivial⟩ rfl ?_
        obtain ⟨v6, hk6, h⟩ := bind_some h
        refine Tri.run 2 [.r ⟨[], .sl 1100 0, [(1100, .arr 3 0 0 (.ints v6))]⟩] [.keep [1, 3, 4, 5, 6, 7] [1, 5, 12, 1100]] (K' := [.code [(2, 0), (1, 0), (0, 0), (1, 0), (0, 0), (2, 0), (1, 0)] 0, .blk 2, .code [(2, 0), (1, 0), (0, 0), (1, 0), (0, 0)] 3, .blk 1, .code [(2, 0), (1, 0), (0, 0)] 2]) (σ' := ⟨[(1, .ptr 1 0), (3, .sl 12 0), (4, .int .i64 v1), (5, .ptr 5 0), (6, .sl 1100 0), (7, .int .i64 (0 : Int))], [(1, .box [.int .i64 a0, .list (.ints a1)]), (5, .box [.int .i64 v4, .int .i64 v5]), (12, .arr 54 0 0 (.rats v2)), (1100, .arr 3 0 0 (.ints v6))]⟩) rfl ⟨(fun _ => ((w_spec_MembersOf v1 v6 hk6).swap 1000 1100)), trivial⟩ rfl ?_
        obtain ⟨x2, hk13, h⟩ := bind_some h
        refine Tri.loop (K1 := [.code [(2, 0), (1, 0), (0, 0), (1, 0), (0, 0), (2, 0), (1, 0), (0, 0)] 0]) (K2 := [.blk 2, .code [(2, 0), (1, 0), (0, 0), (1, 0), (0, 0)] 3, .blk 1, .code [(2, 0), (1, 0), (0, 0)] 2]) (fun (v7, v8, v9) => ⟨[(1, .ptr 1 0), (3, .sl 12 0), (4, .int .i64 v1), (5, .ptr 5 0), (6, .sl 1100 0), (7, .int .i64 v7)], [(1, .box [.int .i64 a0, .list (.ints a1)]), (5, .box [.int .i64 v8, .int .i64 v9]), (12, .arr 54 0 0 (.rats v2)), (1100, .arr 3 0 0 (.ints v6))]⟩) (fun x e σ' => match x with | (.inl (v14, v15)) => e = .exit 2 ∧ σ' = ⟨[(1, .ptr 1 0), (3, .sl 12 0), (4, .int .i64 v1), (5, .ptr 5 0), (6, .sl 1100 0)], [(1, .box [.int .i64 a0, .list (.ints a1)]), (5, .box [.int .i64 v14, .int .i64 v15]), (12, .arr 54 0 0 (.rats v2)), (1100, .arr 3 0 0 (.ints v6))]⟩ | (.inr r) => e = .ret ∧ q_spec_PotentialOf r σ') hk13 rfl rfl ?_ ?_
        · intro s x hs
          clear h
          have h := hs
          clear hs
          obtain ⟨v7, v8, v9⟩ := s
          refine Tri.run 1 [] [.keep [1, 3, 4, 5, 6, 7, 35] [1, 5, 12, 1100]] (K' := [.code [(2, 0), (1, 0), (0, 0), (1, 0), (0, 0), (2, 0), (1, 0), (0, 0), (0, 0)] 1, .code [(2, 0), (1, 0), (0, 0), (1, 0), (0, 0), (2, 0), (1, 0), (0, 0)] 1]) (σ' := ⟨[(1, .ptr 1 0), (3, .sl 12 0), (4, .int .i64 v1), (5, .ptr 5 0), (6, .sl 1100 0), (7, .int .i64 v7), (35, .bool (decide (v7 < (v6.length : Int))))], [(1, .box [.int .i64 a0, .list (.ints a1)]), (5, .box [.int .i64 v8, .int .i64 v9]), (12, .arr 54 0 0 (.rats v2)), (1100, .arr 3 0 0 (.ints v6))]⟩) rfl trivial rfl ?_
          rcases bif_some h with ⟨hd7, h⟩ | ⟨hd7, h⟩
          · obtain ⟨hg8, h⟩ := grd_some h
            obtain ⟨v10, hk9, h⟩ := bind_some h
            obtain ⟨hg10, h⟩ := grd_some h
            obtain ⟨⟨v11, v12, v13⟩, hk11, h⟩ := bind_some h
            refine Tri.run 3 [.g true, .r ⟨[], .int .i64 v10, []⟩, .r ⟨[], .tuple [.agg [.int .i64 v11, .int .i64 v12], .bool v13], []⟩] [.keep [1, 3, 4, 5, 6, 7, 8, 54] [1, 5, 8, 12, 1100]] (K' := [.code [(2, 0), (1, 0), (0, 0), (1, 0), (0, 0), (2, 0), (1, 0), (0, 0), (1, 0), (0, 0), (1, 0)] 1, .code [(2, 0), (1, 0), (0, 0), (1, 0), (0, 0), (2, 0), (1, 0), (0, 0), (1, 0), (0, 0)] 2, .blk 3, .code [(2, 0), (1, 0), (0, 0), (1, 0), (0, 0), (2, 0), (1, 0), (0, 0)] 2]) (σ' := ⟨[(1, .ptr 1 0), (3, .sl 12 0), (4, .int .i64 v1), (5, .ptr 5 0), (6, .sl 1100 0), (7, .int .i64 v7), (8, .ptr 8 0), (54, .bool (!v13))], [(1, .box [.int .i64 a0, .list (.ints a1)]), (5, .box [.int .i64 v8, .int .i64 v9]), (8, .box [.int .i64 v11, .int .i64 v12]), (12, .arr 54 0 0 (.rats v2)), (1100, .arr 3 0 0 (.ints v6))]⟩) rfl ⟨(fun _ => (w_spec_AddRat v8 v9 ((v2.getD ((IntKind.i64.wrap (v1 - v10)).toNat) ⟨0, 0⟩).num) ((v2.getD ((IntKind.i64.wrap (v1 - v10)).toNat) ⟨0, 0⟩).den) (v11, v12, v13) hk11)), hg10, (fun _ => (w_spec_l2Bit (v6.getD v7.toNat 0) v10 hk9)), hg8, hd7, trivial⟩ rfl ?_
            rcases bif_some h with ⟨hd12, h⟩ | ⟨hd12, h⟩
            · refine Tri.run 2 [.g true] [.swap 55 1000, .keep [2] [1000]] (K' := [.code [(2, 0), (1, 0), (0, 0), (1, 0), (0, 0), (2, 0), (1, 0), (0, 0), (1, 0), (0, 0), (1, 0), (1, 0)] 1, .code [(2, 0), (1, 0), (0, 0), (1, 0), (0, 0), (2, 0), (1, 0), (0, 0), (1, 0), (0, 0)] 2, .blk 3, .code [(2, 0), (1, 0), (0, 0), (1, 0), (0, 0), (2, 0), (1, 0), (0, 0)] 2]) (σ' := ⟨[(2, .sl 1000 0)], [(1000, .arr 54 0 0 (.rats []))]⟩) rfl ⟨hd12, trivial⟩ rfl ?_
              have h := Option.some.inj h
              subst h
              exact Tri.ret rfl ⟨nofun, rfl, rfl, rfl⟩
            · refine Tri.run 3 [.g false] [.keep [1, 3, 4, 5, 6, 7] [1, 5, 12, 1100]] (K' := []) (σ' := ⟨[(1, .ptr 1 0), (3, .sl 12 0), (4, .int .i64 v1), (5, .ptr 5 0), (6, .sl 1100 0), (7, .int .i64 (IntKind.i64.wrap (v7 + (1 : Int))))], [(1, .box [.int .i64 a0, .list (.ints a1)]), (5, .box [.int .i64 v11, .int .i64 v12]), (12, .arr 54 0 0 (.rats v2)), (1100, .arr 3 0 0 (.ints v6))]⟩) rfl ⟨hd12, trivial⟩ rfl ?_
              have h := Option.some.inj h
              subst h
              exact Tri.nil ⟨rfl, rfl⟩
          · refine Tri.run 1 [.g false] [.keep [1, 3, 4, 5, 6] [1, 5, 12, 1100]] (K' := [.code [(2, 0), (1, 0), (0, 0), (1, 0), (0, 0), (2, 0), (1, 0), (0, 0), (0, 0), (1, 1)] 0, .code [(2, 0), (1, 0), (0, 0), (1, 0), (0, 0), (2, 0), (1, 0), (0, 0)] 1]) (σ' := ⟨[(1, .ptr 1 0), (3, .sl 12 0), (4, .int .i64 v1), (5, .ptr 5 0), (6, .sl 1100 0)], [(1, .box [.int .i64 a0, .list (.ints a1)]), (5, .box [.int .i64 v8, .int .i64 v9]), (12, .arr 54 0 0 (.rats v2)), (1100, .arr 3 0 0 (.ints v6))]⟩) rfl ⟨hd7, trivial⟩ rfl ?_
            have h := Option.some.inj h
            subst h
            exact Tri.out 2 rfl ⟨nofun, rfl, rfl⟩
        · intro e σ' hne hq
          rcases x2 with ⟨v14, v15⟩ | r
          · obtain ⟨rfl, rfl⟩ := hq
            refine TriX.exit (K' := [.code [(2, 0), (1, 0), (0, 0), (1, 0), (0, 0)] 3, .blk 1, .code [(2, 0), (1, 0), (0, 0)] 2]) rfl ?_
            obtain ⟨v16, hk14, h⟩ := bind_some h
            obtain ⟨⟨v17, v18⟩, hk15, h⟩ := bind_some h
            obtain ⟨⟨v19, v20, v21⟩, hk16, h⟩ := bind_some h
            refine Tri.run 2 [.r ⟨[], .int .i64 v16, []⟩, .r ⟨[], .agg [.int .i64 v17, .int .i64 v18], []⟩, .r ⟨[], .tuple [.agg [.int .i64 v19, .int .i64 v20], .bool v21], []⟩] [.keep [1, 3, 4, 10, 67] [1, 10, 12]] (K' := [.code [(2, 0), (1, 0), (0, 0), (1, 0), (0, 0), (4, 0)] 1, .code [(2, 0), (1, 0), (0, 0), (1, 0), (0, 0)] 5, .blk 1, .code [(2, 0), (1, 0), (0, 0)] 2]) (σ' := ⟨[(1, .ptr 1 0), (3, .sl 12 0), (4, .int .i64 v1), (10, .ptr 10 0), (67, .bool (!v21))], [(1, .box [.int .i64 a0, .list (.ints a1)]), (10, .box [.int .i64 v19, .int .i64 v20]), (12, .arr 54 0 0 (.rats v2))]⟩) rfl ⟨(fun _ => (w_spec_DivRat v14 v15 v17 v18 (v19, v20, v21) hk16)), (fun _ => (w_spec_l3Int v16 (v17, v18) hk15)), (fun _ => (w_spec_l1Max (1 : Int) (v6.length : Int) v16 hk14)), trivial⟩ rfl ?_
            rcases bif_some h with ⟨hd17, h⟩ | ⟨hd17, h⟩
            · refine Tri.run 2 [.g true] [.swap 68 1000, .keep [2] [1000]] (K' := [.code [(2, 0), (1, 0), (0, 0), (1, 0), (0, 0), (4, 0), (1, 0)] 1, .code [(2, 0), (1, 0), (0, 0), (1, 0), (0, 0)] 5, .blk 1, .code [(2, 0), (1, 0), (0, 0)] 2]) (σ' := ⟨[(2, .sl 1000 0)], [(1000, .arr 54 0 0 (.rats []))]⟩) rfl ⟨hd17, trivial⟩ rfl ?_
              have h := Option.some.inj h
              subst h
              exact Tri.ret rfl ⟨nofun, rfl, rfl, rfl⟩
            · obtain ⟨hg18, h⟩ := grd_some h
              refine Tri.run 3 [.g false] [.rever 12, .keep [1, 3, 4] [1, 12]] (K' := []) (σ' := ⟨[(1, .ptr 1 0), (3, .sl 12 0), (4, .int .i64 (IntKind.i64.wrap (v1 + (1 : Int))))], [(1, .box [.int .i64 a0, .list (.ints a1)]), (12, .arr 54 0 0 (.rats (v2 ++ [⟨v19, v20⟩])))]⟩) rfl ⟨hg18, hd17, trivial⟩ rfl ?_
              have h := Option.some.inj h
              subst h
              exact Tri.nil ⟨rfl, rfl⟩
          · obtain ⟨rfl, hq⟩ := hq
            have h := Option.some.inj h
            subst h
            exact TriX.ret ⟨nofun, rfl, hq⟩
      · refine Tri.run 1 [.g false] [.keep [3] [12]] (K' := [.code [(2, 0), (1, 0), (0, 0), (0, 0), (1, 1)] 0, .code [(2, 0), (1, 0), (0, 0)] 1]) (σ' := ⟨[(3, .sl 12 0)], [(12, .arr 54 0 0 (.rats v2))]⟩) rfl ⟨hd3, trivial⟩ rfl ?_
        have h := Option.some.inj h
        subst h
        exact Tri.out 0 rfl ⟨nofun, rfl, rfl⟩
    · refine Tri.run 1 [.g false] [.keep [1, 3, 4, 21] [1, 12]] (K' := [.code [(2, 0), (1, 0), (0, 0), (0, 0)] 1, .code [(2, 0), (1, 0), (0, 0)] 1]) (σ' := ⟨[(1, .ptr 1 0), (3, .sl 12 0), (4, .int .i64 v1), (21, .bool false)], [(1, .box [.int .i64 a0, .list (.ints a1)]), (12, .arr 54 0 0 (.rats v2))]⟩) rfl ⟨hd1, trivial⟩ rfl ?_
      refine Tri.run 1 [.g false] [.keep [3] [12]] (K' := [.code [(2, 0), (1, 0), (0, 0), (0, 0), (1, 1)] 0, .code [(2, 0), (1, 0), (0, 0)] 1]) (σ' := ⟨[(3, .sl 12 0)], [(12, .arr 54 0 0 (.rats v2))]⟩) rfl ⟨rfl, trivial⟩ rfl ?_
      have h := Option.some.inj h
      subst h
      exact Tri.out 0 rfl ⟨nofun, rfl, rfl⟩
  · intro e σ' hne hq
    rcases x2 with v22 | r
    · obtain ⟨rfl, rfl⟩ := hq
      refine TriX.exit (K' := [.code [] 3]) rfl ?_
      refine Tri.run 1 [] [.swap 12 1000, .keep [2] [1000]] (K' := [.code [] 4]) (σ' := ⟨[(2, .sl 1000 0)], [(1000, .arr 54 0 0 (.rats v22))]⟩) rfl trivial rfl ?_
      have h := Option.some.inj h
      subst h
      exact Tri.ret rfl ⟨.inl rfl, rfl, rfl⟩
    · obtain ⟨rfl, hq⟩ := hq
      have h := Option.some.inj h
      subst h
      exact TriX.ret ⟨.inl rfl, hq⟩
/-! spec.EqualVector -/
noncomputable def E50_spec_EqualVector : Env := ⟨Try.prog, tys, (Try.f50.body).getD .skip, 26, tysOk, mixedOk⟩
abbrev q_spec_EqualVector (r : Bool) (σ' : ASt) : Prop := resAV E50_spec_EqualVector.T σ' Try.f50.results.toList = some (.bool r) ∧ keepO σ'.ob (namesO []) = []
noncomputable def l_spec_EqualVector_0 (a0 : List Q) (a1 : List Q) (v1 : Int) : Option (Int ⊕ (Unit ⊕ Bool)) :=
bif decide (v1 < (a0.length : Int)) then
(grd ((0 : Int) ≤ v1 ∧ v1 < (a0.length : Int)) <|
grd ((0 : Int) ≤ v1 ∧ v1 < (a1.length : Int)) <|
bif !(((a0.getD v1.toNat ⟨0, 0⟩).num) == ((a1.getD v1.toNat ⟨0, 0⟩).num) && ((a0.getD v1.toNat ⟨0, 0⟩).den) == ((a1.getD v1.toNat ⟨0, 0⟩).den)) then
(some (.inr (.inr false)))
else
(some (.inl (IntKind.i64.wrap (v1 + (1 : Int))))))
else
(some (.inr (.inl ())))
noncomputable def m_spec_EqualVector (a0 : List Q) (a1 : List Q) : Option Bool :=
bif (a0.length : Int) != (a1.length : Int) then
(some false)
else
((iter (l_spec_EqualVector_0 a0 a1) (0 : Int)).bind fun
| (.inl _) => (
some true)
| (.inr r) => some r)
theorem w_spec_EqualVector (a0 : List Q) (a1 : List Q) (r : Bool) (h : m_spec_EqualVector a0 a1 = some r) : AM.Spec Try.prog 50 [.list (.rats a0), .list (.rats a1)] [] (.bool r) [] := by
  refine spec_of (E := E50_spec_EqualVector) Try.func50 rfl rfl rfl rfl ?_
  refine Tri.run 2 [] [.keep [0, 1, 10] []] (K' := [.code [(1, 0)] 1, .code [] 2]) (σ' := ⟨[(0, .list (.rats a0)), (1, .list (.rats a1)), (10, .bool ((a0.length : Int) != (a1.length : Int)))], []⟩) rfl trivial rfl ?_
  rcases bif_some h with ⟨hd1, h⟩ | ⟨hd1, h⟩
  · refine Tri.run 2 [.g true] [.keep [4] []] (K' := [.code [(1, 0), (1, 0)] 1, .code [] 2]) (σ' := ⟨[(4, .bool false)], []⟩) rfl ⟨hd1, trivial⟩ rfl ?_
    have h := Option.some.inj h
    subst h
    exact Tri.ret rfl ⟨.inl rfl, rfl, rfl⟩
  · refine Tri.run 2 [.g false] [.keep [0, 1, 5] []] (K' := [.code [(2, 0), (1, 0)] 0, .blk 0, .code [] 3]) (σ' := ⟨[(0, .list (.rats a0)), (1, .list (.rats a1)), (5, .int .i64 (0 : Int))], []⟩) rfl ⟨hd1, trivial⟩ rfl ?_
    obtain ⟨x1, hk6, h⟩ := bind_some h
    refine Tri.loop (K1 := [.code [(2, 0), (1, 0), (0, 0)] 0]) (K2 := [.blk 0, .code [] 3]) (fun v1 => ⟨[(0, .list (.rats a0)), (1, .list (.rats a1)), (5, .int .i64 v1)], []⟩) (fun x e σ' => match x with | (.inl _) => e = .exit 0 ∧ σ' = ⟨[], []⟩ | (.inr r) => e = .ret ∧ q_spec_EqualVector r σ') hk6 rfl rfl ?_ ?_
    · intro v1 x hs
      clear h
      have h := hs
      clear hs
      refine Tri.run 1 [] [.keep [0, 1, 5, 14] []] (K' := [.code [(2, 0), (1, 0), (0, 0), (0, 0)] 1, .code [(2, 0), (1, 0), (0, 0)] 1]) (σ' := ⟨[(0, .list (.rats a0)), (1, .list (.rats a1)), (5, .int .i64 v1), (14, .bool (decide (v1 < (a0.length : Int))))], []⟩) rfl trivial rfl ?_
      rcases bif_some h with ⟨hd2, h⟩ | ⟨hd2, h⟩
      · obtain ⟨hg3, h⟩ := grd_some h
        obtain ⟨hg4, h⟩ := grd_some h
        refine Tri.run 2 [.g true] [.keep [0, 1, 5, 25] []] (K' := [.code [(2, 0), (1, 0), (0, 0), (1, 0), (0, 0)] 1, .blk 1, .code [(2, 0), (1, 0), (0, 0)] 2]) (σ' := ⟨[(0, .list (.rats a0)), (1, .list (.rats a1)), (5, .int .i64 v1), (25, .bool (!(((a0.getD v1.toNat ⟨0, 0⟩).num) == ((a1.getD v1.toNat ⟨0, 0⟩).num) && ((a0.getD v1.toNat ⟨0, 0⟩).den) == ((a1.getD v1.toNat ⟨0, 0⟩).den))))], []⟩) rfl ⟨hg4, hg3, hd2, trivial⟩ rfl ?_
        rcases bif_some h with ⟨hd5, h⟩ | ⟨hd5, h⟩
        · refine Tri.run 2 [.g true] [.keep [4] []] (K' := [.code [(2, 0), (1, 0), (0, 0), (1, 0), (0, 0), (1, 0)] 1, .blk 1, .code [(2, 0), (1, 0), (0, 0)] 2]) (σ' := ⟨[(4, .bool false)], []⟩) rfl ⟨hd5, trivial⟩ rfl ?_
          have h := Option.some.inj h
          subst h
          exact Tri.ret rfl ⟨nofun, rfl, rfl, rfl⟩
        · refine Tri.run 2 [.g false] [.keep [0, 1, 5] []] (K' := []) (σ' := ⟨[(0, .list (.rats a0)), (1, .list (.rats a1)), (5, .int .i64 (IntKind.i64.wrap (v1 + (1 : Int))))], []⟩) rfl ⟨hd5, trivial⟩ rfl ?_
          have h := Option.some.inj h
          subst h
          exact Tri.nil ⟨rfl, rfl⟩
      · refine Tri.run 1 [.g false] [.keep [] []] (K' := [.code [(2, 0), (1, 0), (0, 0), (0, 0), (1, 1)] 0, .code [(2, 0), (1, 0), (0, 0)] 1]) (σ' := ⟨[], []⟩) rfl ⟨hd2, trivial⟩ rfl ?_
        have h := Option.some.inj h
        subst h
        exact Tri.out 0 rfl ⟨nofun, rfl, rfl⟩
    · intro e σ' hne hq
      rcases x1 with _ | r
      · obtain ⟨rfl, rfl⟩ := hq
        refine TriX.exit (K' := [.code [] 3]) rfl ?_
        refine Tri.run 1 [] [.keep [4] []] (K' := [.code [] 4]) (σ' := ⟨[(4, .bool true)], []⟩) rfl trivial rfl ?_
        have h := Option.some.inj h
        subst h
        exact Tri.ret rfl ⟨.inl rfl, rfl, rfl⟩
      · obtain ⟨rfl, hq⟩ := hq
        have h := Option.some.inj h
        subst h
        exact TriX.ret ⟨.inl rfl, hq⟩
/-! spec.l14Factorial -/
noncomputable def E87_spec_l14Factorial : Env := ⟨Try.prog, tys, (Try.f87.body).getD .skip, 14, tysOk, mixedOk⟩
abbrev q_spec_l14Factorial (r : Int) (σ' : ASt) : Prop := resAV E87_spec_l14Factorial.T σ' Try.f87.results.toList = some (.int .i64 r) ∧ keepO σ'.ob (namesO []) = []
noncomputable def l_spec_l14Factorial_0 (a0 : Int) : (Int × Int) → Option ((Int × Int) ⊕ Int)
  | (v1, v2) => (
bif decide (v2 ≤ a0) then
(some (.inl (IntKind.i64.wrap (v1 * v2), IntKind.i64.wrap (v2 + (1 : Int)))))
else
(some (.inr v1)))
noncomputable def m_spec_l14Factorial (a0 : Int) : Option Int :=
(iter (l_spec_l14Factorial_0 a0) ((1 : Int), (2 : Int))).bind fun
| v3 => (
some v3)
theorem w_spec_l14Factorial (a0 : Int) (r : Int) (h : m_spec_l14Factorial a0 = some r) : AM.Spec Try.prog 87 [.int .i64 a0] [] (.int .i64 r) [] := by
  refine spec_of (E := E87_spec_l14Factorial) Try.func87 rfl rfl rfl rfl ?_
  refine Tri.run 3 [] [.keep [0, 3, 4] []] (K' := [.code [(2, 0), (1, 0)] 0, .blk 0, .code [] 3]) (σ' := ⟨[(0, .int .i64 a0), (3, .int .i64 (1 : Int)), (4, .int .i64 (2 : Int))], []⟩) rfl trivial rfl ?_
  obtain ⟨v3, hk2, h⟩ := bind_some h
  refine Tri.loop (K1 := [.code [(2, 0), (1, 0), (0, 0)] 0]) (K2 := [.blk 0, .code [] 3]) (fun (v1, v2) => ⟨[(0, .int .i64 a0), (3, .int .i64 v1), (4, .int .i64 v2)], []⟩) (fun x e σ' => match x with | v3 => e = .exit 0 ∧ σ' = ⟨[(3, .int .i64 v3)], []⟩) hk2 rfl rfl ?_ ?_
  · intro s x hs
    clear h
    have h := hs
    clear hs
    obtain ⟨v1, v2⟩ := s
    refine Tri.run 1 [] [.keep [0, 3, 4, 7] []] (K' := [.code [(2, 0), (1, 0), (0, 0), (0, 0)] 1, .code [(2, 0), (1, 0), (0, 0)] 1]) (σ' := ⟨[(0, .int .i64 a0), (3, .int .i64 v1), (4, .int .i64 v2), (7, .bool (decide (v2 ≤ a0)))], []⟩) rfl trivial rfl ?_
    rcases bif_some h with ⟨hd1, h⟩ | ⟨hd1, h⟩
    · refine Tri.run 3 [.g true] [.keep [0, 3, 4] []] (K' := []) (σ' := ⟨[(0, .int .i64 a0), (3, .int .i64 (IntKind.i64.wrap (v1 * v2))), (4, .int .i64 (IntKind.i64.wrap (v2 + (1 : Int))))], []⟩) rfl ⟨hd1, trivial⟩ rfl ?_
      have h := Option.some.inj h
      subst h
      exact Tri.nil ⟨rfl, rfl⟩
    · refine Tri.run 1 [.g false] [.keep [3] []] (K' := [.code [(2, 0), (1, 0), (0, 0), (0, 0), (1, 1)] 0, .code [(2, 0), (1, 0), (0, 0)] 1]) (σ' := ⟨[(3, .int .i64 v1)], []⟩) rfl ⟨hd1, trivial⟩ rfl ?_
      have h := Option.some.inj h
      subst h
      exact Tri.out 0 rfl ⟨nofun, rfl, rfl⟩
  · intro e σ' hne hq
    obtain ⟨rfl, rfl⟩ := hq
    refine TriX.exit (K' := [.code [] 3]) rfl ?_
    refine Tri.run 1 [] [.keep [2] []] (K' := [.code [] 4]) (σ' := ⟨[(2, .int .i64 v3)], []⟩) rfl trivial rfl ?_
    have h := Option.some.inj h
    subst h
    exact Tri.ret rfl ⟨.inl rfl, rfl, rfl⟩
/-! spec.ShapleyValue -/
noncomputable def E43_spec_ShapleyValue : Env := ⟨Try.prog, tys, (Try.f43.body).getD .skip, 73, tysOk, mixedOk⟩
abbrev q_spec_ShapleyValue (r : Bool × (List Q)) (σ' : ASt) : Prop := resAV E43_spec_ShapleyValue.T σ' Try.f43.results.toList = some (.tuple [.sl 1000 0, .bool r.1]) ∧ keepO σ'.ob (namesO [(1000, .arr 54 0 0 (.rats r.2))]) = [(1000, .arr 54 0 0 (.rats r.2))]
noncomputable def l_spec_ShapleyValue_1 (a0 : Int) (a1 : List Int) (v2 : Int) : (Int × Int) → Option ((Int × Int) ⊕ Int)
  | (v4, v5) => (
bif decide (v5 < (a1.length : Int)) then
((m_spec_HasPlayer v5 v2).bind fun v6 =>
bif v6 then
(some (.inl (v4, IntKind.i64.wrap (v5 + (1 : Int)))))
else
((m_spec_SizeOf v5).bind fun v7 =>
(m_spec_l14Factorial v7).bind fun v8 =>
(m_spec_l14Factorial (IntKind.i64.wrap ((IntKind.i64.wrap (a0 - v7)) - (1 : Int)))).bind fun v9 =>
(m_spec_l2Bit v2).bind fun v10 =>
grd ((0 : Int) ≤ IntKind.i64.wrap (v5 + v10) ∧ IntKind.i64.wrap (v5 + v10) < (a1.length : Int)) <|
grd ((0 : Int) ≤ v5 ∧ v5 < (a1.length : Int)) <|
some (.inl (IntKind.i64.wrap (v4 + (IntKind.i64.wrap ((IntKind.i64.wrap (v8 * v9)) * (IntKind.i64.wrap ((a1.getD ((IntKind.i64.wrap (v5 + v10)).toNat) 0) - (a1.getD v5.toNat 0)))))), IntKind.i64.wrap (v5 + (1 : Int))))))
else
(some (.inr v4)))
noncomputable def l_spec_ShapleyValue_0 (a0 : Int) (a1 : List Int) : (Int × (List Q)) → Option ((Int × (List Q)) ⊕ ((List Q)))
  | (v2, v3) => (
bif decide (v2 < a0) then
((iter (l_spec_ShapleyValue_1 a0 a1 v2) ((0 : Int), (0 : Int))).bind fun
| v11 => (
(m_spec_l14Factorial a0).bind fun v12 =>
(m_spec_RatOf v11 v12).bind fun (v13, v14, _) =>
grd (v3.length + ([⟨v13, v14⟩] : List Q).length ≤ room) <|
some (.inl (IntKind.i64.wrap (v2 + (1 : Int)), v3 ++ [⟨v13, v14⟩]))))
else
(some (.inr v3)))
noncomputable def m_spec_ShapleyValue (a0 : Int) (a1 : List Int) : Option (Bool × (List Q)) :=
(m_spec_IsValidGame a0 a1).bind fun v1 =>
bif !v1 then
(some (false, []))
else
((iter (l_spec_ShapleyValue_0 a0 a1) ((0 : Int), [])).bind fun
| v16 => (
some (true, v16)))
theorem w_spec_ShapleyValue (a0 : Int) (a1 : List Int) (r : Bool × (List Q)) (h : m_spec_ShapleyValue a0 a1 = some r) : AM.Spec Try.prog 43 [.agg [.int .i64 a0, .list (.ints a1)]] [] (.tuple [.sl 1000 0, .bool r.1]) [(1000, .arr 54 0 0 (.rats r.2))] := by
  refine spec_of (E := E43_spec_ShapleyValue) Try.func43 rfl rfl rfl rfl ?_
  refine Tri.run 2 [] [.keep [1, 4] [1, 12]] (K' := [.code [(2, 0), (0, 0)] 0, .code [(2, 0)] 1, .code [] 3]) (σ' := ⟨[(1, .ptr 1 0), (4, .sl 12 0)], [(1, .box [.int .i64 a0, .list (.ints a1)]), (12, .arr 54 0 0 (.rats []))]⟩) rfl trivial rfl ?_
  obtain ⟨v1, hk1, h⟩ := bind_some h
  refine Tri.run 1 [.r ⟨[], .bool v1, []⟩] [.keep [1, 4, 15] [1, 12]] (K' := [.code [(2, 0)] 1, .code [] 3]) (σ' := ⟨[(1, .ptr 1 0), (4, .sl 12 0), (15, .bool (!v1))], [(1, .box [.int .i64 a0, .list (.ints a1)]), (12, .arr 54 0 0 (.rats []))]⟩) rfl ⟨(fun _ => (w_spec_IsValidGame a0 a1 v1 hk1)), trivial⟩ rfl ?_
  rcases bif_some h with ⟨hd2, h⟩ | ⟨hd2, h⟩
  · refine Tri.run 2 [.g true] [.swap 12 1000, .keep [2, 3] [1000]] (K' := [.code [(2, 0), (1, 0)] 1, .code [] 3]) (σ' := ⟨[(2, .sl 1000 0), (3, .bool false)], [(1000, .arr 54 0 0 (.rats []))]⟩) rfl ⟨hd2, trivial⟩ rfl ?_
    have h := Option.some.inj h
    subst h
    exact Tri.ret rfl ⟨.inl rfl, rfl, rfl⟩
  · refine Tri.run 3 [.g false] [.keep [1, 4, 5, 6] [1, 12]] (K' := [.code [(4, 0), (1, 0)] 0, .blk 0, .code [] 5]) (σ' := ⟨[(1, .ptr 1 0), (4, .sl 12 0), (5, .int .i64 a0), (6, .int .i64 (0 : Int))], [(1, .box [.int .i64 a0, .list (.ints a1)]), (12, .arr 54 0 0 (.rats []))]⟩) rfl ⟨hd2, trivial⟩ rfl ?_
    obtain ⟨v16, hk17, h⟩ := bind_some h
    refine Tri.loop (K1 := [.code [(4, 0), (1, 0), (0, 0)] 0]) (K2 := [.blk 0, .code [] 5]) (fun (v2, v3) => ⟨[(1, .ptr 1 0), (4, .sl 12 0), (5, .int .i64 a0), (6, .int .i64 v2)], [(1, .box [.int .i64 a0, .list (.ints a1)]), (12, .arr 54 0 0 (.rats v3))]⟩) (fun x e σ' => match x with | v16 => e = .exit 0 ∧ σ' = ⟨[(4, .sl 12 0)], [(12, .arr 54 0 0 (.rats v16))]⟩) hk17 rfl rfl ?_ ?_
    · intro s x hs
      clear h
      have h := hs
      clear hs
      obtain ⟨v2, v3⟩ := s
      refine Tri.run 1 [] [.keep [1, 4, 5, 6, 21] [1, 12]] (K' := [.code [(4, 0), (1, 0), (0, 0), (0, 0)] 1, .code [(4, 0), (1, 0), (0, 0)] 1]) (σ' := ⟨[(1, .ptr 1 0), (4, .sl 12 0), (5, .int .i64 a0), (6, .int .i64 v2), (21, .bool (decide (v2 < a0)))], [(1, .box [.int .i64 a0, .list (.ints a1)]), (12, .arr 54 0 0 (.rats v3))]⟩) rfl trivial rfl ?_
      rcases bif_some h with ⟨hd3, h⟩ | ⟨hd3, h⟩
      · refine Tri.run 3 [.g true] [.keep [1, 4, 5, 6, 7, 8] [1, 12]] (K' := [.code [(4, 0), (1, 0), (0, 0), (1, 0), (0, 0), (1, 0), (1, 0)] 0, .blk 2, .code [(4, 0), (1, 0), (0, 0), (1, 0), (0, 0)] 2, .blk 1, .code [(4, 0), (1, 0), (0, 0)] 2]) (σ' := ⟨[(1, .ptr 1 0), (4, .sl 12 0), (5, .int .i64 a0), (6, .int .i64 v2), (7, .int .i64 (0 : Int)), (8, .int .i64 (0 : Int))], [(1, .box [.int .i64 a0, .list (.ints a1)]), (12, .arr 54 0 0 (.rats v3))]⟩) rfl ⟨hd3, trivial⟩ rfl ?_
        obtain ⟨v11, hk13, h⟩ := bind_some h
        refine Tri.loop (K1 := [.code [(4, 0), (1, 0), (0, 0), (1, 0), (0, 0), (1, 0), (1, 0), (0, 0)] 0]) (K2 := [.blk 2, .code [(4, 0), (1, 0), (0, 0), (1, 0), (0, 0)] 2, .blk 1, .code [(4, 0), (1, 0), (0, 0)] 2]) (fun (v4, v5) => ⟨[(1, .ptr 1 0), (4, .sl 12 0), (5, .int .i64 a0), (6, .int .i64 v2), (7, .int .i64 v4), (8, .int .i64 v5)], [(1, .box [.int .i64 a0, .list (.ints a1)]), (12, .arr 54 0 0 (.rats v3))]⟩) (fun x e σ' => match x with | v11 => e = .exit 2 ∧ σ' = ⟨[(1, .ptr 1 0), (4, .sl 12 0), (5, .int .i64 a0), (6, .int .i64 v2), (7, .int .i64 v11)], [(1, .box [.int .i64 a0, .list (.ints a1)]), (12, .arr 54 0 0 (.rats v3))]⟩) hk13 rfl rfl ?_ ?_
        · intro s x hs
          clear h
          have h := hs
          clear hs
          obtain ⟨v4, v5⟩ := s
          refine Tri.run 1 [] [.keep [1, 4, 5, 6, 7, 8, 28] [1, 12]] (K' := [.code [(4, 0), (1, 0), (0, 0), (1, 0), (0, 0), (1, 0), (1, 0), (0, 0), (0, 0)] 1, .code [(4, 0), (1, 0), (0, 0), (1, 0), (0, 0), (1, 0), (1, 0), (0, 0)] 1]) (σ' := ⟨[(1, .ptr 1 0), (4, .sl 12 0), (5, .int .i64 a0), (6, .int .i64 v2), (7, .int .i64 v4), (8, .int .i64 v5), (28, .bool (decide (v5 < (a1.length : Int))))], [(1, .box [.int .i64 a0, .list (.ints a1)]), (12, .arr 54 0 0 (.rats v3))]⟩) rfl trivial rfl ?_
          rcases bif_some h with ⟨hd4, h⟩ | ⟨hd4, h⟩
          · obtain ⟨v6, hk5, h⟩ := bind_some h
            refine Tri.run 2 [.g true, .r ⟨[], .bool v6, []⟩] [.keep [1, 4, 5, 6, 7, 8, 33] [1, 12]] (K' := [.code [(4, 0), (1, 0), (0, 0), (1, 0), (0, 0), (1, 0), (1, 0), (0, 0), (1, 0), (0, 0), (0, 0)] 1, .code [(4, 0), (1, 0), (0, 0), (1, 0), (0, 0), (1, 0), (1, 0), (0, 0), (1, 0), (0, 0)] 1, .blk 3, .code [(4, 0), (1, 0), (0, 0), (1, 0), (0, 0), (1, 0), (1, 0), (0, 0)] 2]) (σ' := ⟨[(1, .ptr 1 0), (4, .sl 12 0), (5, .int .i64 a0), (6, .int .i64 v2), (7, .int .i64 v4), (8, .int .i64 v5), (33, .bool v6)], [(1, .box [.int .i64 a0, .list (.ints a1)]), (12, .arr 54 0 0 (.rats v3))]⟩) rfl ⟨(fun _ => (w_spec_HasPlayer v5 v2 v6 hk5)), hd4, trivial⟩ rfl ?_
            rcases bif_some h with ⟨hd6, h⟩ | ⟨hd6, h⟩
            · refine Tri.run 2 [.g true] [.keep [1, 4, 5, 6, 7, 8] [1, 12]] (K' := []) (σ' := ⟨[(1, .ptr 1 0), (4, .sl 12 0), (5, .int .i64 a0), (6, .int .i64 v2), (7, .int .i64 v4), (8, .int .i64 (IntKind.i64.wrap (v5 + (1 : Int))))], [(1, .box [.int .i64 a0, .list (.ints a1)]), (12, .arr 54 0 0 (.rats v3))]⟩) rfl ⟨hd6, trivial⟩ rfl ?_
              have h := Option.some.inj h
              subst h
              exact Tri.nil ⟨rfl, rfl⟩
            · obtain ⟨v7, hk7, h⟩ := bind_some h
              refine Tri.run 2 [.g false, .r ⟨[], .int .i64 v7, []⟩] [.keep [1, 4, 5, 6, 7, 8, 9] [1, 12]] (K' := [.code [(4, 0), (1, 0), (0, 0), (1, 0), (0, 0), (1, 0), (1, 0), (0, 0), (1, 0), (0, 0)] 2, .blk 3, .code [(4, 0), (1, 0), (0, 0), (1, 0), (0, 0), (1, 0), (1, 0), (0, 0)] 2]) (σ' := ⟨[(1, .ptr 1 0), (4, .sl 12 0), (5, .int .i64 a0), (6, .int .i64 v2), (7, .int .i64 v4), (8, .int .i64 v5), (9, .int .i64 v7)], [(1, .box [.int .i64 a0, .list (.ints a1)]), (12, .arr 54 0 0 (.rats v3))]⟩) rfl ⟨(fun _ => (w_spec_SizeOf v5 v7 hk7)), hd6, trivial⟩ rfl ?_
              obtain ⟨v8, hk8, h⟩ := bind_some h
              obtain ⟨v9, hk9, h⟩ := bind_some h
              obtain ⟨v10, hk10, h⟩ := bind_some h
              obtain ⟨hg11, h⟩ := grd_some h
              obtain ⟨hg12, h⟩ := grd_some h
              refine Tri.run 2 [.r ⟨[], .int .i64 v8, []⟩, .r ⟨[], .int .i64 v9, []⟩, .r ⟨[], .int .i64 v10, []⟩] [.keep [1, 4, 5, 6, 7, 8] [1, 12]] (K' := []) (σ' := ⟨[(1, .ptr 1 0), (4, .sl 12 0), (5, .int .i64 a0), (6, .int .i64 v2), (7, .int .i64 (IntKind.i64.wrap (v4 + (IntKind.i64.wrap ((IntKind.i64.wrap (v8 * v9)) * (IntKind.i64.wrap ((a1.getD ((IntKind.i64.wrap (v5 + v10)).toNat) 0) - (a1.getD v5.toNat 0)))))))), (8, .int .i64 (IntKind.i64.wrap (v5 + (1 : Int))))], [(1, .box [.int .i64 a0, .list (.ints a1)]), (12, .arr 54 0 0 (.rats v3))]⟩) rfl ⟨hg12, hg11, (fun _ => (w_spec_l2Bit v2 v10 hk10)), (fun _ => (w_spec_l14Factorial (IntKind.i64.wrap ((IntKind.i64.wrap (a0 - v7)) - (1 : Int))) v9 hk9)), (fun _ => (w_spec_l14Factorial v7 v8 hk8)), trivial⟩ rfl ?_
              have h := Option.some.inj h
              subst h
              exact Tri.nil ⟨rfl, rfl⟩
          · refine Tri.run 1 [.g false] [.keep [1, 4, 5, 6, 7] [1, 12]] (K' := [.code [(4, 0), (1, 0), (0, 0), (1, 0), (0, 0), (1, 0), (1, 0), (0, 0), (0, 0), (1, 1)] 0, .code [(4, 0), (1, 0), (0, 0), (1, 0), (0, 0), (1, 0), (1, 0), (0, 0)] 1]) (σ' := ⟨[(1, .ptr 1 0), (4, .sl 12 0), (5, .int .i64 a0), (6, .int .i64 v2), (7, .int .i64 v4)], [(1, .box [.int .i64 a0, .list (.ints a1)]), (12, .arr 54 0 0 (.rats v3))]⟩) rfl ⟨hd4, trivial⟩ rfl ?_
            have h := Option.some.inj h
            subst h
            exact Tri.out 2 rfl ⟨nofun, rfl, rfl⟩
        · intro e σ' hne hq
          obtain ⟨rfl, rfl⟩ := hq
          refine TriX.exit (K' := [.code [(4, 0), (1, 0), (0, 0), (1, 0), (0, 0)] 2, .blk 1, .code [(4, 0), (1, 0), (0, 0)] 2]) rfl ?_
          obtain ⟨v12, hk14, h⟩ := bind_some h
          obtain ⟨⟨v13, v14, v15⟩, hk15, h⟩ := bind_some h
          obtain ⟨hg16, h⟩ := grd_some h
          refine Tri.run 3 [.r ⟨[], .int .i64 v12, []⟩, .r ⟨[], .tuple [.agg [.int .i64 v13, .int .i64 v14], .bool v15], []⟩] [.rever 12, .keep [1, 4, 5, 6] [1, 12]] (K' := []) (σ' := ⟨[(1, .ptr 1 0), (4, .sl 12 0), (5, .int .i64 a0), (6, .int .i64 (IntKind.i64.wrap (v2 + (1 : Int))))], [(1, .box [.int .i64 a0, .list (.ints a1)]), (12, .arr 54 0 0 (.rats (v3 ++ [⟨v13, v14⟩])))]⟩) rfl ⟨hg16, (fun _ => (w_spec_RatOf v11 v12 (v13, v14, v15) hk15)), (fun _ => (w_spec_l14Factorial a0 v12 hk14)), trivial⟩ rfl ?_
          have h := Option.some.inj h
          subst h
          exact Tri.nil ⟨rfl, rfl⟩
      · refine Tri.run 1 [.g false] [.keep [4] [12]] (K' := [.code [(4, 0), (1, 0), (0, 0), (0, 0), (1, 1)] 0, .code [(4, 0), (1, 0), (0, 0)] 1]) (σ' := ⟨[(4, .sl 12 0)], [(12, .arr 54 0 0 (.rats v3))]⟩) rfl ⟨hd3, trivial⟩ rfl ?_
        have h := Option.some.inj h
        subst h
        exact Tri.out 0 rfl ⟨nofun, rfl, rfl⟩
    · intro e σ' hne hq
      obtain ⟨rfl, rfl⟩ := hq
      refine TriX.exit (K' := [.code [] 5]) rfl ?_
      refine Tri.run 1 [] [.swap 12 1000, .keep [2, 3] [1000]] (K' := [.code [] 6]) (σ' := ⟨[(2, .sl 1000 0), (3, .bool true)], [(1000, .arr 54 0 0 (.rats v16))]⟩) rfl trivial rfl ?_
      have h := Option.some.inj h
      subst h
      exact Tri.ret rfl ⟨.inl rfl, rfl, rfl⟩
/-! impl.SubRat -/
noncomputable def E52_impl_SubRat : Env := ⟨Try.prog, tys, (Try.f52.body).getD .skip, 34, tysOk, mixedOk⟩
abbrev q_impl_SubRat (r : Int × Int × Bool) (σ' : ASt) : Prop := resAV E52_impl_SubRat.T σ' Try.f52.results.toList = some (.tuple [.agg [.int .i64 r.1, .int .i64 r.2.1], .bool r.2.2]) ∧ keepO σ'.ob (namesO []) = []
noncomputable def m_impl_SubRat (a0 : Int) (a1 : Int) (a2 : Int) (a3 : Int) : Option (Int × Int × Bool) :=
(m_impl_IsValidRat a0 a1).bind fun v1 =>
bif !v1 then
(some (0, 0, false))
else
((m_impl_IsValidRat a2 a3).bind fun v2 =>
bif !v2 then
(some (0, 0, false))
else
((m_impl_RatOf (IntKind.i64.wrap ((IntKind.i64.wrap (a0 * a3)) - (IntKind.i64.wrap (a2 * a1)))) (IntKind.i64.wrap (a1 * a3))).bind fun (v3, v4, v5) =>
some (v3, v4, v5)))
theorem w_impl_SubRat (a0 : Int) (a1 : Int) (a2 : Int) (a3 : Int) (r : Int × Int × Bool) (h : m_impl_SubRat a0 a1 a2 a3 = some r) : AM.Spec Try.prog 52 [.agg [.int .i64 a0, .int .i64 a1], .agg [.int .i64 a2, .int .i64 a3]] [] (.tuple [.agg [.int .i64 r.1, .int .i64 r.2.1], .bool r.2.2]) [] := by
  refine spec_of (E := E52_impl_SubRat) Try.func52 rfl rfl rfl rfl ?_
  refine Tri.run 1 [] [.keep [2, 3, 4] [2, 3, 4]] (K' := [.code [(1, 0), (0, 0)] 0, .code [(1, 0)] 1, .code [] 2]) (σ' := ⟨[(2, .ptr 2 0), (3, .ptr 3 0), (4, .ptr 4 0)], [(2, .box [.int .i64 a0, .int .i64 a1]), (3, .box [.int .i64 a2, .int .i64 a3]), (4, .box [.int .i64 0, .int .i64 0])]⟩) rfl trivial rfl ?_
  obtain ⟨v1, hk1, h⟩ := bind_some h
  rcases bif_some h with ⟨hd2, h⟩ | ⟨hd2, h⟩
  · refine Tri.run 1 [.r ⟨[], .bool v1, []⟩, .g true] [.keep [2, 3, 4, 13] [2, 3, 4]] (K' := [.code [(1, 0)] 1, .code [] 2]) (σ' := ⟨[(2, .ptr 2 0), (3, .ptr 3 0), (4, .ptr 4 0), (13, .bool true)], [(2, .box [.int .i64 a0, .int .i64 a1]), (3, .box [.int .i64 a2, .int .i64 a3]), (4, .box [.int .i64 0, .int .i64 0])]⟩) rfl ⟨hd2, (fun _ => (w_impl_IsValidRat a0 a1 v1 hk1)), trivial⟩ rfl ?_
    refine Tri.run 2 [.g true] [.keep [4, 5] [4]] (K' := [.code [(1, 0), (1, 0)] 1, .code [] 2]) (σ' := ⟨[(4, .ptr 4 0), (5, .bool false)], [(4, .box [.int .i64 0, .int .i64 0])]⟩) rfl ⟨rfl, trivial⟩ rfl ?_
    have h := Option.some.inj h
    subst h
    exact Tri.ret rfl ⟨.inl rfl, rfl, rfl⟩
  · obtain ⟨v2, hk3, h⟩ := bind_some h
    refine Tri.run 1 [.r ⟨[], .bool v1, []⟩, .g false, .r ⟨[], .bool v2, []⟩] [.keep [2, 3, 4, 13] [2, 3, 4]] (K' := [.code [(1, 0)] 1, .code [] 2]) (σ' := ⟨[(2, .ptr 2 0), (3, .ptr 3 0), (4, .ptr 4 0), (13, .bool (!v2))], [(2, .box [.int .i64 a0, .int .i64 a1]), (3, .box [.int .i64 a2, .int .i64 a3]), (4, .box [.int .i64 0, .int .i64 0])]⟩) rfl ⟨(fun _ => (w_impl_IsValidRat a2 a3 v2 hk3)), hd2, (fun _ => (w_impl_IsValidRat a0 a1 v1 hk1)), trivial⟩ rfl ?_
    rcases bif_some h with ⟨hd4, h⟩ | ⟨hd4, h⟩
    · refine Tri.run 2 [.g true] [.keep [4, 5] [4]] (K' := [.code [(1, 0), (1, 0)] 1, .code [] 2]) (σ' := ⟨[(4, .ptr 4 0), (5, .bool false)], [(4, .box [.int .i64 0, .int .i64 0])]⟩) rfl ⟨hd4, trivial⟩ rfl ?_
      have h := Option.some.inj h
      subst h
      exact Tri.ret rfl ⟨.inl rfl, rfl, rfl⟩
    · obtain ⟨⟨v3, v4, v5⟩, hk5, h⟩ := bind_some h
      refine Tri.run 2 [.g false, .r ⟨[], .tuple [.agg [.int .i64 v3, .int .i64 v4], .bool v5], []⟩] [.keep [4, 5] [4]] (K' := [.code [] 3]) (σ' := ⟨[(4, .ptr 4 0), (5, .bool v5)], [(4, .box [.int .i64 v3, .int .i64 v4])]⟩) rfl ⟨(fun _ => (w_impl_RatOf (IntKind.i64.wrap ((IntKind.i64.wrap (a0 * a3)) - (IntKind.i64.wrap (a2 * a1)))) (IntKind.i64.wrap (a1 * a3)) (v3, v4, v5) hk5)), hd4, trivial⟩ rfl ?_
      have h := Option.some.inj h
      subst h
      exact Tri.ret rfl ⟨.inl rfl, rfl, rfl⟩
/-! laws.FnPotential -/
noncomputable def E6_laws_FnPotential : Env := ⟨Try.prog, tys, (Try.f6.body).getD .skip, 77, tysOk, mixedOk⟩
abbrev q_laws_FnPotential (r : Bool) (σ' : ASt) : Prop := resAV E6_laws_FnPotential.T σ' Try.f6.results.toList = some (.bool r) ∧ keepO σ'.ob (namesO []) = []
noncomputable def l_laws_FnPotential_0 (v3 : List Int) (v4 : List Q) (v7 : Bool) (v8 : List Q) (v9 : Int) : Option (Int ⊕ (Unit ⊕ Bool)) :=
bif decide (v9 < (v8.length : Int)) then
(bif v7 then
(bif (v4.length : Int) == (v3.length : Int) then
(grd ((0 : Int) ≤ IntKind.i64.wrap ((v4.length : Int) - (1 : Int)) ∧ IntKind.i64.wrap ((v4.length : Int) - (1 : Int)) < (v4.length : Int)) <|
(m_spec_CountCoalitions v9).bind fun v10 =>
grd ((0 : Int) ≤ IntKind.i64.wrap ((IntKind.i64.wrap ((v4.length : Int) - (1 : Int))) - v10) ∧ IntKind.i64.wrap ((IntKind.i64.wrap ((v4.length : Int) - (1 : Int))) - v10) < (v4.length : Int)) <|
(m_impl_SubRat ((v4.getD ((IntKind.i64.wrap ((v4.length : Int) - (1 : Int))).toNat) ⟨0, 0⟩).num) ((v4.getD ((IntKind.i64.wrap ((v4.length : Int) - (1 : Int))).toNat) ⟨0, 0⟩).den) ((v4.getD ((IntKind.i64.wrap ((IntKind.i64.wrap ((v4.length : Int) - (1 : Int))) - v10)).toNat) ⟨0, 0⟩).num) ((v4.getD ((IntKind.i64.wrap ((IntKind.i64.wrap ((v4.length : Int) - (1 : Int))) - v10)).toNat) ⟨0, 0⟩).den)).bind fun (v11, v12, v13) =>
bif !v13 then
(some (.inr (.inr false)))
else
(grd ((0 : Int) ≤ v9 ∧ v9 < (v8.length : Int)) <|
bif !(v11 == ((v8.getD v9.toNat ⟨0, 0⟩).num) && v12 == ((v8.getD v9.toNat ⟨0, 0⟩).den)) then
(some (.inr (.inr false)))
else
(some (.inl (IntKind.i64.wrap (v9 + (1 : Int)))))))
else
(some (.inr (.inl ()))))
else
(some (.inr (.inl ()))))
else
(some (.inr (.inl ())))
noncomputable def m_laws_FnPotential (a0 : List UInt8) : Option Bool :=
(m_laws_big a0).bind fun v1 =>
bif v1 then
(some true)
else
((m_spec_DrawPotentialOf a0).bind fun (v2, v3) =>
(m_impl_PotentialOf v2 v3).bind fun v4 =>
(m_spec_PotentialOf v2 v3).bind fun v5 =>
(m_spec_EqualVector v4 v5).bind fun v6 =>
bif !v6 then
(some false)
else
((m_spec_ShapleyValue v2 v3).bind fun (v7, v8) =>
(iter (l_laws_FnPotential_0 v3 v4 v7 v8) (0 : Int)).bind fun
| (.inl _) => (
some (v7 == (decide ((v4.length : Int) > (0 : Int)))))
| (.inr r) => some r))
theorem w_laws_FnPotential (a0 : List UInt8) (r : Bool) (h : m_laws_FnPotential a0 = some r) : AM.Spec Try.prog 6 [.list (.bytes a0)] [] (.bool r) [] := by
  refine spec_of (E := E6_laws_FnPotential) Try.func6 rfl rfl rfl rfl ?_
  refine Tri.run 1 [] [.keep [0] []] (K' := [.code [(1, 0), (0, 0)] 0, .code [(1, 0)] 1, .code [] 2]) (σ' := ⟨[(0, .list (.bytes a0))], []⟩) rfl trivial rfl ?_
  obtain ⟨v1, hk1, h⟩ := bind_some h
  refine Tri.run 1 [.r ⟨[], .bool v1, []⟩] [.keep [0, 11] []] (K' := [.code [(1, 0)] 1, .code [] 2]) (σ' := ⟨[(0, .list (.bytes a0)), (11, .bool v1)], []⟩) rfl ⟨(fun _ => (w_laws_big a0 v1 hk1)), trivial⟩ rfl ?_
  rcases bif_some h with ⟨hd2, h⟩ | ⟨hd2, h⟩
  · refine Tri.run 2 [.g true] [.keep [2] []] (K' := [.code [(1, 0), (1, 0)] 1, .code [] 2]) (σ' := ⟨[(2, .bool true)], []⟩) rfl ⟨hd2, trivial⟩ rfl ?_
    have h := Option.some.inj h
    subst h
    exact Tri.ret rfl ⟨.inl rfl, rfl, rfl⟩
  · obtain ⟨⟨v2, v3⟩, hk3, h⟩ := bind_some h
    refine Tri.run 2 [.g false, .r ⟨[], .agg [.int .i64 v2, .sl 1100 0], [(1100, .arr 3 0 0 (.ints v3))]⟩] [.keep [3] [3, 1100]] (K' := [.code [(3, 0)] 0, .code [] 4]) (σ' := ⟨[(3, .ptr 3 0)], [(3, .box [.int .i64 v2, .sl 1100 0]), (1100, .arr 3 0 0 (.ints v3))]⟩) rfl ⟨(fun _ => ((w_spec_DrawPotentialOf a0 (v2, v3) hk3).swap 1000 1100)), hd2, trivial⟩ rfl ?_
    obtain ⟨v4, hk4, h⟩ := bind_some h
    obtain ⟨v5, hk5, h⟩ := bind_some h
    obtain ⟨v6, hk6, h⟩ := bind_some h
    refine Tri.run 2 [.r ⟨[], .sl 1101 0, [(1101, .arr 54 0 0 (.rats v4))]⟩, .r ⟨[], .sl 1102 0, [(1102, .arr 54 0 0 (.rats v5))]⟩, .r ⟨[], .bool v6, []⟩] [.keep [3, 4, 20] [3, 1100, 1101]] (K' := [.code [(4, 0)] 1, .code [] 5]) (σ' := ⟨[(3, .ptr 3 0), (4, .sl 1101 0), (20, .bool (!v6))], [(3, .box [.int .i64 v2, .sl 1100 0]), (1100, .arr 3 0 0 (.ints v3)), (1101, .arr 54 0 0 (.rats v4))]⟩) rfl ⟨(fun _ => (w_spec_EqualVector v4 v5 v6 hk6)), (fun _ => ((w_spec_PotentialOf v2 v3 v5 hk5).swap 1000 1102)), (fun _ => ((w_impl_PotentialOf v2 v3 v4 hk4).swap 1000 1101)), trivial⟩ rfl ?_
    rcases bif_some h with ⟨hd7, h⟩ | ⟨hd7, h⟩
    · refine Tri.run 2 [.g true] [.keep [2] []] (K' := [.code [(4, 0), (1, 0)] 1, .code [] 5]) (σ' := ⟨[(2, .bool false)], []⟩) rfl ⟨hd7, trivial⟩ rfl ?_
      have h := Option.some.inj h
      subst h
      exact Tri.ret rfl ⟨.inl rfl, rfl, rfl⟩
    · obtain ⟨⟨v7, v8⟩, hk8, h⟩ := bind_some h
      refine Tri.run 3 [.g false, .r ⟨[], .tuple [.sl 1103 0, .bool v7], [(1103, .arr 54 0 0 (.rats v8))]⟩] [.keep [3, 4, 5, 6, 7] [3, 1100, 1101, 1103]] (K' := [.code [(6, 0), (1, 0)] 0, .blk 0, .code [] 7]) (σ' := ⟨[(3, .ptr 3 0), (4, .sl 1101 0), (5, .sl 1103 0), (6, .bool v7), (7, .int .i64 (0 : Int))], [(3, .box [.int .i64 v2, .sl 1100 0]), (1100, .arr 3 0 0 (.ints v3)), (1101, .arr 54 0 0 (.rats v4)), (1103, .arr 54 0 0 (.rats v8))]⟩) rfl ⟨(fun _ => ((w_spec_ShapleyValue v2 v3 (v7, v8) hk8).swap 1000 1103)), hd7, trivial⟩ rfl ?_
      obtain ⟨x1, hk19, h⟩ := bind_some h
      refine Tri.loop (K1 := [.code [(6, 0), (1, 0), (0, 0)] 0]) (K2 := [.blk 0, .code [] 7]) (fun v9 => ⟨[(3, .ptr 3 0), (4, .sl 1101 0), (5, .sl 1103 0), (6, .bool v7), (7, .int .i64 v9)], [(3, .box [.int .i64 v2, .sl 1100 0]), (1100, .arr 3 0 0 (.ints v3)), (1101, .arr 54 0 0 (.rats v4)), (1103, .arr 54 0 0 (.rats v8))]⟩) (fun x e σ' => match x with | (.inl _) => e = .exit 0 ∧ σ' = ⟨[(4, .sl 1101 0), (6, .bool v7)], [(1101, .arr 54 0 0 (.rats v4))]⟩ | (.inr r) => e = .ret ∧ q_laws_FnPotential r σ') hk19 rfl rfl ?_ ?_
      · intro v9 x hs
        clear h
        have h := hs
        clear hs
        rcases bif_some h with ⟨hd9, h⟩ | ⟨hd9, h⟩
        · rcases bif_some h with ⟨hd10, h⟩ | ⟨hd10, h⟩
          · refine Tri.run 1 [.g true, .g true] [.keep [3, 4, 5, 6, 7, 40] [3, 1100, 1101, 1103]] (K' := [.code [(6, 0), (1, 0), (0, 0), (0, 0)] 1, .code [(6, 0), (1, 0), (0, 0)] 1]) (σ' := ⟨[(3, .ptr 3 0), (4, .sl 1101 0), (5, .sl 1103 0), (6, .bool v7), (7, .int .i64 v9), (40, .bool ((v4.length : Int) == (v3.length : Int)))], [(3, .box [.int .i64 v2, .sl 1100 0]), (1100, .arr 3 0 0 (.ints v3)), (1101, .arr 54 0 0 (.rats v4)), (1103, .arr 54 0 0 (.rats v8))]⟩) rfl ⟨hd10, hd9, trivial⟩ rfl ?_
            rcases bif_some h with ⟨hd11, h⟩ | ⟨hd11, h⟩
            · obtain ⟨hg12, h⟩ := grd_some h
              obtain ⟨v10, hk13, h⟩ := bind_some h
              obtain ⟨hg14, h⟩ := grd_some h
              obtain ⟨⟨v11, v12, v13⟩, hk15, h⟩ := bind_some h
              refine Tri.run 2 [.g true, .r ⟨[], .int .i64 v10, []⟩, .r ⟨[], .tuple [.agg [.int .i64 v11, .int .i64 v12], .bool v13], []⟩] [.keep [3, 4, 5, 6, 7, 8, 9] [3, 8, 1100, 1101, 1103]] (K' := [.code [(6, 0), (1, 0), (0, 0), (1, 0), (0, 0), (1, 0)] 0, .code [(6, 0), (1, 0), (0, 0), (1, 0), (0, 0)] 2, .blk 1, .code [(6, 0), (1, 0), (0, 0)] 2]) (σ' := ⟨[(3, .ptr 3 0), (4, .sl 1101 0), (5, .sl 1103 0), (6, .bool v7), (7, .int .i64 v9), (8, .ptr 8 0), (9, .bool v13)], [(3, .box [.int .i64 v2, .sl 1100 0]), (8, .box [.int .i64 v11, .int .i64 v12]), (1100, .arr 3 0 0 (.ints v3)), (1101, .arr 54 0 0 (.rats v4)), (1103, .arr 54 0 0 (.rats v8))]⟩) rfl ⟨(fun _ => (w_impl_SubRat ((v4.getD ((IntKind.i64.wrap ((v4.length : Int) - (1 : Int))).toNat) ⟨0, 0⟩).num) ((v4.getD ((IntKind.i64.wrap ((v4.length : Int) - (1 : Int))).toNat) ⟨0, 0⟩).den) ((v4.getD ((IntKind.i64.wrap ((IntKind.i64.wrap ((v4.length : Int) - (1 : Int))) - v10)).toNat) ⟨0, 0⟩).num) ((v4.getD ((IntKind.i64.wrap ((IntKind.i64.wrap ((v4.length : Int) - (1 : Int))) - v10)).toNat) ⟨0, 0⟩).den) (v11, v12, v13) hk15)), hg14, (fun _ => (w_spec_CountCoalitions v9 v10 hk13)), hg12, hd11, trivial⟩ rfl ?_
              rcases bif_some h with ⟨hd16, h⟩ | ⟨hd16, h⟩
              · refine Tri.run 1 [.g true] [.keep [3, 4, 5, 6, 7, 71] [3, 1100, 1101, 1103]] (K' := [.code [(6, 0), (1, 0), (0, 0), (1, 0), (0, 0)] 2, .blk 1, .code [(6, 0), (1, 0), (0, 0)] 2]) (σ' := ⟨[(3, .ptr 3 0), (4, .sl 1101 0), (5, .sl 1103 0), (6, .bool v7), (7, .int .i64 v9), (71, .bool true)], [(3, .box [.int .i64 v2, .sl 1100 0]), (1100, .arr 3 0 0 (.ints v3)), (1101, .arr 54 0 0 (.rats v4)), (1103, .arr 54 0 0 (.rats v8))]⟩) rfl ⟨hd16, trivial⟩ rfl ?_
                refine Tri.run 2 [.g true] [.keep [2] []] (K' := [.code [(6, 0), (1, 0), (0, 0), (1, 0), (0, 0), (2, 0)] 1, .blk 1, .code [(6, 0), (1, 0), (0, 0)] 2]) (σ' := ⟨[(2, .bool false)], []⟩) rfl ⟨rfl, trivial⟩ rfl ?_
                have h := Option.some.inj h
                subst h
                exact Tri.ret rfl ⟨nofun, rfl, rfl, rfl⟩
              · obtain ⟨hg17, h⟩ := grd_some h
                refine Tri.run 1 [.g false] [.keep [3, 4, 5, 6, 7, 71] [3, 1100, 1101, 1103]] (K' := [.code [(6, 0), (1, 0), (0, 0), (1, 0), (0, 0)] 2, .blk 1, .code [(6, 0), (1, 0), (0, 0)] 2]) (σ' := ⟨[(3, .ptr 3 0), (4, .sl 1101 0), (5, .sl 1103 0), (6, .bool v7), (7, .int .i64 v9), (71, .bool (!(v11 == ((v8.getD v9.toNat ⟨0, 0⟩).num) && v12 == ((v8.getD v9.toNat ⟨0, 0⟩).den))))], [(3, .box [.int .i64 v2, .sl 1100 0]), (1100, .arr 3 0 0 (.ints v3)), (1101, .arr 54 0 0 (.rats v4)), (1103, .arr 54 0 0 (.rats v8))]⟩) rfl ⟨hg17, hd16, trivial⟩ rfl ?_
                rcases bif_some h with ⟨hd18, h⟩ | ⟨hd18, h⟩
                · refine Tri.run 2 [.g true] [.keep [2] []] (K' := [.code [(6, 0), (1, 0), (0, 0), (1, 0), (0, 0), (2, 0)] 1, .blk 1, .code [(6, 0), (1, 0), (0, 0)] 2]) (σ' := ⟨[(2, .bool false)], []⟩) rfl ⟨hd18, trivial⟩ rfl ?_
                  have h := Option.some.inj h
                  subst h
                  exact Tri.ret rfl ⟨nofun, rfl, rfl, rfl⟩
                · refine Tri.run 2 [.g false] [.keep [3, 4, 5, 6, 7] [3, 1100, 1101, 1103]] (K' := []) (σ' := ⟨[(3, .ptr 3 0), (4, .sl 1101 0), (5, .sl 1103 0), (6, .bool v7), (7, .int .i64 (IntKind.i64.wrap (v9 + (1 : Int))))], [(3, .box [.int .i64 v2, .sl 1100 0]), (1100, .arr 3 0 0 (.ints v3)), (1101, .arr 54 0 0 (.rats v4)), (1103, .arr 54 0 0 (.rats v8))]⟩) rfl ⟨hd18, trivial⟩ rfl ?_
                  have h := Option.some.inj h
                  subst h
                  exact Tri.nil ⟨rfl, rfl⟩
            · refine Tri.run 1 [.g false] [.keep [4, 6] [1101]] (K' := [.code [(6, 0), (1, 0), (0, 0), (0, 0), (1, 1)] 0, .code [(6, 0), (1, 0), (0, 0)] 1]) (σ' := ⟨[(4, .sl 1101 0), (6, .bool v7)], [(1101, .arr 54 0 0 (.rats v4))]⟩) rfl ⟨hd11, trivial⟩ rfl ?_
              have h := Option.some.inj h
              subst h
              exact Tri.out 0 rfl ⟨nofun, rfl, rfl⟩
          · refine Tri.run 1 [.g true, .g false] [.keep [3, 4, 5, 6, 7, 40] [3, 1100, 1101, 1103]] (K' := [.code [(6, 0), (1, 0), (0, 0), (0, 0)] 1, .code [(6, 0), (1, 0), (0, 0)] 1]) (σ' := ⟨[(3, .ptr 3 0), (4, .sl 1101 0), (5, .sl 1103 0), (6, .bool v7), (7, .int .i64 v9), (40, .bool false)], [(3, .box [.int .i64 v2, .sl 1100 0]), (1100, .arr 3 0 0 (.ints v3)), (1101, .arr 54 0 0 (.rats v4)), (1103, .arr 54 0 0 (.rats v8))]⟩) rfl ⟨hd10, hd9, trivial⟩ rfl ?_
            refine Tri.run 1 [.g false] [.keep [4, 6] [1101]] (K' := [.code [(6, 0), (1, 0), (0, 0), (0, 0), (1, 1)] 0, .code [(6, 0), (1, 0), (0, 0)] 1]) (σ' := ⟨[(4, .sl 1101 0), (6, .bool v7)], [(1101, .arr 54 0 0 (.rats v4))]⟩) rfl ⟨rfl, trivial⟩ rfl ?_
            have h := Option.some.inj h
            subst h
            exact Tri.out 0 rfl ⟨nofun, rfl, rfl⟩
        · refine Tri.run 1 [.g false, .g false] [.keep [3, 4, 5, 6, 7, 40] [3, 1100, 1101, 1103]] (K' := [.code [(6, 0), (1, 0), (0, 0), (0, 0)] 1, .code [(6, 0), (1, 0), (0, 0)] 1]) (σ' := ⟨[(3, .ptr 3 0), (4, .sl 1101 0), (5, .sl 1103 0), (6, .bool v7), (7, .int .i64 v9), (40, .bool false)], [(3, .box [.int .i64 v2, .sl 1100 0]), (1100, .arr 3 0 0 (.ints v3)), (1101, .arr 54 0 0 (.rats v4)), (1103, .arr 54 0 0 (.rats v8))]⟩) rfl ⟨rfl, hd9, trivial⟩ rfl ?_
          refine Tri.run 1 [.g false] [.keep [4, 6] [1101]] (K' := [.code [(6, 0), (1, 0), (0, 0), (0, 0), (1, 1)] 0, .code [(6, 0), (1, 0), (0, 0)] 1]) (σ' := ⟨[(4, .sl 1101 0), (6, .bool v7)], [(1101, .arr 54 0 0 (.rats v4))]⟩) rfl ⟨rfl, trivial⟩ rfl ?_
          have h := Option.some.inj h
          subst h
          exact Tri.out 0 rfl ⟨nofun, rfl, rfl⟩
      · intro e σ' hne hq
        rcases x1 with _ | r
        · obtain ⟨rfl, rfl⟩ := hq
          refine TriX.exit (K' := [.code [] 7]) rfl ?_
          refine Tri.run 1 [] [.keep [2] []] (K' := [.code [] 8]) (σ' := ⟨[(2, .bool (v7 == (decide ((v4.length : Int) > (0 : Int)))))], []⟩) rfl trivial rfl ?_
          have h := Option.some.inj h
          subst h
          exact Tri.ret rfl ⟨.inl rfl, rfl, rfl⟩
        · obtain ⟨rfl, hq⟩ := hq
          have h := Option.some.inj h
          subst h
          exact TriX.ret ⟨.inl rfl, hq⟩
end Go.Proofs.Ytmlfjoppaciknaa
