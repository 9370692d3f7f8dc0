/- models and walks -/
import Derived.Test.YtdaoggmpohnjhaaDoorProg
import Derived.Test.YtdaoggmpohnjhaaDoorAmB
import Derived.Test.YtdaoggmpohnjhaaDoorAmI
namespace Go.Proofs.YtdaoggmpohnjhaaDoor
open Go.AM Go.Shelf Go.Proofs
set_option maxRecDepth 100000
set_option maxHeartbeats 4000000
noncomputable def tys : TEnv := [(3,.int .i64),
 (4,.bool),
 (5,.int .u8),
 (9,.str),
 (22,.slice 3 (.ints [])),
 (27,.struct [(0,3),(1,22)] [.i 0,.nil (.ints [])] false),
 (35,.slice 5 (.bytes [])),
 (44,.slice 9 (.strs [])),
 (70,.struct [(0,35),(1,3),(2,3)] [.nil (.bytes []),.i 0,.i 0] false)]
theorem tysOk : TOk Tryd.prog tys := tok_of (by kernel_rfl)
theorem mixedOk : Tryd.prog.follows .mixedOrders = true := by kernel_rfl
noncomputable def E116 : Env := ⟨Tryd.prog,tys,(Tryd.f15.body).getD .skip,6,tysOk,mixedOk⟩
abbrev K58 (r : Bool) (σ' : ASt) : Prop := isRes E116.T Tryd.f15 (.bool r) [] σ'
noncomputable def m_laws_big (a0 : List UInt8) : Option Bool :=
some (decide ((a0.length : Int) > 1048576))
theorem W0 (a0 : List UInt8) (r : Bool) (h : m_laws_big a0 = some r) : AM.Spec Tryd.prog 15 [.list (.bytes a0)] [] (.bool r) [] := by
 refine spec_of (E := E116) Tryd.func15 rfl rfl rfl rfl ?_
 refine Tri.f 2 [] [.keep [2] []] rfl trivial ?_
 cases h
 exact Tri.ret rfl ⟨.inl rfl,rfl,rfl⟩
noncomputable def E117 : Env := ⟨Tryd.prog,tys,(Tryd.f40.body).getD .skip,32,tysOk,mixedOk⟩
abbrev K59 (r : (List UInt8) × Int × Int) (σ' : ASt) : Prop := isRes E117.T Tryd.f40 (.ptr 1000 0) [(1000,.box [.list (.bytes r.1),.i r.2.1,.i r.2.2])] σ'
noncomputable def l_spec_l1New_0 (a0 : List UInt8) : (Int × Int) → Option ((Int × Int) ⊕ Int)
 | (v1,v2) => (
bif decide (v2 < (a0.length : Int)) then
(bif decide (v2 < 4000) then
(grd (0 ≤ v2 ∧ v2 < (a0.length : Int)) <|
some (.inl (bitsOf .and .i64 (IntKind.i64.wrap ((IntKind.i64.wrap ((IntKind.i64.wrap (v1 * 131)) + (IntKind.i64.wrap (((a0.getD v2.toNat 0).toNat : Int))))) + 7)) (1073741823 : Int),IntKind.i64.wrap (v2 + 1))))
else
(some (.inr v1)))
else
(some (.inr v1)))
noncomputable def m_spec_l1New (a0 : List UInt8) : Option ((List UInt8) × Int × Int) :=
(iter (l_spec_l1New_0 a0) (IntKind.i64.wrap ((26583 : Int) + (a0.length : Int)),(0 : Int))).bind fun
| v3 => (
some (a0,0,v3))
theorem W1 (a0 : List UInt8) (r : (List UInt8) × Int × Int) (h : m_spec_l1New a0 = some r) : AM.Spec Tryd.prog 40 [.list (.bytes a0)] [] (.ptr 1000 0) [(1000,.box [.list (.bytes r.1),.i r.2.1,.i r.2.2])] := by
 refine spec_of (E := E117) Tryd.func40 rfl rfl rfl rfl ?_
 refine Tri.f 3 [] [.keep [0,3,4] []] rfl trivial ?_
 obtain ⟨v3,hk4,h⟩ := bind_some h
 refine Tri.loop (K1 := [.code [(2,0),(1,0),(0,0)] 0]) (K2 := [.blk 0,.code [] 3]) (fun (v1,v2) => ⟨[(0,.list (.bytes a0)),(3,.i v1),(4,.i v2)],[]⟩) (fun x e σ' => match x with | v3 => e = .exit 0 ∧ σ' = ⟨[(0,.list (.bytes a0)),(3,.i v3)],[]⟩) hk4 rfl rfl ?_ ?_
 ·intro s x hs
  clear h
  have h := hs
  clear hs
  obtain ⟨v1,v2⟩ := s
  rcases bif_some h with ⟨hd1,h⟩ | ⟨hd1,h⟩
  ·refine Tri.f 1 [.g true] [.keep [0,3,4,15] []] rfl ⟨hd1,trivial⟩ ?_
   rcases bif_some h with ⟨hd2,h⟩ | ⟨hd2,h⟩
   ·obtain ⟨hg3,h⟩ := grd_some h
    refine Tri.f 3 [.g true] [.keep [0,3,4] []] rfl ⟨hg3,hd2,trivial⟩ ?_
    cases h
    exact Tri.nil ⟨rfl,rfl⟩
   ·refine Tri.f 1 [.g false] [.keep [0,3] []] rfl ⟨hd2,trivial⟩ ?_
    cases h
    exact Tri.out 0 rfl ⟨nofun,rfl,rfl⟩
  ·refine Tri.f 1 [.g false] [.keep [0,3,4,15] []] rfl ⟨hd1,trivial⟩ ?_
   refine Tri.f 1 [.g false] [.keep [0,3] []] rfl ⟨rfl,trivial⟩ ?_
   cases h
   exact Tri.out 0 rfl ⟨nofun,rfl,rfl⟩
 ·intro e σ' hne hq
  obtain ⟨rfl,rfl⟩ := hq
  refine TriX.exit (K' := [.code [] 3]) rfl ?_
  refine Tri.f 1 [] [.swap 31 1000,.keep [2] [1000]] rfl trivial ?_
  cases h
  exact Tri.ret rfl ⟨.inl rfl,rfl,rfl⟩
abbrev K60 (r : (List UInt8) × Int × Int × (List Int) × Int) (σ' : ASt) : Prop := isRes E117.T Tryd.f40 (.ptr 1000 0) [(1000,.box [.list (.bytes r.1),.i r.2.1,.i r.2.2.1]),(1001,.arr 3 0 0 (.ints r.2.2.2.1)),(2000,.box [.i r.2.2.2.2,.sl 1001 0])] σ'
noncomputable def l_spec_l1New_io2_0 (a2 : List UInt8) : (Int × Int) → Option ((Int × Int) ⊕ Int)
 | (v1,v2) => (
bif decide (v2 < (a2.length : Int)) then
(bif decide (v2 < 4000) then
(grd (0 ≤ v2 ∧ v2 < (a2.length : Int)) <|
some (.inl (bitsOf .and .i64 (IntKind.i64.wrap ((IntKind.i64.wrap ((IntKind.i64.wrap (v1 * 131)) + (IntKind.i64.wrap (((a2.getD v2.toNat 0).toNat : Int))))) + 7)) (1073741823 : Int),IntKind.i64.wrap (v2 + 1))))
else
(some (.inr v1)))
else
(some (.inr v1)))
noncomputable def m_spec_l1New_io2 (a0 : Int) (a1 : List Int) (a2 : List UInt8) : Option ((List UInt8) × Int × Int × (List Int) × Int) :=
(iter (l_spec_l1New_io2_0 a2) (IntKind.i64.wrap ((26583 : Int) + (a2.length : Int)),(0 : Int))).bind fun
| v3 => (
some (a2,0,v3,a1,a0))
theorem W2 (a0 : Int) (a1 : List Int) (a2 : List UInt8) (r : (List UInt8) × Int × Int × (List Int) × Int) (h : m_spec_l1New_io2 a0 a1 a2 = some r) : AM.Spec Tryd.prog 40 [.list (.bytes a2)] [(2000,.box [.i a0,.sl 2001 0]),(2001,.arr 3 0 0 (.ints a1))] (.ptr 1000 0) [(1000,.box [.list (.bytes r.1),.i r.2.1,.i r.2.2.1]),(1001,.arr 3 0 0 (.ints r.2.2.2.1)),(2000,.box [.i r.2.2.2.2,.sl 1001 0])] := by
 refine spec_of (E := E117) Tryd.func40 rfl rfl rfl rfl ?_
 refine Tri.f 3 [] [.swap 2001 1100,.keep [0,3,4] [1100,2000]] rfl trivial ?_
 obtain ⟨v3,hk4,h⟩ := bind_some h
 refine Tri.loop (K1 := [.code [(2,0),(1,0),(0,0)] 0]) (K2 := [.blk 0,.code [] 3]) (fun (v1,v2) => ⟨[(0,.list (.bytes a2)),(3,.i v1),(4,.i v2)],[(1100,.arr 3 0 0 (.ints a1)),(2000,.box [.i a0,.sl 1100 0])]⟩) (fun x e σ' => match x with | v3 => e = .exit 0 ∧ σ' = ⟨[(0,.list (.bytes a2)),(3,.i v3)],[(1100,.arr 3 0 0 (.ints a1)),(2000,.box [.i a0,.sl 1100 0])]⟩) hk4 rfl rfl ?_ ?_
 ·intro s x hs
  clear h
  have h := hs
  clear hs
  obtain ⟨v1,v2⟩ := s
  rcases bif_some h with ⟨hd1,h⟩ | ⟨hd1,h⟩
  ·refine Tri.f 1 [.g true] [.keep [0,3,4,15] [1100,2000]] rfl ⟨hd1,trivial⟩ ?_
   rcases bif_some h with ⟨hd2,h⟩ | ⟨hd2,h⟩
   ·obtain ⟨hg3,h⟩ := grd_some h
    refine Tri.f 3 [.g true] [.keep [0,3,4] [1100,2000]] rfl ⟨hg3,hd2,trivial⟩ ?_
    cases h
    exact Tri.nil ⟨rfl,rfl⟩
   ·refine Tri.f 1 [.g false] [.keep [0,3] [1100,2000]] rfl ⟨hd2,trivial⟩ ?_
    cases h
    exact Tri.out 0 rfl ⟨nofun,rfl,rfl⟩
  ·refine Tri.f 1 [.g false] [.keep [0,3,4,15] [1100,2000]] rfl ⟨hd1,trivial⟩ ?_
   refine Tri.f 1 [.g false] [.keep [0,3] [1100,2000]] rfl ⟨rfl,trivial⟩ ?_
   cases h
   exact Tri.out 0 rfl ⟨nofun,rfl,rfl⟩
 ·intro e σ' hne hq
  obtain ⟨rfl,rfl⟩ := hq
  refine TriX.exit (K' := [.code [] 3]) rfl ?_
  refine Tri.f 1 [] [.swap 31 1000,.swap 1100 1001,.keep [2] [1000,1001,2000]] rfl trivial ?_
  cases h
  exact Tri.ret rfl ⟨.inl rfl,rfl,rfl⟩
noncomputable def E118 : Env := ⟨Tryd.prog,tys,(Tryd.f72.body).getD .skip,58,tysOk,mixedOk⟩
abbrev K61 (u0 : Value) (a0 : List UInt8) (r : Int × Int × Int) (σ' : ASt) : Prop := isRes E118.T Tryd.f72 (.i r.1) [(2080,.box [.lst u0 (.bytes a0),.i r.2.1,.i r.2.2])] σ'
noncomputable def m_spec_l1Byte_io1 (a0 : List UInt8) (a1 a2 : Int) : Option (Int × Int × Int) :=
grd ((0 : Int) ≤ (33 : Int)) <|
grd ((0 : Int) ≤ (45 : Int)) <|
((some (bitsOf .and .i64 (bitsOf .xor .i64 ((IntKind.i64.wrap ((IntKind.i64.wrap (a2 * 6364136223846793005)) + 1442695040888963407)).fdiv (2 ^ (min (33 : Int).toNat 64))) ((IntKind.i64.wrap ((IntKind.i64.wrap (a2 * 6364136223846793005)) + 1442695040888963407)).fdiv (2 ^ (min (45 : Int).toNat 64)))) (255 : Int) : Int)).bind fun v1 =>
bif decide (a1 < (a0.length : Int)) then
(grd (0 ≤ a1 ∧ a1 < (a0.length : Int)) <|
some (bitsOf .and .i64 (IntKind.i64.wrap (v1 + (IntKind.i64.wrap (((a0.getD a1.toNat 0).toNat : Int))))) (255 : Int),IntKind.i64.wrap (a1 + 1),IntKind.i64.wrap ((IntKind.i64.wrap (a2 * 6364136223846793005)) + 1442695040888963407)))
else
(some (v1,a1,IntKind.i64.wrap ((IntKind.i64.wrap (a2 * 6364136223846793005)) + 1442695040888963407))))
theorem W3 (u0 : Value) (a0 : List UInt8) (a1 a2 : Int) (r : Int × Int × Int) (h : m_spec_l1Byte_io1 a0 a1 a2 = some r) : AM.Spec Tryd.prog 72 [.ptr 2080 0] [(2080,.box [.lst u0 (.bytes a0),.i a1,.i a2])] (.i r.1) [(2080,.box [.lst u0 (.bytes a0),.i r.2.1,.i r.2.2])] := by
 refine spec_of (E := E118) Tryd.func72 rfl rfl rfl rfl ?_
 obtain ⟨hg1,h⟩ := grd_some h
 obtain ⟨hg2,h⟩ := grd_some h
 refine Tri.u 3 [] [.keep [0,3] [2080]] [.code [(3,0),(0,0)] 0,.code [(3,0)] 1,.code [] 4] ⟨[(0,.ptr 2080 0),(3,.i (bitsOf .and .i64 (bitsOf .xor .i64 ((IntKind.i64.wrap ((IntKind.i64.wrap (a2 * 6364136223846793005)) + 1442695040888963407)).fdiv (2 ^ (min (33 : Int).toNat 64))) ((IntKind.i64.wrap ((IntKind.i64.wrap (a2 * 6364136223846793005)) + 1442695040888963407)).fdiv (2 ^ (min (45 : Int).toNat 64)))) (255 : Int)))],[(2080,.box [.lst u0 (.bytes a0),.i a1,.i (IntKind.i64.wrap ((IntKind.i64.wrap (a2 * 6364136223846793005)) + 1442695040888963407))])]⟩ rfl ⟨hg2,hg1,trivial⟩ rfl ?_
 obtain ⟨v1,hk3,h⟩ := bind_some h
 have hk3 := Option.some.inj hk3
 rw [hk3]
 refine Tri.f 1 [] [.keep [0,3,34] [2080]] rfl trivial ?_
 rcases bif_some h with ⟨hd4,h⟩ | ⟨hd4,h⟩
 ·obtain ⟨hg5,h⟩ := grd_some h
  refine Tri.f 3 [.g true] [.keep [3] [2080]] rfl ⟨hg5,hd4,trivial⟩ ?_
  refine Tri.f 1 [] [.keep [2] [2080]] rfl trivial ?_
  cases h
  exact Tri.ret rfl ⟨.inl rfl,rfl,rfl⟩
 ·refine Tri.f 2 [.g false] [.keep [2] [2080]] rfl ⟨hd4,trivial⟩ ?_
  cases h
  exact Tri.ret rfl ⟨.inl rfl,rfl,rfl⟩
noncomputable def E119 : Env := ⟨Tryd.prog,tys,(Tryd.f59.body).getD .skip,37,tysOk,mixedOk⟩
abbrev K62 (u0 : Value) (a0 : List UInt8) (r : Int × Int × Int) (σ' : ASt) : Prop := isRes E119.T Tryd.f59 (.i r.1) [(2060,.box [.lst u0 (.bytes a0),.i r.2.1,.i r.2.2])] σ'
noncomputable def m_spec_l1Below_io1 (a0 : List UInt8) (a1 a2 a3 : Int) : Option (Int × Int × Int) :=
bif decide (a3 ≤ 0) then
(some ((0 : Int),a1,a2))
else
(bif decide (a3 ≤ 256) then
((m_spec_l1Byte_io1 a0 a1 a2).bind fun (v1,v2,v3) =>
grd (a3 ≠ 0) <|
some (v1.tmod a3,v2,v3))
else
((m_spec_l1Byte_io1 a0 a1 a2).bind fun (v4,v5,v6) =>
(m_spec_l1Byte_io1 a0 v5 v6).bind fun (v7,v8,v9) =>
(m_spec_l1Byte_io1 a0 v8 v9).bind fun (v10,v11,v12) =>
(m_spec_l1Byte_io1 a0 v11 v12).bind fun (v13,v14,v15) =>
grd (a3 ≠ 0) <|
some ((IntKind.i64.wrap ((IntKind.i64.wrap ((IntKind.i64.wrap ((IntKind.i64.wrap (v4 * 16777216)) + (IntKind.i64.wrap (v7 * 65536)))) + (IntKind.i64.wrap (v10 * 256)))) + v13)).tmod a3,v14,v15)))
theorem W4 (u0 : Value) (a0 : List UInt8) (a1 a2 a3 : Int) (r : Int × Int × Int) (h : m_spec_l1Below_io1 a0 a1 a2 a3 = some r) : AM.Spec Tryd.prog 59 [.ptr 2060 0,.i a3] [(2060,.box [.lst u0 (.bytes a0),.i a1,.i a2])] (.i r.1) [(2060,.box [.lst u0 (.bytes a0),.i r.2.1,.i r.2.2])] := by
 refine spec_of (E := E119) Tryd.func59 rfl rfl rfl rfl ?_
 refine Tri.f 2 [] [.keep [0,1,10] [2060]] rfl trivial ?_
 rcases bif_some h with ⟨hd1,h⟩ | ⟨hd1,h⟩
 ·refine Tri.f 2 [.g true] [.keep [4] [2060]] rfl ⟨hd1,trivial⟩ ?_
  cases h
  exact Tri.ret rfl ⟨.inl rfl,rfl,rfl⟩
 ·refine Tri.f 2 [.g false] [.keep [0,1,12] [2060]] rfl ⟨hd1,trivial⟩ ?_
  rcases bif_some h with ⟨hd2,h⟩ | ⟨hd2,h⟩
  ·obtain ⟨⟨v1,v2,v3⟩,hk3,h⟩ := bind_some h
   obtain ⟨hg4,h⟩ := grd_some h
   refine Tri.f 2 [.g true,.r ⟨[2060],.i v1,[(2060,.box [.undf,.i v2,.i v3])]⟩] [.keep [4] [2060]] rfl ⟨hg4,(fun vf => ((W3 (vf 2060 0) a0 a1 a2 (v1,v2,v3) hk3).swap 2080 2060)),hd2,trivial⟩ ?_
   cases h
   exact Tri.ret rfl ⟨.inl rfl,rfl,rfl⟩
  ·obtain ⟨⟨v4,v5,v6⟩,hk5,h⟩ := bind_some h
   refine Tri.f 2 [.g false,.r ⟨[2060],.i v4,[(2060,.box [.undf,.i v5,.i v6])]⟩] [.keep [0,1,5] [2060]] rfl ⟨(fun vf => ((W3 (vf 2060 0) a0 a1 a2 (v4,v5,v6) hk5).swap 2080 2060)),hd2,trivial⟩ ?_
   obtain ⟨⟨v7,v8,v9⟩,hk6,h⟩ := bind_some h
   obtain ⟨⟨v10,v11,v12⟩,hk7,h⟩ := bind_some h
   refine Tri.f 2 [.r ⟨[2060],.i v7,[(2060,.box [.undf,.i v8,.i v9])]⟩,.r ⟨[2060],.i v10,[(2060,.box [.undf,.i v11,.i v12])]⟩] [.keep [0,1,5,6,7] [2060]] rfl ⟨(fun vf => ((W3 (vf 2060 0) a0 v8 v9 (v10,v11,v12) hk7).swap 2080 2060)),(fun vf => ((W3 (vf 2060 0) a0 v5 v6 (v7,v8,v9) hk6).swap 2080 2060)),trivial⟩ ?_
   obtain ⟨⟨v13,v14,v15⟩,hk8,h⟩ := bind_some h
   obtain ⟨hg9,h⟩ := grd_some h
   refine Tri.f 2 [.r ⟨[2060],.i v13,[(2060,.box [.undf,.i v14,.i v15])]⟩] [.keep [4] [2060]] rfl ⟨hg9,(fun vf => ((W3 (vf 2060 0) a0 v11 v12 (v13,v14,v15) hk8).swap 2080 2060)),trivial⟩ ?_
   cases h
   exact Tri.ret rfl ⟨.inl rfl,rfl,rfl⟩
noncomputable def E120 : Env := ⟨Tryd.prog,tys,(Tryd.f41.body).getD .skip,15,tysOk,mixedOk⟩
abbrev K63 (r : Bool) (σ' : ASt) : Prop := isRes E120.T Tryd.f41 (.bool r) [] σ'
noncomputable def m_spec_l1In (a0 a1 a2 : Int) : Option Bool :=
bif decide (a0 ≥ a1) then
(some (decide (a0 ≤ a2)))
else
(some false)
theorem W5 (a0 a1 a2 : Int) (r : Bool) (h : m_spec_l1In a0 a1 a2 = some r) : AM.Spec Tryd.prog 41 [.i a0,.i a1,.i a2] [] (.bool r) [] := by
 refine spec_of (E := E120) Tryd.func41 rfl rfl rfl rfl ?_
 refine Tri.f 1 [] [.keep [0,1,2] []] rfl trivial ?_
 rcases bif_some h with ⟨hd1,h⟩ | ⟨hd1,h⟩
 ·refine Tri.f 1 [.g true] [.keep [6] []] rfl ⟨hd1,trivial⟩ ?_
  cases h
  exact Tri.ret rfl ⟨.inl rfl,rfl,rfl⟩
 ·refine Tri.f 1 [.g false] [.keep [6] []] rfl ⟨hd1,trivial⟩ ?_
  cases h
  exact Tri.ret rfl ⟨.inl rfl,rfl,rfl⟩
noncomputable def E121 : Env := ⟨Tryd.prog,tys,(Tryd.f42.body).getD .skip,16,tysOk,mixedOk⟩
abbrev K64 (r : Int) (σ' : ASt) : Prop := isRes E121.T Tryd.f42 (.i r) [] σ'
noncomputable def l_spec_CountCoalitions_0 (a0 : Int) : (Int × Int) → Option ((Int × Int) ⊕ Int)
 | (v2,v3) => (
bif decide (v3 < a0) then
(some (.inl (IntKind.i64.wrap (v2 * 2),IntKind.i64.wrap (v3 + 1))))
else
(some (.inr v2)))
noncomputable def m_spec_CountCoalitions (a0 : Int) : Option Int :=
(m_spec_l1In a0 (0 : Int) (5 : Int)).bind fun v1 =>
bif !v1 then
(some (0 : Int))
else
((iter (l_spec_CountCoalitions_0 a0) ((1 : Int),(0 : Int))).bind fun
| v4 => (
some v4))
theorem W6 (a0 r : Int) (h : m_spec_CountCoalitions a0 = some r) : AM.Spec Tryd.prog 42 [.i a0] [] (.i r) [] := by
 refine spec_of (E := E121) Tryd.func42 rfl rfl rfl rfl ?_
 refine Tri.f 1 [] [.keep [0] []] rfl trivial ?_
 obtain ⟨v1,hk1,h⟩ := bind_some h
 refine Tri.f 1 [.v (.bool v1)] [.keep [0,7] []] rfl ⟨fun _ => W5 a0 (0 : Int) (5 : Int) v1 hk1,trivial⟩ ?_
 rcases bif_some h with ⟨hd2,h⟩ | ⟨hd2,h⟩
 ·refine Tri.f 2 [.g true] [.keep [2] []] rfl ⟨hd2,trivial⟩ ?_
  cases h
  exact Tri.ret rfl ⟨.inl rfl,rfl,rfl⟩
 ·refine Tri.f 3 [.g false] [.keep [0,3,4] []] rfl ⟨hd2,trivial⟩ ?_
  obtain ⟨v4,hk4,h⟩ := bind_some h
  refine Tri.loop (K1 := [.code [(3,0),(1,0),(0,0)] 0]) (K2 := [.blk 0,.code [] 4]) (fun (v2,v3) => ⟨[(0,.i a0),(3,.i v2),(4,.i v3)],[]⟩) (fun x e σ' => match x with | v4 => e = .exit 0 ∧ σ' = ⟨[(3,.i v4)],[]⟩) hk4 rfl rfl ?_ ?_
  ·intro s x hs
   clear h
   have h := hs
   clear hs
   obtain ⟨v2,v3⟩ := s
   refine Tri.f 1 [] [.keep [0,3,4,10] []] rfl trivial ?_
   rcases bif_some h with ⟨hd3,h⟩ | ⟨hd3,h⟩
   ·refine Tri.f 3 [.g true] [.keep [0,3,4] []] rfl ⟨hd3,trivial⟩ ?_
    cases h
    exact Tri.nil ⟨rfl,rfl⟩
   ·refine Tri.f 1 [.g false] [.keep [3] []] rfl ⟨hd3,trivial⟩ ?_
    cases h
    exact Tri.out 0 rfl ⟨nofun,rfl,rfl⟩
  ·intro e σ' hne hq
   obtain ⟨rfl,rfl⟩ := hq
   refine TriX.exit (K' := [.code [] 4]) rfl ?_
   refine Tri.f 1 [] [.keep [2] []] rfl trivial ?_
   cases h
   exact Tri.ret rfl ⟨.inl rfl,rfl,rfl⟩
noncomputable def E122 : Env := ⟨Tryd.prog,tys,(Tryd.f65.body).getD .skip,5,tysOk,mixedOk⟩
abbrev K65 (r : Int) (σ' : ASt) : Prop := isRes E122.T Tryd.f65 (.i r) [] σ'
noncomputable def m_spec_l2Bit (a0 : Int) : Option Int :=
(m_spec_CountCoalitions a0).bind fun v1 =>
some v1
theorem W7 (a0 r : Int) (h : m_spec_l2Bit a0 = some r) : AM.Spec Tryd.prog 65 [.i a0] [] (.i r) [] := by
 refine spec_of (E := E122) Tryd.func65 rfl rfl rfl rfl ?_
 refine Tri.f 1 [] [.keep [0] []] rfl trivial ?_
 obtain ⟨v1,hk1,h⟩ := bind_some h
 refine Tri.f 1 [.v (.i v1)] [.keep [2] []] rfl ⟨fun _ => W6 a0 v1 hk1,trivial⟩ ?_
 cases h
 exact Tri.ret rfl ⟨.inl rfl,rfl,rfl⟩
noncomputable def E123 : Env := ⟨Tryd.prog,tys,(Tryd.f47.body).getD .skip,19,tysOk,mixedOk⟩
abbrev K66 (r : Bool) (σ' : ASt) : Prop := isRes E123.T Tryd.f47 (.bool r) [] σ'
noncomputable def m_spec_HasPlayer (a0 a1 : Int) : Option Bool :=
(m_spec_l1In a1 (0 : Int) (4 : Int)).bind fun v1 =>
bif v1 then
(bif decide (a0 ≥ 0) then
((m_spec_l2Bit a1).bind fun v2 =>
grd (v2 ≠ 0) <|
grd ((2 : Int) ≠ 0) <|
some (((IntKind.i64.wrap (a0.tdiv v2)).tmod (2 : Int)) == 1))
else
(some false))
else
(some false)
theorem W8 (a0 a1 : Int) (r : Bool) (h : m_spec_HasPlayer a0 a1 = some r) : AM.Spec Tryd.prog 47 [.i a0,.i a1] [] (.bool r) [] := by
 refine spec_of (E := E123) Tryd.func47 rfl rfl rfl rfl ?_
 refine Tri.f 1 [] [.keep [0,1] []] rfl trivial ?_
 obtain ⟨v1,hk1,h⟩ := bind_some h
 rcases bif_some h with ⟨hd2,h⟩ | ⟨hd2,h⟩
 ·rcases bif_some h with ⟨hd3,h⟩ | ⟨hd3,h⟩
  ·obtain ⟨v2,hk4,h⟩ := bind_some h
   obtain ⟨hg5,h⟩ := grd_some h
   obtain ⟨hg6,h⟩ := grd_some h
   refine Tri.f 1 [.v (.bool v1),.g true,.g true,.v (.i v2)] [.keep [4] []] rfl ⟨hg6,hg5,fun _ => W7 a1 v2 hk4,hd3,hd2,fun _ => W5 a1 (0 : Int) (4 : Int) v1 hk1,trivial⟩ ?_
   cases h
   exact Tri.ret rfl ⟨.inl rfl,rfl,rfl⟩
  ·refine Tri.f 1 [.v (.bool v1),.g true,.g false] [.keep [4] []] rfl ⟨hd3,hd2,fun _ => W5 a1 (0 : Int) (4 : Int) v1 hk1,trivial⟩ ?_
   cases h
   exact Tri.ret rfl ⟨.inl rfl,rfl,rfl⟩
 ·refine Tri.f 1 [.v (.bool v1),.g false,.g false] [.keep [4] []] rfl ⟨rfl,hd2,fun _ => W5 a1 (0 : Int) (4 : Int) v1 hk1,trivial⟩ ?_
  cases h
  exact Tri.ret rfl ⟨.inl rfl,rfl,rfl⟩
noncomputable def E124 : Env := ⟨Tryd.prog,tys,(Tryd.f62.body).getD .skip,15,tysOk,mixedOk⟩
abbrev K67 (r : Int) (σ' : ASt) : Prop := isRes E124.T Tryd.f62 (.i r) [] σ'
noncomputable def l_spec_SizeOf_0 (a0 : Int) : (Int × Int) → Option ((Int × Int) ⊕ Int)
 | (v1,v2) => (
bif decide (v2 < 5) then
((m_spec_HasPlayer a0 v2).bind fun v3 =>
bif v3 then
(some (.inl (IntKind.i64.wrap (v1 + 1),IntKind.i64.wrap (v2 + 1))))
else
(some (.inl (v1,IntKind.i64.wrap (v2 + 1)))))
else
(some (.inr v1)))
noncomputable def m_spec_SizeOf (a0 : Int) : Option Int :=
(iter (l_spec_SizeOf_0 a0) ((0 : Int),(0 : Int))).bind fun
| v4 => (
some v4)
theorem W9 (a0 r : Int) (h : m_spec_SizeOf a0 = some r) : AM.Spec Tryd.prog 62 [.i a0] [] (.i r) [] := by
 refine spec_of (E := E124) Tryd.func62 rfl rfl rfl rfl ?_
 refine Tri.f 3 [] [.keep [0,3,4] []] rfl trivial ?_
 obtain ⟨v4,hk4,h⟩ := bind_some h
 refine Tri.loop (K1 := [.code [(2,0),(1,0),(0,0)] 0]) (K2 := [.blk 0,.code [] 3]) (fun (v1,v2) => ⟨[(0,.i a0),(3,.i v1),(4,.i v2)],[]⟩) (fun x e σ' => match x with | v4 => e = .exit 0 ∧ σ' = ⟨[(3,.i v4)],[]⟩) hk4 rfl rfl ?_ ?_
 ·intro s x hs
  clear h
  have h := hs
  clear hs
  obtain ⟨v1,v2⟩ := s
  refine Tri.f 1 [] [.keep [0,3,4,6] []] rfl trivial ?_
  rcases bif_some h with ⟨hd1,h⟩ | ⟨hd1,h⟩
  ·obtain ⟨v3,hk2,h⟩ := bind_some h
   refine Tri.f 2 [.g true,.v (.bool v3)] [.keep [0,3,4,11] []] rfl ⟨fun _ => W8 a0 v2 v3 hk2,hd1,trivial⟩ ?_
   rcases bif_some h with ⟨hd3,h⟩ | ⟨hd3,h⟩
   ·refine Tri.f 3 [.g true] [.keep [0,3,4] []] rfl ⟨hd3,trivial⟩ ?_
    cases h
    exact Tri.nil ⟨rfl,rfl⟩
   ·refine Tri.f 2 [.g false] [.keep [0,3,4] []] rfl ⟨hd3,trivial⟩ ?_
    cases h
    exact Tri.nil ⟨rfl,rfl⟩
  ·refine Tri.f 1 [.g false] [.keep [3] []] rfl ⟨hd1,trivial⟩ ?_
   cases h
   exact Tri.out 0 rfl ⟨nofun,rfl,rfl⟩
 ·intro e σ' hne hq
  obtain ⟨rfl,rfl⟩ := hq
  refine TriX.exit (K' := [.code [] 3]) rfl ?_
  refine Tri.f 1 [] [.keep [2] []] rfl trivial ?_
  cases h
  exact Tri.ret rfl ⟨.inl rfl,rfl,rfl⟩
noncomputable def E125 : Env := ⟨Tryd.prog,tys,(Tryd.f60.body).getD .skip,12,tysOk,mixedOk⟩
abbrev K68 (u0 : Value) (a0 : List UInt8) (r : Int × Int × Int) (σ' : ASt) : Prop := isRes E125.T Tryd.f60 (.i r.1) [(2100,.box [.lst u0 (.bytes a0),.i r.2.1,.i r.2.2])] σ'
noncomputable def m_spec_l1PickInt_io1 (a0 : List UInt8) (a1 a2 : Int) (a3 : List Int) : Option (Int × Int × Int) :=
(m_spec_l1Below_io1 a0 a1 a2 (a3.length : Int)).bind fun (v1,v2,v3) =>
grd (0 ≤ v1 ∧ v1 < (a3.length : Int)) <|
some (a3.getD v1.toNat 0,v2,v3)
theorem W10 (u0 : Value) (a0 : List UInt8) (a1 a2 : Int) (a3 : List Int) (r : Int × Int × Int) (h : m_spec_l1PickInt_io1 a0 a1 a2 a3 = some r) : AM.Spec Tryd.prog 60 [.ptr 2100 0,.list (.ints a3)] [(2100,.box [.lst u0 (.bytes a0),.i a1,.i a2])] (.i r.1) [(2100,.box [.lst u0 (.bytes a0),.i r.2.1,.i r.2.2])] := by
 refine spec_of (E := E125) Tryd.func60 rfl rfl rfl rfl ?_
 refine Tri.f 1 [] [.keep [0,1] [2100]] rfl trivial ?_
 obtain ⟨⟨v1,v2,v3⟩,hk1,h⟩ := bind_some h
 obtain ⟨hg2,h⟩ := grd_some h
 refine Tri.f 1 [.r ⟨[2100],.i v1,[(2100,.box [.undf,.i v2,.i v3])]⟩] [.keep [4] [2100]] rfl ⟨hg2,(fun vf => ((W4 (vf 2100 0) a0 a1 a2 (a3.length : Int) (v1,v2,v3) hk1).swap 2060 2100)),trivial⟩ ?_
 cases h
 exact Tri.ret rfl ⟨.inl rfl,rfl,rfl⟩
noncomputable def E126 : Env := ⟨Tryd.prog,tys,(Tryd.f63.body).getD .skip,10,tysOk,mixedOk⟩
abbrev K69 (r : Int) (σ' : ASt) : Prop := isRes E126.T Tryd.f63 (.i r) [] σ'
noncomputable def m_spec_l1Max (a0 a1 : Int) : Option Int :=
bif decide (a0 > a1) then
(some a0)
else
(some a1)
theorem W11 (a0 a1 r : Int) (h : m_spec_l1Max a0 a1 = some r) : AM.Spec Tryd.prog 63 [.i a0,.i a1] [] (.i r) [] := by
 refine spec_of (E := E126) Tryd.func63 rfl rfl rfl rfl ?_
 refine Tri.f 2 [] [.keep [0,1,7] []] rfl trivial ?_
 rcases bif_some h with ⟨hd1,h⟩ | ⟨hd1,h⟩
 ·refine Tri.f 2 [.g true] [.keep [4] []] rfl ⟨hd1,trivial⟩ ?_
  cases h
  exact Tri.ret rfl ⟨.inl rfl,rfl,rfl⟩
 ·refine Tri.f 2 [.g false] [.keep [4] []] rfl ⟨hd1,trivial⟩ ?_
  cases h
  exact Tri.ret rfl ⟨.inl rfl,rfl,rfl⟩
noncomputable def E127 : Env := ⟨Tryd.prog,tys,(Tryd.f64.body).getD .skip,4,tysOk,mixedOk⟩
abbrev K70 (r : Int) (σ' : ASt) : Prop := isRes E127.T Tryd.f64 (.i r) [] σ'
noncomputable def m_spec_l1Bit (a0 : Bool) : Option Int :=
bif a0 then
(some (1 : Int))
else
(some (0 : Int))
theorem W12 (a0 : Bool) (r : Int) (h : m_spec_l1Bit a0 = some r) : AM.Spec Tryd.prog 64 [.bool a0] [] (.i r) [] := by
 refine spec_of (E := E127) Tryd.func64 rfl rfl rfl rfl ?_
 refine Tri.f 2 [] [.keep [3] []] rfl trivial ?_
 rcases bif_some h with ⟨hd1,h⟩ | ⟨hd1,h⟩
 ·refine Tri.f 2 [.g true] [.keep [2] []] rfl ⟨hd1,trivial⟩ ?_
  cases h
  exact Tri.ret rfl ⟨.inl rfl,rfl,rfl⟩
 ·refine Tri.f 2 [.g false] [.keep [2] []] rfl ⟨hd1,trivial⟩ ?_
  cases h
  exact Tri.ret rfl ⟨.inl rfl,rfl,rfl⟩
noncomputable def E128 : Env := ⟨Tryd.prog,tys,(Tryd.f45.body).getD .skip,81,tysOk,mixedOk⟩
abbrev K71 (u0 : Value) (a0 : List UInt8) (r : Int × (List Int) × Int × Int) (σ' : ASt) : Prop := isRes E128.T Tryd.f45 (.agg [.i r.1,.sl 1000 0]) [(1000,.arr 3 0 0 (.ints r.2.1)),(2040,.box [.lst u0 (.bytes a0),.i r.2.2.1,.i r.2.2.2])] σ'
noncomputable def l_spec_l8Draw_io1_0 (a0 : List UInt8) (v1 v5 : Int) : (Int × (List Int) × Int × Int) → Option ((Int × (List Int) × Int × Int) ⊕ (((List Int) × Int × Int)))
 | (v8,v9,v10,v11) => (
bif decide (v8 < (v9.length : Int)) then
(bif v5 == 0 then
((m_spec_SizeOf v8).bind fun v12 =>
(m_spec_SizeOf v8).bind fun v13 =>
(m_spec_l1Below_io1 a0 v10 v11 (2 : Int)).bind fun (v14,v15,v16) =>
grd (0 ≤ v8 ∧ v8 < (v9.length : Int)) <|
some (.inl (IntKind.i64.wrap (v8 + 1),v9.set v8.toNat (IntKind.i64.wrap ((IntKind.i64.wrap (v12 * v13)) + v14)),v15,v16)))
else
(bif v5 == 1 then
((m_spec_l1PickInt_io1 a0 v10 v11 [(0 : Int),(1 : Int),(2 : Int),(3 : Int),(5 : Int),(8 : Int),(-2 : Int),(4 : Int)]).bind fun (v17,v18,v19) =>
grd (0 ≤ v8 ∧ v8 < (v9.length : Int)) <|
some (.inl (IntKind.i64.wrap (v8 + 1),v9.set v8.toNat v17,v18,v19)))
else
(bif v5 == 2 then
((m_spec_SizeOf v8).bind fun v20 =>
(m_spec_l1Below_io1 a0 v10 v11 (2 : Int)).bind fun (v21,v22,v23) =>
(m_spec_l1Max (0 : Int) (IntKind.i64.wrap ((IntKind.i64.wrap ((IntKind.i64.wrap ((3 : Int) * v20)) - 2)) - v21))).bind fun v24 =>
grd (0 ≤ v8 ∧ v8 < (v9.length : Int)) <|
some (.inl (IntKind.i64.wrap (v8 + 1),v9.set v8.toNat v24,v22,v23)))
else
((m_spec_SizeOf v8).bind fun v25 =>
(m_spec_l1Bit (decide ((IntKind.i64.wrap (v25 * 2)) > (IntKind.i64.wrap ((1 : Int) + v1))))).bind fun v26 =>
(m_spec_l1Below_io1 a0 v10 v11 (2 : Int)).bind fun (v27,v28,v29) =>
grd (0 ≤ v8 ∧ v8 < (v9.length : Int)) <|
some (.inl (IntKind.i64.wrap (v8 + 1),v9.set v8.toNat (IntKind.i64.wrap (v26 * (IntKind.i64.wrap ((3 : Int) + (IntKind.i64.wrap (v27 * 3)))))),v28,v29))))))
else
(some (.inr (v9,v10,v11))))
noncomputable def m_spec_l8Draw_io1 (a0 : List UInt8) (a1 a2 a3 : Int) : Option (Int × (List Int) × Int × Int) :=
(m_spec_l1Below_io1 a0 a1 a2 a3).bind fun (v1,v2,v3) =>
(m_spec_CountCoalitions (IntKind.i64.wrap ((1 : Int) + v1))).bind fun v4 =>
grd (0 ≤ v4 ∧ v4 = v4 ∧ v4 ≤ (room : Int)) <|
(m_spec_l1Below_io1 a0 v2 v3 (4 : Int)).bind fun (v5,v6,v7) =>
(iter (l_spec_l8Draw_io1_0 a0 v1 v5) ((1 : Int),List.replicate v4.toNat (0 : Int),v6,v7)).bind fun
| (v30,v31,v32) => (
some (IntKind.i64.wrap ((1 : Int) + v1),v30,v31,v32))
theorem W13 (u0 : Value) (a0 : List UInt8) (a1 a2 a3 : Int) (r : Int × (List Int) × Int × Int) (h : m_spec_l8Draw_io1 a0 a1 a2 a3 = some r) : AM.Spec Tryd.prog 45 [.ptr 2040 0,.i a3] [(2040,.box [.lst u0 (.bytes a0),.i a1,.i a2])] (.agg [.i r.1,.sl 1000 0]) [(1000,.arr 3 0 0 (.ints r.2.1)),(2040,.box [.lst u0 (.bytes a0),.i r.2.2.1,.i r.2.2.2])] := by
 refine spec_of (E := E128) Tryd.func45 rfl rfl rfl rfl ?_
 refine Tri.f 1 [] [.keep [0,1,4] [4,2040],.ownc 4 1 1100 3,.keep [0,1,4] [4,1100,2040]] rfl trivial ?_
 obtain ⟨⟨v1,v2,v3⟩,hk1,h⟩ := bind_some h
 obtain ⟨v4,hk2,h⟩ := bind_some h
 obtain ⟨hg3,h⟩ := grd_some h
 refine Tri.f 2 [.r ⟨[2040],.i v1,[(2040,.box [.undf,.i v2,.i v3])]⟩,.v (.i v4)] [.keep [0,4,5,6] [4,6,16,1100,2040]] rfl ⟨hg3,fun _ => W6 (IntKind.i64.wrap ((1 : Int) + v1)) v4 hk2,(fun vf => ((W4 (vf 2040 0) a0 a1 a2 a3 (v1,v2,v3) hk1).swap 2060 2040)),trivial⟩ ?_
 obtain ⟨⟨v5,v6,v7⟩,hk4,h⟩ := bind_some h
 refine Tri.f 2 [.r ⟨[2040],.i v5,[(2040,.box [.undf,.i v6,.i v7])]⟩] [.keep [0,4,5,6,7,8] [4,6,16,1100,2040]] rfl ⟨(fun vf => ((W4 (vf 2040 0) a0 v2 v3 (4 : Int) (v5,v6,v7) hk4).swap 2060 2040)),trivial⟩ ?_
 obtain ⟨x1,hk23,h⟩ := bind_some h
 refine Tri.loop (K1 := [.code [(4,0),(1,0),(0,0)] 0]) (K2 := [.blk 0,.code [] 5]) (fun (v8,v9,v10,v11) => ⟨[(0,.ptr 2040 0),(4,.ptr 4 0),(5,.i (IntKind.i64.wrap ((1 : Int) + v1))),(6,.ptr 6 0),(7,.i v5),(8,.i v8)],[(4,.box [.i 0,.sl 1100 0]),(6,.box [.i (IntKind.i64.wrap ((1 : Int) + v1)),.sl 16 0]),(16,.arr 3 0 0 (.ints v9)),(1100,.arr 3 0 0 (.ints [])),(2040,.box [.lst u0 (.bytes a0),.i v10,.i v11])]⟩) (fun x e σ' => match x with | (v30,v31,v32) => e = .exit 0 ∧ σ' = ⟨[(4,.ptr 4 0),(6,.ptr 6 0)],[(4,.box [.i 0,.sl 1100 0]),(6,.box [.i (IntKind.i64.wrap ((1 : Int) + v1)),.sl 16 0]),(16,.arr 3 0 0 (.ints v30)),(1100,.arr 3 0 0 (.ints [])),(2040,.box [.lst u0 (.bytes a0),.i v31,.i v32])]⟩) hk23 rfl rfl ?_ ?_
 ·intro s x hs
  clear h
  have h := hs
  clear hs
  obtain ⟨v8,v9,v10,v11⟩ := s
  refine Tri.f 1 [] [.keep [0,4,5,6,7,8,24] [4,6,16,1100,2040]] rfl trivial ?_
  rcases bif_some h with ⟨hd5,h⟩ | ⟨hd5,h⟩
  ·refine Tri.f 3 [.g true] [.keep [0,4,5,6,7,8,27,43] [4,6,16,1100,2040]] rfl ⟨hd5,trivial⟩ ?_
   rcases bif_some h with ⟨hd6,h⟩ | ⟨hd6,h⟩
   ·obtain ⟨v12,hk7,h⟩ := bind_some h
    obtain ⟨v13,hk8,h⟩ := bind_some h
    obtain ⟨⟨v14,v15,v16⟩,hk9,h⟩ := bind_some h
    obtain ⟨hg10,h⟩ := grd_some h
    refine Tri.f 3 [.g true,.v (.i v12),.v (.i v13),.r ⟨[2040],.i v14,[(2040,.box [.undf,.i v15,.i v16])]⟩] [.keep [0,4,5,6,7,8] [4,6,16,1100,2040]] rfl ⟨hg10,(fun vf => ((W4 (vf 2040 0) a0 v10 v11 (2 : Int) (v14,v15,v16) hk9).swap 2060 2040)),fun _ => W9 v8 v13 hk8,fun _ => W9 v8 v12 hk7,hd6,trivial⟩ ?_
    cases h
    exact Tri.nil ⟨rfl,rfl⟩
   ·refine Tri.f 2 [.g false] [.keep [0,4,5,6,7,8,27,57] [4,6,16,1100,2040]] rfl ⟨hd6,trivial⟩ ?_
    rcases bif_some h with ⟨hd11,h⟩ | ⟨hd11,h⟩
    ·obtain ⟨⟨v17,v18,v19⟩,hk12,h⟩ := bind_some h
     obtain ⟨hg13,h⟩ := grd_some h
     refine Tri.f 3 [.g true,.r ⟨[2040],.i v17,[(2040,.box [.undf,.i v18,.i v19])]⟩] [.keep [0,4,5,6,7,8] [4,6,16,1100,2040]] rfl ⟨hg13,(fun vf => ((W10 (vf 2040 0) a0 v10 v11 [(0 : Int),(1 : Int),(2 : Int),(3 : Int),(5 : Int),(8 : Int),(-2 : Int),(4 : Int)] (v17,v18,v19) hk12).swap 2100 2040)),hd11,trivial⟩ ?_
     cases h
     exact Tri.nil ⟨rfl,rfl⟩
    ·refine Tri.f 2 [.g false] [.keep [0,4,5,6,7,8,66] [4,6,16,1100,2040]] rfl ⟨hd11,trivial⟩ ?_
     rcases bif_some h with ⟨hd14,h⟩ | ⟨hd14,h⟩
     ·obtain ⟨v20,hk15,h⟩ := bind_some h
      obtain ⟨⟨v21,v22,v23⟩,hk16,h⟩ := bind_some h
      obtain ⟨v24,hk17,h⟩ := bind_some h
      obtain ⟨hg18,h⟩ := grd_some h
      refine Tri.f 3 [.g true,.v (.i v20),.r ⟨[2040],.i v21,[(2040,.box [.undf,.i v22,.i v23])]⟩,.v (.i v24)] [.keep [0,4,5,6,7,8] [4,6,16,1100,2040]] rfl ⟨hg18,fun _ => W11 (0 : Int) (IntKind.i64.wrap ((IntKind.i64.wrap ((IntKind.i64.wrap ((3 : Int) * v20)) - 2)) - v21)) v24 hk17,(fun vf => ((W4 (vf 2040 0) a0 v10 v11 (2 : Int) (v21,v22,v23) hk16).swap 2060 2040)),fun _ => W9 v8 v20 hk15,hd14,trivial⟩ ?_
      cases h
      exact Tri.nil ⟨rfl,rfl⟩
     ·obtain ⟨v25,hk19,h⟩ := bind_some h
      obtain ⟨v26,hk20,h⟩ := bind_some h
      obtain ⟨⟨v27,v28,v29⟩,hk21,h⟩ := bind_some h
      obtain ⟨hg22,h⟩ := grd_some h
      refine Tri.f 3 [.g false,.v (.i v25),.v (.i v26),.r ⟨[2040],.i v27,[(2040,.box [.undf,.i v28,.i v29])]⟩] [.keep [0,4,5,6,7,8] [4,6,16,1100,2040]] rfl ⟨hg22,(fun vf => ((W4 (vf 2040 0) a0 v10 v11 (2 : Int) (v27,v28,v29) hk21).swap 2060 2040)),fun _ => W12 (decide ((IntKind.i64.wrap (v25 * 2)) > (IntKind.i64.wrap ((1 : Int) + v1)))) v26 hk20,fun _ => W9 v8 v25 hk19,hd14,trivial⟩ ?_
      cases h
      exact Tri.nil ⟨rfl,rfl⟩
  ·refine Tri.f 1 [.g false] [.keep [4,6] [4,6,16,1100,2040]] rfl ⟨hd5,trivial⟩ ?_
   cases h
   exact Tri.out 0 rfl ⟨nofun,rfl,rfl⟩
 ·intro e σ' hne hq
  obtain ⟨v30,v31,v32⟩ := x1
  obtain ⟨rfl,rfl⟩ := hq
  refine TriX.exit (K' := [.code [] 5]) rfl ?_
  refine Tri.f 1 [] [.swap 16 1000,.keep [4] [4,1000,2040]] rfl trivial ?_
  cases h
  exact Tri.ret rfl ⟨.inl rfl,rfl,rfl⟩
noncomputable def E129 : Env := ⟨Tryd.prog,tys,(Tryd.f39.body).getD .skip,39,tysOk,mixedOk⟩
abbrev K72 (u0 : Value) (a0 : List UInt8) (r : Int × (List Int) × Int × Int) (σ' : ASt) : Prop := isRes E129.T Tryd.f39 (.agg [.i r.1,.sl 1000 0]) [(1000,.arr 3 0 0 (.ints r.2.1)),(2020,.box [.lst u0 (.bytes a0),.i r.2.2.1,.i r.2.2.2])] σ'
noncomputable def m_spec_l8Bent_io1 (a0 : List UInt8) (a1 a2 : Int) : Option (Int × (List Int) × Int × Int) :=
(m_spec_l8Draw_io1 a0 a1 a2 (4 : Int)).bind fun (v1,v2,v3,v4) =>
(m_spec_l1Below_io1 a0 v3 v4 (12 : Int)).bind fun (v5,v6,v7) =>
bif v5 == 0 then
(grd ((0 : Int) ≤ (0 : Int) ∧ (0 : Int) < (v2.length : Int)) <|
some (v1,v2.set ((0 : Int).toNat) (1 : Int),v6,v7))
else
(bif v5 == 1 then
((m_spec_l1PickInt_io1 a0 v6 v7 [(0 : Int),(6 : Int),(2 : Int),(-1 : Int)]).bind fun (v8,v9,v10) =>
some (v8,v2,v9,v10))
else
(bif v5 == 2 then
(grd (v2.length + ([(1 : Int)] : List Int).length ≤ room) <|
some (v1,v2 ++ [(1 : Int)],v6,v7))
else
(bif v5 == 3 then
((m_spec_l1PickInt_io1 a0 v6 v7 [(500 : Int),(501 : Int),(-501 : Int)]).bind fun (v11,v12,v13) =>
grd (0 ≤ IntKind.i64.wrap ((v2.length : Int) - 1) ∧ IntKind.i64.wrap ((v2.length : Int) - 1) < (v2.length : Int)) <|
some (v1,v2.set ((IntKind.i64.wrap ((v2.length : Int) - 1)).toNat) v11,v12,v13))
else
(some (v1,v2,v6,v7)))))
theorem W14 (u0 : Value) (a0 : List UInt8) (a1 a2 : Int) (r : Int × (List Int) × Int × Int) (h : m_spec_l8Bent_io1 a0 a1 a2 = some r) : AM.Spec Tryd.prog 39 [.ptr 2020 0] [(2020,.box [.lst u0 (.bytes a0),.i a1,.i a2])] (.agg [.i r.1,.sl 1000 0]) [(1000,.arr 3 0 0 (.ints r.2.1)),(2020,.box [.lst u0 (.bytes a0),.i r.2.2.1,.i r.2.2.2])] := by
 refine spec_of (E := E129) Tryd.func39 rfl rfl rfl rfl ?_
 refine Tri.f 1 [] [.keep [0,2] [2,2020],.ownc 2 1 1100 3,.keep [0,2] [2,1100,2020]] rfl trivial ?_
 obtain ⟨⟨v1,v2,v3,v4⟩,hk1,h⟩ := bind_some h
 obtain ⟨⟨v5,v6,v7⟩,hk2,h⟩ := bind_some h
 refine Tri.f 3 [.r ⟨[2020],.agg [.i v1,.sl 1101 0],[(1101,.arr 3 0 0 (.ints v2)),(2020,.box [.undf,.i v3,.i v4])]⟩,.r ⟨[2020],.i v5,[(2020,.box [.undf,.i v6,.i v7])]⟩] [.keep [0,2,3,7,8] [2,3,1100,1101,2020]] rfl ⟨(fun vf => ((W4 (vf 2020 0) a0 v3 v4 (12 : Int) (v5,v6,v7) hk2).swap 2060 2020)),(fun vf => (((W13 (vf 2020 0) a0 a1 a2 (4 : Int) (v1,v2,v3,v4) hk1).swap 1000 1101).swap 2040 2020)),trivial⟩ ?_
 rcases bif_some h with ⟨hd3,h⟩ | ⟨hd3,h⟩
 ·obtain ⟨hg4,h⟩ := grd_some h
  refine Tri.f 3 [.g true] [.swap 1101 1000,.keep [2] [2,1000,2020]] rfl ⟨hg4,hd3,trivial⟩ ?_
  cases h
  exact Tri.ret rfl ⟨.inl rfl,rfl,rfl⟩
 ·refine Tri.f 2 [.g false] [.keep [0,2,3,7,13] [2,3,1100,1101,2020]] rfl ⟨hd3,trivial⟩ ?_
  rcases bif_some h with ⟨hd5,h⟩ | ⟨hd5,h⟩
  ·obtain ⟨⟨v8,v9,v10⟩,hk6,h⟩ := bind_some h
   refine Tri.f 3 [.g true,.r ⟨[2020],.i v8,[(2020,.box [.undf,.i v9,.i v10])]⟩] [.swap 1101 1000,.keep [2] [2,1000,2020]] rfl ⟨(fun vf => ((W10 (vf 2020 0) a0 v6 v7 [(0 : Int),(6 : Int),(2 : Int),(-1 : Int)] (v8,v9,v10) hk6).swap 2100 2020)),hd5,trivial⟩ ?_
   cases h
   exact Tri.ret rfl ⟨.inl rfl,rfl,rfl⟩
  ·refine Tri.f 2 [.g false] [.keep [0,2,3,7,19] [2,3,1100,1101,2020]] rfl ⟨hd5,trivial⟩ ?_
   rcases bif_some h with ⟨hd7,h⟩ | ⟨hd7,h⟩
   ·obtain ⟨hg8,h⟩ := grd_some h
    refine Tri.f 3 [.g true] [.rever 1101,.swap 1101 1000,.keep [2] [2,1000,2020]] rfl ⟨hg8,hd7,trivial⟩ ?_
    cases h
    exact Tri.ret rfl ⟨.inl rfl,rfl,rfl⟩
   ·refine Tri.f 2 [.g false] [.keep [0,2,3,26] [2,3,1100,1101,2020]] rfl ⟨hd7,trivial⟩ ?_
    rcases bif_some h with ⟨hd9,h⟩ | ⟨hd9,h⟩
    ·obtain ⟨⟨v11,v12,v13⟩,hk10,h⟩ := bind_some h
     obtain ⟨hg11,h⟩ := grd_some h
     refine Tri.f 3 [.g true,.r ⟨[2020],.i v11,[(2020,.box [.undf,.i v12,.i v13])]⟩] [.swap 1101 1000,.keep [2] [2,1000,2020]] rfl ⟨hg11,(fun vf => ((W10 (vf 2020 0) a0 v6 v7 [(500 : Int),(501 : Int),(-501 : Int)] (v11,v12,v13) hk10).swap 2100 2020)),hd9,trivial⟩ ?_
     cases h
     exact Tri.ret rfl ⟨.inl rfl,rfl,rfl⟩
    ·refine Tri.f 2 [.g false] [.swap 1101 1000,.keep [2] [2,1000,2020]] rfl ⟨hd9,trivial⟩ ?_
     cases h
     exact Tri.ret rfl ⟨.inl rfl,rfl,rfl⟩
noncomputable def E130 : Env := ⟨Tryd.prog,tys,(Tryd.f16.body).getD .skip,6,tysOk,mixedOk⟩
abbrev K73 (r : Int × (List Int)) (σ' : ASt) : Prop := isRes E130.T Tryd.f16 (.agg [.i r.1,.sl 1000 0]) [(1000,.arr 3 0 0 (.ints r.2))] σ'
noncomputable def m_spec_DrawFormatGame (a0 : List UInt8) : Option (Int × (List Int)) :=
(m_spec_l1New_io2 0 [] a0).bind fun (v1,v2,v3,_,_) =>
(m_spec_l8Bent_io1 v1 v2 v3).bind fun (v6,v7,_,_) =>
some (v6,v7)
theorem W15 (a0 : List UInt8) (r : Int × (List Int)) (h : m_spec_DrawFormatGame a0 = some r) : AM.Spec Tryd.prog 16 [.list (.bytes a0)] [] (.agg [.i r.1,.sl 1000 0]) [(1000,.arr 3 0 0 (.ints r.2))] := by
 refine spec_of (E := E130) Tryd.func16 rfl rfl rfl rfl ?_
 refine Tri.f 1 [] [.keep [0,2] [2],.ownc 2 1 1100 3,.keep [0,2] [2,1100]] rfl trivial ?_
 obtain ⟨⟨v1,v2,v3,v4,v5⟩,hk1,h⟩ := bind_some h
 obtain ⟨⟨v6,v7,v8,v9⟩,hk2,h⟩ := bind_some h
 refine Tri.f 1 [.r ⟨[2,1100],.ptr 1101 0,[(1101,.box [.list (.bytes v1),.i v2,.i v3]),(1102,.arr 3 0 0 (.ints v4)),(2,.box [.i v5,.sl 1102 0])]⟩,.r ⟨[1101],.agg [.i v6,.sl 1103 0],[(1103,.arr 3 0 0 (.ints v7)),(1101,.box [.undf,.i v8,.i v9])]⟩] [.swap 1103 1000,.keep [2] [2,1000]] rfl ⟨(fun vf => (((W14 (vf 1101 0) v1 v2 v3 (v6,v7,v8,v9) hk2).swap 1000 1103).swap 2020 1101)),fun _ => ((((W2 0 [] a0 (v1,v2,v3,v4,v5) hk1).swap 1000 1101).swap 1001 1102).swap 2000 2).swap 2001 1100,trivial⟩ ?_
 cases h
 exact Tri.ret rfl ⟨.inl rfl,rfl,rfl⟩
noncomputable def E131 : Env := ⟨Tryd.prog,tys,(Tryd.f35.body).getD .skip,15,tysOk,mixedOk⟩
abbrev K74 (r : Bool) (σ' : ASt) : Prop := isRes E131.T Tryd.f35 (.bool r) [] σ'
noncomputable def m_impl_within (a0 a1 a2 : Int) : Option Bool :=
bif decide (a0 ≥ a1) then
(some (decide (a0 ≤ a2)))
else
(some false)
theorem W16 (a0 a1 a2 : Int) (r : Bool) (h : m_impl_within a0 a1 a2 = some r) : AM.Spec Tryd.prog 35 [.i a0,.i a1,.i a2] [] (.bool r) [] := by
 refine spec_of (E := E131) Tryd.func35 rfl rfl rfl rfl ?_
 refine Tri.f 1 [] [.keep [0,1,2] []] rfl trivial ?_
 rcases bif_some h with ⟨hd1,h⟩ | ⟨hd1,h⟩
 ·refine Tri.f 1 [.g true] [.keep [6] []] rfl ⟨hd1,trivial⟩ ?_
  cases h
  exact Tri.ret rfl ⟨.inl rfl,rfl,rfl⟩
 ·refine Tri.f 1 [.g false] [.keep [6] []] rfl ⟨hd1,trivial⟩ ?_
  cases h
  exact Tri.ret rfl ⟨.inl rfl,rfl,rfl⟩
noncomputable def E132 : Env := ⟨Tryd.prog,tys,(Tryd.f49.body).getD .skip,6,tysOk,mixedOk⟩
abbrev K75 (r : Bool) (σ' : ASt) : Prop := isRes E132.T Tryd.f49 (.bool r) [] σ'
noncomputable def m_impl_IsValidGame_1 (a0 : Int) : Option Bool :=
(m_impl_within a0 (-500 : Int) (500 : Int)).bind fun v1 =>
some (!v1)
theorem W17 (a0 : Int) (r : Bool) (h : m_impl_IsValidGame_1 a0 = some r) : AM.Spec Tryd.prog 49 [.i a0] [] (.bool r) [] := by
 refine spec_of (E := E132) Tryd.func49 rfl rfl rfl rfl ?_
 refine Tri.f 1 [] [.keep [0] []] rfl trivial ?_
 obtain ⟨v1,hk1,h⟩ := bind_some h
 refine Tri.f 1 [.v (.bool v1)] [.keep [2] []] rfl ⟨fun _ => W16 a0 (-500 : Int) (500 : Int) v1 hk1,trivial⟩ ?_
 cases h
 exact Tri.ret rfl ⟨.inl rfl,rfl,rfl⟩
noncomputable def E133 : Env := ⟨Tryd.prog,tys,(Tryd.f66.body).getD .skip,19,tysOk,mixedOk⟩
abbrev K76 (r : Int) (σ' : ASt) : Prop := isRes E133.T Tryd.f66 (.i r) [] σ'
noncomputable def l_slices_IndexFunc_int_int_impl_IsValidGame_1_0 (a0 : List Int) (v1 : Int) : Option (Int ⊕ (Unit ⊕ Int)) :=
bif decide (v1 < (a0.length : Int)) then
(grd (0 ≤ v1 ∧ v1 < (a0.length : Int)) <|
(m_impl_IsValidGame_1 (a0.getD v1.toNat 0)).bind fun v2 =>
bif v2 then
(some (.inr (.inr v1)))
else
(some (.inl (IntKind.i64.wrap (v1 + 1)))))
else
(some (.inr (.inl ())))
noncomputable def m_slices_IndexFunc_int_int_impl_IsValidGame_1 (a0 : List Int) : Option Int :=
(iter (l_slices_IndexFunc_int_int_impl_IsValidGame_1_0 a0) (0 : Int)).bind fun
| (.inl _) => (
some (-1 : Int))
| (.inr r) => some r
theorem W18 (a0 : List Int) (r : Int) (h : m_slices_IndexFunc_int_int_impl_IsValidGame_1 a0 = some r) : AM.Spec Tryd.prog 66 [.list (.ints a0),.func 49 [] []] [] (.i r) [] := by
 refine spec_of (E := E133) Tryd.func66 rfl rfl rfl rfl ?_
 refine Tri.f 2 [] [.keep [0,1,7,8] []] rfl trivial ?_
 obtain ⟨x1,hk5,h⟩ := bind_some h
 refine Tri.loop (K1 := [.code [(1,0),(1,0),(0,0)] 0]) (K2 := [.blk 0,.code [] 2]) (fun v1 => ⟨[(0,.list (.ints a0)),(1,.func 49 [] []),(7,.i (a0.length : Int)),(8,.i v1)],[]⟩) (fun x e σ' => match x with | (.inl _) => e = .exit 0 ∧ σ' = ⟨[],[]⟩ | (.inr r) => e = .ret ∧ K76 r σ') hk5 rfl rfl ?_ ?_
 ·intro v1 x hs
  clear h
  have h := hs
  clear hs
  refine Tri.f 1 [] [.keep [0,1,7,8,9] []] rfl trivial ?_
  rcases bif_some h with ⟨hd1,h⟩ | ⟨hd1,h⟩
  ·refine Tri.f 2 [.g true] [.keep [0,1,5,7,8] []] rfl ⟨hd1,trivial⟩ ?_
   obtain ⟨hg2,h⟩ := grd_some h
   obtain ⟨v2,hk3,h⟩ := bind_some h
   refine Tri.f 1 [.v (.bool v2)] [.keep [0,1,5,7,8,16] []] rfl ⟨fun _ => W17 (a0.getD v1.toNat 0) v2 hk3,hg2,trivial⟩ ?_
   rcases bif_some h with ⟨hd4,h⟩ | ⟨hd4,h⟩
   ·refine Tri.f 2 [.g true] [.keep [4] []] rfl ⟨hd4,trivial⟩ ?_
    cases h
    exact Tri.ret rfl ⟨nofun,rfl,rfl,rfl⟩
   ·refine Tri.f 2 [.g false] [.keep [0,1,7,8] []] rfl ⟨hd4,trivial⟩ ?_
    cases h
    exact Tri.nil ⟨rfl,rfl⟩
  ·refine Tri.f 1 [.g false] [.keep [] []] rfl ⟨hd1,trivial⟩ ?_
   cases h
   exact Tri.out 0 rfl ⟨nofun,rfl,rfl⟩
 ·intro e σ' hne hq
  rcases x1 with _ | r
  ·obtain ⟨rfl,rfl⟩ := hq
   refine TriX.exit (K' := [.code [] 2]) rfl ?_
   refine Tri.f 1 [] [.keep [4] []] rfl trivial ?_
   cases h
   exact Tri.ret rfl ⟨.inl rfl,rfl,rfl⟩
  ·obtain ⟨rfl,hq⟩ := hq
   cases h
   exact TriX.ret ⟨.inl rfl,hq⟩
noncomputable def E134 : Env := ⟨Tryd.prog,tys,(Tryd.f48.body).getD .skip,9,tysOk,mixedOk⟩
abbrev K77 (r : Bool) (σ' : ASt) : Prop := isRes E134.T Tryd.f48 (.bool r) [] σ'
noncomputable def m_slices_ContainsFunc_int_int_impl_IsValidGame_1 (a0 : List Int) : Option Bool :=
(m_slices_IndexFunc_int_int_impl_IsValidGame_1 a0).bind fun v1 =>
some (decide (v1 ≥ 0))
theorem W19 (a0 : List Int) (r : Bool) (h : m_slices_ContainsFunc_int_int_impl_IsValidGame_1 a0 = some r) : AM.Spec Tryd.prog 48 [.list (.ints a0),.func 49 [] []] [] (.bool r) [] := by
 refine spec_of (E := E134) Tryd.func48 rfl rfl rfl rfl ?_
 refine Tri.f 1 [] [.keep [0,1] []] rfl trivial ?_
 obtain ⟨v1,hk1,h⟩ := bind_some h
 refine Tri.f 1 [.v (.i v1)] [.keep [4] []] rfl ⟨fun _ => W18 a0 v1 hk1,trivial⟩ ?_
 cases h
 exact Tri.ret rfl ⟨.inl rfl,rfl,rfl⟩
noncomputable def E135 : Env := ⟨Tryd.prog,tys,(Tryd.f24.body).getD .skip,27,tysOk,mixedOk⟩
abbrev K78 (r : Bool) (σ' : ASt) : Prop := isRes E135.T Tryd.f24 (.bool r) [] σ'
noncomputable def m_impl_IsValidGame (a0 : Int) (a1 : List Int) : Option Bool :=
(m_impl_within a0 (1 : Int) (5 : Int)).bind fun v1 =>
bif !v1 then
(some false)
else
(grd (0 ≤ a0) <|
bif (a1.length : Int) != (IntKind.i64.wrap ((1 : Int) * 2 ^ (min a0.toNat 64))) then
(some false)
else
(grd ((0 : Int) ≤ (0 : Int) ∧ (0 : Int) < (a1.length : Int)) <|
bif (a1.getD ((0 : Int).toNat) 0) != 0 then
(some false)
else
((m_slices_ContainsFunc_int_int_impl_IsValidGame_1 a1).bind fun v2 =>
some (!v2))))
theorem W20 (a0 : Int) (a1 : List Int) (r : Bool) (h : m_impl_IsValidGame a0 a1 = some r) : AM.Spec Tryd.prog 24 [.agg [.i a0,.list (.ints a1)]] [] (.bool r) [] := by
 refine spec_of (E := E135) Tryd.func24 rfl rfl rfl rfl ?_
 refine Tri.f 1 [] [.keep [1] [1]] rfl trivial ?_
 obtain ⟨v1,hk1,h⟩ := bind_some h
 rcases bif_some h with ⟨hd2,h⟩ | ⟨hd2,h⟩
 ·refine Tri.f 1 [.v (.bool v1),.g true,.g true] [.keep [1,22] [1]] rfl ⟨rfl,hd2,fun _ => W16 a0 (1 : Int) (5 : Int) v1 hk1,trivial⟩ ?_
  refine Tri.f 2 [.g true] [.keep [2] []] rfl ⟨rfl,trivial⟩ ?_
  cases h
  exact Tri.ret rfl ⟨.inl rfl,rfl,rfl⟩
 ·obtain ⟨hg3,h⟩ := grd_some h
  rcases bif_some h with ⟨hd4,h⟩ | ⟨hd4,h⟩
  ·refine Tri.f 1 [.v (.bool v1),.g false,.g true] [.keep [1,22] [1]] rfl ⟨hd4,hg3,hd2,fun _ => W16 a0 (1 : Int) (5 : Int) v1 hk1,trivial⟩ ?_
   refine Tri.f 2 [.g true] [.keep [2] []] rfl ⟨rfl,trivial⟩ ?_
   cases h
   exact Tri.ret rfl ⟨.inl rfl,rfl,rfl⟩
  ·obtain ⟨hg5,h⟩ := grd_some h
   refine Tri.f 1 [.v (.bool v1),.g false,.g false] [.keep [1,22] [1]] rfl ⟨hg5,hd4,hg3,hd2,fun _ => W16 a0 (1 : Int) (5 : Int) v1 hk1,trivial⟩ ?_
   rcases bif_some h with ⟨hd6,h⟩ | ⟨hd6,h⟩
   ·refine Tri.f 2 [.g true] [.keep [2] []] rfl ⟨hd6,trivial⟩ ?_
    cases h
    exact Tri.ret rfl ⟨.inl rfl,rfl,rfl⟩
   ·obtain ⟨v2,hk7,h⟩ := bind_some h
    refine Tri.f 2 [.g false,.v (.bool v2)] [.keep [2] []] rfl ⟨fun _ => W19 a1 v2 hk7,hd6,trivial⟩ ?_
    cases h
    exact Tri.ret rfl ⟨.inl rfl,rfl,rfl⟩
def Tryd.itoaL_ren : Go.Shelf.Ren := ⟨fun | 171 => 50 | 243 => 67 | 246 => 73 | 283 => 75 | 284 => 76 | 285 => 77 | 286 => 78 | 129 => 80 | 317 => 79 | 318 => 81 | 319 => 82 | 320 => 83 | 337 => 84 | 338 => 85 | n => n,fun | 3 => 3 | 9 => 9 | 2 => 2 | 4 => 4 | 171 => 80 | 0 => 0 | 53 => 81 | 37 => 35 | 5 => 5 | 173 => 84 | 212 => 86 | 51 => 87 | 20 => 20 | 213 => 88 | 46 => 79 | 232 => 91 | 233 => 92 | n => n,fun | 17 => 0 | 18 => 1 | 19 => 2 | n => n⟩
theorem Tryd.itoaL : Go.Proofs.LaysM.n171 Tryd.prog Tryd.itoaL_ren where
 mixed := by kernel_rfl
 f129 := Tryd.func80.trans (congrArg some (by kernel_rfl))
 f171 := Tryd.func50.trans (congrArg some (by kernel_rfl))
 f243 := Tryd.func67.trans (congrArg some (by kernel_rfl))
 f246 := Tryd.func73.trans (congrArg some (by kernel_rfl))
 f283 := Tryd.func75.trans (congrArg some (by kernel_rfl))
 f284 := Tryd.func76.trans (congrArg some (by kernel_rfl))
 f285 := Tryd.func77.trans (congrArg some (by kernel_rfl))
 f286 := Tryd.func78.trans (congrArg some (by kernel_rfl))
 f317 := Tryd.func79.trans (congrArg some (by kernel_rfl))
 f318 := Tryd.func81.trans (congrArg some (by kernel_rfl))
 f319 := Tryd.func82.trans (congrArg some (by kernel_rfl))
 f320 := Tryd.func83.trans (congrArg some (by kernel_rfl))
 f337 := Tryd.func84.trans (congrArg some (by kernel_rfl))
 f338 := Tryd.func85.trans (congrArg some (by kernel_rfl))
 t0 := Tryd.underlying0
 a0 := Tryd.isAgg0
 z0 := Tryd.sizeOf0
 v0 := Tryd.zeroValue0
 t2 := Tryd.underlying2
 a2 := Tryd.isAgg2
 z2 := Tryd.sizeOf2
 v2 := Tryd.zeroValue2
 t3 := Tryd.underlying3
 a3 := Tryd.isAgg3
 z3 := Tryd.sizeOf3
 v3 := Tryd.zeroValue3
 t4 := Tryd.underlying4
 a4 := Tryd.isAgg4
 z4 := Tryd.sizeOf4
 v4 := Tryd.zeroValue4
 t5 := Tryd.underlying5
 a5 := Tryd.isAgg5
 z5 := Tryd.sizeOf5
 v5 := Tryd.zeroValue5
 t9 := Tryd.underlying9
 a9 := Tryd.isAgg9
 z9 := Tryd.sizeOf9
 v9 := Tryd.zeroValue9
 t20 := Tryd.underlying20
 a20 := Tryd.isAgg20
 z20 := Tryd.sizeOf20
 v20 := Tryd.zeroValue20
 t37 := Tryd.underlying35
 a37 := Tryd.isAgg35
 z37 := Tryd.sizeOf35
 v37 := Tryd.zeroValue35
 t46 := Tryd.underlying79
 a46 := Tryd.isAgg79
 z46 := Tryd.sizeOf79
 v46 := Tryd.zeroValue79
 t51 := Tryd.underlying87
 a51 := Tryd.isAgg87
 z51 := Tryd.sizeOf87
 v51 := Tryd.zeroValue87
 t53 := Tryd.underlying81
 a53 := Tryd.isAgg81
 z53 := Tryd.sizeOf81
 v53 := Tryd.zeroValue81
 t171 := Tryd.underlying80
 a171 := Tryd.isAgg80
 z171 := Tryd.sizeOf80
 v171 := Tryd.zeroValue80
 t173 := Tryd.underlying84
 a173 := Tryd.isAgg84
 z173 := Tryd.sizeOf84
 v173 := Tryd.zeroValue84
 t212 := Tryd.underlying86
 a212 := Tryd.isAgg86
 z212 := Tryd.sizeOf86
 v212 := Tryd.zeroValue86
 t213 := Tryd.underlying88
 a213 := Tryd.isAgg88
 z213 := Tryd.sizeOf88
 t232 := Tryd.underlying91
 a232 := Tryd.isAgg91
 z232 := Tryd.sizeOf91
 v232 := Tryd.zeroValue91
 t233 := Tryd.underlying92
 a233 := Tryd.isAgg92
 z233 := Tryd.sizeOf92
 v233 := Tryd.zeroValue92
 g17 := by kernel_rfl
 g18 := by kernel_rfl
 g19 := by kernel_rfl
 i0 := by kernel_rfl
 i2 := by kernel_rfl
 i3 := by kernel_rfl
 i4 := by kernel_rfl
 i5 := by kernel_rfl
 i9 := by kernel_rfl
 i20 := by kernel_rfl
 i37 := by kernel_rfl
 i46 := by kernel_rfl
 i51 := by kernel_rfl
 i53 := by kernel_rfl
 i171 := by kernel_rfl
 i173 := by kernel_rfl
 i212 := by kernel_rfl
 i232 := by kernel_rfl
 i233 := by kernel_rfl
 m17 := by kernel_rfl
 m18 := by kernel_rfl
 m19 := by kernel_rfl
noncomputable def m_strconv_Itoa (a0 : Int) : Option (List UInt8) :=
grd (-9223372036854775808 ≤ a0 ∧ a0 ≤ 9223372036854775807) <|
some (Lib.itoa a0)
theorem W21 (a0 : Int) (r : List UInt8) (h : m_strconv_Itoa a0 = some r) : AM.Spec Tryd.prog 50 [.i a0] [] (.str r) [] := by
 obtain ⟨⟨h1,h2⟩,h⟩ := grd_some h
 cases h
 exact spec_itoa (P := Tryd.prog) (f := 50) ⟨_,Tryd.func50,by decide,rfl⟩ (show Tryd.prog.globalNamed tabName = some 0 by kernel_rfl) (fun w ht => Any.strconv_Itoa Tryd.itoaL a0 h1 h2 w ht)
noncomputable def E136 : Env := ⟨Tryd.prog,tys,(Tryd.f25.body).getD .skip,5,tysOk,mixedOk⟩
abbrev K79 (r : List UInt8) (σ' : ASt) : Prop := isRes E136.T Tryd.f25 (.str r) [] σ'
noncomputable def m_impl_FormatInt (a0 : Int) : Option (List UInt8) :=
(m_strconv_Itoa a0).bind fun v1 =>
some v1
theorem W22 (a0 : Int) (r : List UInt8) (h : m_impl_FormatInt a0 = some r) : AM.Spec Tryd.prog 25 [.i a0] [] (.str r) [] := by
 refine spec_of (E := E136) Tryd.func25 rfl rfl rfl rfl ?_
 refine Tri.f 1 [] [.keep [0] []] rfl trivial ?_
 obtain ⟨v1,hk1,h⟩ := bind_some h
 refine Tri.f 1 [.v (.str v1)] [.keep [2] []] rfl ⟨fun _ => W21 a0 v1 hk1,trivial⟩ ?_
 cases h
 exact Tri.ret rfl ⟨.inl rfl,rfl,rfl⟩
noncomputable def E137 : Env := ⟨Tryd.prog,tys,(Tryd.f68.body).getD .skip,18,tysOk,mixedOk⟩
abbrev K80 (r : Bool) (σ' : ASt) : Prop := isRes E137.T Tryd.f68 (.bool r) [] σ'
noncomputable def m_impl_HasPlayer (a0 a1 : Int) : Option Bool :=
bif decide (a0 ≥ 0) then
((m_impl_within a1 (0 : Int) (4 : Int)).bind fun v1 =>
bif v1 then
(grd (0 ≤ a1) <|
some ((bitsOf .and .i64 (a0.fdiv (2 ^ (min a1.toNat 64))) (1 : Int)) == 1))
else
(some false))
else
(some false)
theorem W23 (a0 a1 : Int) (r : Bool) (h : m_impl_HasPlayer a0 a1 = some r) : AM.Spec Tryd.prog 68 [.i a0,.i a1] [] (.bool r) [] := by
 refine spec_of (E := E137) Tryd.func68 rfl rfl rfl rfl ?_
 refine Tri.f 1 [] [.keep [0,1] []] rfl trivial ?_
 rcases bif_some h with ⟨hd1,h⟩ | ⟨hd1,h⟩
 ·obtain ⟨v1,hk2,h⟩ := bind_some h
  rcases bif_some h with ⟨hd3,h⟩ | ⟨hd3,h⟩
  ·obtain ⟨hg4,h⟩ := grd_some h
   refine Tri.f 1 [.g true,.v (.bool v1),.g true] [.keep [4] []] rfl ⟨hg4,hd3,fun _ => W16 a1 (0 : Int) (4 : Int) v1 hk2,hd1,trivial⟩ ?_
   cases h
   exact Tri.ret rfl ⟨.inl rfl,rfl,rfl⟩
  ·refine Tri.f 1 [.g true,.v (.bool v1),.g false] [.keep [4] []] rfl ⟨hd3,fun _ => W16 a1 (0 : Int) (4 : Int) v1 hk2,hd1,trivial⟩ ?_
   cases h
   exact Tri.ret rfl ⟨.inl rfl,rfl,rfl⟩
 ·refine Tri.f 1 [.g false,.g false] [.keep [4] []] rfl ⟨rfl,hd1,trivial⟩ ?_
  cases h
  exact Tri.ret rfl ⟨.inl rfl,rfl,rfl⟩
noncomputable def E138 : Env := ⟨Tryd.prog,tys,(Tryd.f51.body).getD .skip,21,tysOk,mixedOk⟩
abbrev K81 (r : List Int) (σ' : ASt) : Prop := isRes E138.T Tryd.f51 (.sl 1000 0) [(1000,.arr 3 0 0 (.ints r))] σ'
noncomputable def l_impl_MembersOf_0 (a0 : Int) : (Int × (List Int)) → Option ((Int × (List Int)) ⊕ ((List Int)))
 | (v2,v3) => (
bif decide (v2 < 5) then
((m_impl_HasPlayer a0 v2).bind fun v4 =>
bif v4 then
(grd (v3.length + ([v2] : List Int).length ≤ room) <|
some (.inl (IntKind.i64.wrap (v2 + 1),v3 ++ [v2])))
else
(some (.inl (IntKind.i64.wrap (v2 + 1),v3))))
else
(some (.inr v3)))
noncomputable def m_impl_MembersOf (a0 : Int) : Option (List Int) :=
(m_impl_within a0 (0 : Int) (31 : Int)).bind fun v1 =>
bif !v1 then
(some [])
else
((iter (l_impl_MembersOf_0 a0) ((0 : Int),[])).bind fun
| v5 => (
some v5))
theorem W24 (a0 : Int) (r : List Int) (h : m_impl_MembersOf a0 = some r) : AM.Spec Tryd.prog 51 [.i a0] [] (.sl 1000 0) [(1000,.arr 3 0 0 (.ints r))] := by
 refine spec_of (E := E138) Tryd.func51 rfl rfl rfl rfl ?_
 refine Tri.f 1 [] [.keep [0] []] rfl trivial ?_
 obtain ⟨v1,hk1,h⟩ := bind_some h
 refine Tri.f 1 [.v (.bool v1)] [.keep [0,7] []] rfl ⟨fun _ => W16 a0 (0 : Int) (31 : Int) v1 hk1,trivial⟩ ?_
 rcases bif_some h with ⟨hd2,h⟩ | ⟨hd2,h⟩
 ·refine Tri.f 2 [.g true] [.own 2 [] 1100 3,.swap 1100 1000,.keep [2] [1000]] rfl ⟨hd2,trivial⟩ ?_
  cases h
  exact Tri.ret rfl ⟨.inl rfl,rfl,rfl⟩
 ·refine Tri.f 3 [.g false] [.keep [0,3,9] [8]] rfl ⟨hd2,trivial⟩ ?_
  obtain ⟨v5,hk7,h⟩ := bind_some h
  refine Tri.loop (K1 := [.code [(3,0),(1,0),(0,0)] 0]) (K2 := [.blk 0,.code [] 4]) (fun (v2,v3) => ⟨[(0,.i a0),(3,.sl 8 0),(9,.i v2)],[(8,.arr 3 0 0 (.ints v3))]⟩) (fun x e σ' => match x with | v5 => e = .exit 0 ∧ σ' = ⟨[(3,.sl 8 0)],[(8,.arr 3 0 0 (.ints v5))]⟩) hk7 rfl rfl ?_ ?_
  ·intro s x hs
   clear h
   have h := hs
   clear hs
   obtain ⟨v2,v3⟩ := s
   refine Tri.f 1 [] [.keep [0,3,9,10] [8]] rfl trivial ?_
   rcases bif_some h with ⟨hd3,h⟩ | ⟨hd3,h⟩
   ·refine Tri.f 2 [.g true] [.keep [0,3,4,9] [8]] rfl ⟨hd3,trivial⟩ ?_
    obtain ⟨v4,hk4,h⟩ := bind_some h
    refine Tri.f 1 [.v (.bool v4)] [.keep [0,3,4,9,14] [8]] rfl ⟨fun _ => W23 a0 v2 v4 hk4,trivial⟩ ?_
    rcases bif_some h with ⟨hd5,h⟩ | ⟨hd5,h⟩
    ·obtain ⟨hg6,h⟩ := grd_some h
     refine Tri.f 3 [.g true] [.rever 8,.keep [0,3,9] [8]] rfl ⟨hg6,hd5,trivial⟩ ?_
     cases h
     exact Tri.nil ⟨rfl,rfl⟩
    ·refine Tri.f 2 [.g false] [.keep [0,3,9] [8]] rfl ⟨hd5,trivial⟩ ?_
     cases h
     exact Tri.nil ⟨rfl,rfl⟩
   ·refine Tri.f 1 [.g false] [.keep [3] [8]] rfl ⟨hd3,trivial⟩ ?_
    cases h
    exact Tri.out 0 rfl ⟨nofun,rfl,rfl⟩
  ·intro e σ' hne hq
   obtain ⟨rfl,rfl⟩ := hq
   refine TriX.exit (K' := [.code [] 4]) rfl ?_
   refine Tri.f 1 [] [.swap 8 1000,.keep [2] [1000]] rfl trivial ?_
   cases h
   exact Tri.ret rfl ⟨.inl rfl,rfl,rfl⟩
noncomputable def E139 : Env := ⟨Tryd.prog,tys,(Tryd.f26.body).getD .skip,27,tysOk,mixedOk⟩
abbrev K82 (r : List UInt8) (σ' : ASt) : Prop := isRes E139.T Tryd.f26 (.str r) [] σ'
noncomputable def l_impl_FormatCoalition_0 (v2 : List Int) : ((List UInt8) × Int) → Option (((List UInt8) × Int) ⊕ ((List UInt8)))
 | (v3,v4) => (
bif decide (v4 < (v2.length : Int)) then
(grd (0 ≤ v4 ∧ v4 < (v2.length : Int)) <|
grd (0 ≤ IntKind.u8.wrap (IntKind.i64.wrap ((97 : Int) + (v2.getD v4.toNat 0))) ∧ IntKind.u8.wrap (IntKind.i64.wrap ((97 : Int) + (v2.getD v4.toNat 0))) < 256) <|
grd (((v3.length + [UInt8.ofNat (IntKind.u8.wrap (IntKind.i64.wrap ((97 : Int) + (v2.getD v4.toNat 0)))).toNat].length : Nat) : Int) ≤ 9223372036854775807) <|
some (.inl (v3 ++ [UInt8.ofNat (IntKind.u8.wrap (IntKind.i64.wrap ((97 : Int) + (v2.getD v4.toNat 0)))).toNat],IntKind.i64.wrap (v4 + 1))))
else
(some (.inr v3)))
noncomputable def m_impl_FormatCoalition (a0 : Int) : Option (List UInt8) :=
(m_impl_within a0 (0 : Int) (31 : Int)).bind fun v1 =>
bif !v1 then
(some [])
else
((m_impl_MembersOf a0).bind fun v2 =>
(iter (l_impl_FormatCoalition_0 v2) ([],(0 : Int))).bind fun
| v5 => (
bif v5 == [] then
(some ([45] : List UInt8))
else
(some v5)))
theorem W25 (a0 : Int) (r : List UInt8) (h : m_impl_FormatCoalition a0 = some r) : AM.Spec Tryd.prog 26 [.i a0] [] (.str r) [] := by
 refine spec_of (E := E139) Tryd.func26 rfl rfl rfl rfl ?_
 refine Tri.f 1 [] [.keep [0] []] rfl trivial ?_
 obtain ⟨v1,hk1,h⟩ := bind_some h
 refine Tri.f 1 [.v (.bool v1)] [.keep [0,8] []] rfl ⟨fun _ => W16 a0 (0 : Int) (31 : Int) v1 hk1,trivial⟩ ?_
 rcases bif_some h with ⟨hd2,h⟩ | ⟨hd2,h⟩
 ·refine Tri.f 2 [.g true] [.keep [2] []] rfl ⟨hd2,trivial⟩ ?_
  cases h
  exact Tri.ret rfl ⟨.inl rfl,rfl,rfl⟩
 ·refine Tri.f 2 [.g false] [.keep [0,3] []] rfl ⟨hd2,trivial⟩ ?_
  obtain ⟨v2,hk3,h⟩ := bind_some h
  refine Tri.f 1 [.r ⟨[],.sl 1100 0,[(1100,.arr 3 0 0 (.ints v2))]⟩] [.keep [3,10,11,12] [1100]] rfl ⟨fun _ => (W24 a0 v2 hk3).swap 1000 1100,trivial⟩ ?_
  obtain ⟨v5,hk8,h⟩ := bind_some h
  refine Tri.loop (K1 := [.code [(3,0),(1,0),(0,0)] 0]) (K2 := [.blk 0,.code [] 4]) (fun (v3,v4) => ⟨[(3,.str v3),(10,.sl 1100 0),(11,.i (v2.length : Int)),(12,.i v4)],[(1100,.arr 3 0 0 (.ints v2))]⟩) (fun x e σ' => match x with | v5 => e = .exit 0 ∧ σ' = ⟨[(3,.str v5)],[]⟩) hk8 rfl rfl ?_ ?_
  ·intro s x hs
   clear h
   have h := hs
   clear hs
   obtain ⟨v3,v4⟩ := s
   refine Tri.f 1 [] [.keep [3,10,11,12,13] [1100]] rfl trivial ?_
   rcases bif_some h with ⟨hd4,h⟩ | ⟨hd4,h⟩
   ·obtain ⟨hg5,h⟩ := grd_some h
    obtain ⟨hg6,h⟩ := grd_some h
    obtain ⟨hg7,h⟩ := grd_some h
    refine Tri.f 3 [.g true] [.keep [3,10,11,12] [1100]] rfl ⟨hg7,hg6,hg5,hd4,trivial⟩ ?_
    refine Tri.f 1 [] [.keep [3,10,11,12] [1100]] rfl trivial ?_
    cases h
    exact Tri.nil ⟨rfl,rfl⟩
   ·refine Tri.f 1 [.g false] [.keep [3] []] rfl ⟨hd4,trivial⟩ ?_
    cases h
    exact Tri.out 0 rfl ⟨nofun,rfl,rfl⟩
  ·intro e σ' hne hq
   obtain ⟨rfl,rfl⟩ := hq
   refine TriX.exit (K' := [.code [] 4]) rfl ?_
   refine Tri.f 1 [] [.keep [3,25] []] rfl trivial ?_
   rcases bif_some h with ⟨hd9,h⟩ | ⟨hd9,h⟩
   ·refine Tri.f 2 [.g true] [.keep [2] []] rfl ⟨hd9,trivial⟩ ?_
    cases h
    exact Tri.ret rfl ⟨.inl rfl,rfl,rfl⟩
   ·refine Tri.f 2 [.g false] [.keep [2] []] rfl ⟨hd9,trivial⟩ ?_
    cases h
    exact Tri.ret rfl ⟨.inl rfl,rfl,rfl⟩
noncomputable def E140 : Env := ⟨Tryd.prog,tys,(Tryd.f9.body).getD .skip,35,tysOk,mixedOk⟩
abbrev K83 (r : List UInt8) (σ' : ASt) : Prop := isRes E140.T Tryd.f9 (.str r) [] σ'
noncomputable def l_impl_FormatGame_0 (a1 : List Int) : ((List UInt8) × Int) → Option (((List UInt8) × Int) ⊕ ((List UInt8)))
 | (v3,v4) => (
bif decide (v4 < (a1.length : Int)) then
(grd (0 ≤ v4 ∧ v4 < (a1.length : Int)) <|
bif (a1.getD v4.toNat 0) != 0 then
((m_impl_FormatCoalition v4).bind fun v5 =>
grd (((v5.length + ([32] : List UInt8).length : Nat) : Int) ≤ 9223372036854775807) <|
(m_impl_FormatInt (a1.getD v4.toNat 0)).bind fun v6 =>
grd ((((v5 ++ ([32] : List UInt8)).length + v6.length : Nat) : Int) ≤ 9223372036854775807) <|
grd (((((v5 ++ ([32] : List UInt8)) ++ v6).length + ([10] : List UInt8).length : Nat) : Int) ≤ 9223372036854775807) <|
grd (((v3.length + (((v5 ++ ([32] : List UInt8)) ++ v6) ++ ([10] : List UInt8)).length : Nat) : Int) ≤ 9223372036854775807) <|
some (.inl (v3 ++ (((v5 ++ ([32] : List UInt8)) ++ v6) ++ ([10] : List UInt8)),IntKind.i64.wrap (v4 + 1))))
else
(some (.inl (v3,IntKind.i64.wrap (v4 + 1)))))
else
(some (.inr v3)))
noncomputable def m_impl_FormatGame (a0 : Int) (a1 : List Int) : Option (List UInt8) :=
(m_impl_IsValidGame a0 a1).bind fun v1 =>
bif !v1 then
(some [])
else
((m_impl_FormatInt a0).bind fun v2 =>
grd (((([112,108,97,121,101,114,115,32] : List UInt8).length + v2.length : Nat) : Int) ≤ 9223372036854775807) <|
grd ((((([112,108,97,121,101,114,115,32] : List UInt8) ++ v2).length + ([10] : List UInt8).length : Nat) : Int) ≤ 9223372036854775807) <|
(iter (l_impl_FormatGame_0 a1) ((([112,108,97,121,101,114,115,32] : List UInt8) ++ v2) ++ ([10] : List UInt8),(0 : Int))).bind fun
| v7 => (
some v7))
theorem W26 (a0 : Int) (a1 : List Int) (r : List UInt8) (h : m_impl_FormatGame a0 a1 = some r) : AM.Spec Tryd.prog 9 [.agg [.i a0,.list (.ints a1)]] [] (.str r) [] := by
 refine spec_of (E := E140) Tryd.func9 rfl rfl rfl rfl ?_
 refine Tri.f 1 [] [.keep [1] [1]] rfl trivial ?_
 obtain ⟨v1,hk1,h⟩ := bind_some h
 refine Tri.f 1 [.v (.bool v1)] [.keep [1,8] [1]] rfl ⟨fun _ => W20 a0 a1 v1 hk1,trivial⟩ ?_
 rcases bif_some h with ⟨hd2,h⟩ | ⟨hd2,h⟩
 ·refine Tri.f 2 [.g true] [.keep [2] []] rfl ⟨hd2,trivial⟩ ?_
  cases h
  exact Tri.ret rfl ⟨.inl rfl,rfl,rfl⟩
 ·obtain ⟨v2,hk3,h⟩ := bind_some h
  obtain ⟨hg4,h⟩ := grd_some h
  obtain ⟨hg5,h⟩ := grd_some h
  refine Tri.f 3 [.g false,.v (.str v2)] [.keep [3,15,16,17] []] rfl ⟨hg5,hg4,fun _ => W22 a0 v2 hk3,hd2,trivial⟩ ?_
  obtain ⟨v7,hk15,h⟩ := bind_some h
  refine Tri.loop (K1 := [.code [(3,0),(1,0),(0,0)] 0]) (K2 := [.blk 0,.code [] 4]) (fun (v3,v4) => ⟨[(3,.str v3),(15,.list (.ints a1)),(16,.i (a1.length : Int)),(17,.i v4)],[]⟩) (fun x e σ' => match x with | v7 => e = .exit 0 ∧ σ' = ⟨[(3,.str v7)],[]⟩) hk15 rfl rfl ?_ ?_
  ·intro s x hs
   clear h
   have h := hs
   clear hs
   obtain ⟨v3,v4⟩ := s
   refine Tri.f 1 [] [.keep [3,15,16,17,18] []] rfl trivial ?_
   rcases bif_some h with ⟨hd6,h⟩ | ⟨hd6,h⟩
   ·obtain ⟨hg7,h⟩ := grd_some h
    refine Tri.f 3 [.g true] [.keep [3,4,5,15,16,17,23] []] rfl ⟨hg7,hd6,trivial⟩ ?_
    rcases bif_some h with ⟨hd8,h⟩ | ⟨hd8,h⟩
    ·obtain ⟨v5,hk9,h⟩ := bind_some h
     obtain ⟨hg10,h⟩ := grd_some h
     obtain ⟨v6,hk11,h⟩ := bind_some h
     obtain ⟨hg12,h⟩ := grd_some h
     obtain ⟨hg13,h⟩ := grd_some h
     obtain ⟨hg14,h⟩ := grd_some h
     refine Tri.f 3 [.g true,.v (.str v5),.v (.str v6)] [.keep [3,15,16,17] []] rfl ⟨hg14,hg13,hg12,fun _ => W22 (a1.getD v4.toNat 0) v6 hk11,hg10,fun _ => W25 v4 v5 hk9,hd8,trivial⟩ ?_
     cases h
     exact Tri.nil ⟨rfl,rfl⟩
    ·refine Tri.f 2 [.g false] [.keep [3,15,16,17] []] rfl ⟨hd8,trivial⟩ ?_
     cases h
     exact Tri.nil ⟨rfl,rfl⟩
   ·refine Tri.f 1 [.g false] [.keep [3] []] rfl ⟨hd6,trivial⟩ ?_
    cases h
    exact Tri.out 0 rfl ⟨nofun,rfl,rfl⟩
  ·intro e σ' hne hq
   obtain ⟨rfl,rfl⟩ := hq
   refine TriX.exit (K' := [.code [] 4]) rfl ?_
   refine Tri.f 1 [] [.keep [2] []] rfl trivial ?_
   cases h
   exact Tri.ret rfl ⟨.inl rfl,rfl,rfl⟩
noncomputable def E141 : Env := ⟨Tryd.prog,tys,(Tryd.f31.body).getD .skip,35,tysOk,mixedOk⟩
abbrev K84 (r : List (List UInt8)) (σ' : ASt) : Prop := isRes E141.T Tryd.f31 (.sl 1000 0) [(1000,.arr 9 0 0 (.strs r))] σ'
noncomputable def l_impl_SplitByte_0 (a0 : List UInt8) (a1 : Int) : (Int × Int × (List (List UInt8))) → Option ((Int × Int × (List (List UInt8))) ⊕ ((Int × (List (List UInt8)))))
 | (v1,v2,v3) => (
bif decide (v2 < (a0.length : Int)) then
(grd (0 ≤ v2 ∧ v2 < (a0.length : Int)) <|
bif ((a0.getD v2.toNat 0).toNat : Int) == a1 then
(grd (0 ≤ v1 ∧ v1 ≤ v2 ∧ v2 ≤ (a0.length : Int)) <|
grd (v3.length + ([(a0.drop v1.toNat).take (v2.toNat - v1.toNat)] : List (List UInt8)).length ≤ room) <|
some (.inl (IntKind.i64.wrap (v2 + 1),IntKind.i64.wrap (v2 + 1),v3 ++ [(a0.drop v1.toNat).take (v2.toNat - v1.toNat)])))
else
(some (.inl (v1,IntKind.i64.wrap (v2 + 1),v3))))
else
(some (.inr (v1,v3))))
noncomputable def m_impl_SplitByte (a0 : List UInt8) (a1 : Int) : Option (List (List UInt8)) :=
(iter (l_impl_SplitByte_0 a0 a1) ((0 : Int),(0 : Int),[])).bind fun
| (v4,v5) => (
grd (0 ≤ v4 ∧ v4 ≤ (a0.length : Int)) <|
grd (v5.length + ([a0.drop v4.toNat] : List (List UInt8)).length ≤ room) <|
some (v5 ++ [a0.drop v4.toNat]))
theorem W27 (a0 : List UInt8) (a1 : Int) (r : List (List UInt8)) (h : m_impl_SplitByte a0 a1 = some r) : AM.Spec Tryd.prog 31 [.str a0,.int .u8 a1] [] (.sl 1000 0) [(1000,.arr 9 0 0 (.strs r))] := by
 refine spec_of (E := E141) Tryd.func31 rfl rfl rfl rfl ?_
 refine Tri.f 3 [] [.keep [0,1,5,6] [8]] rfl trivial ?_
 refine Tri.f 1 [] [.keep [0,1,5,6,7] [8]] rfl trivial ?_
 obtain ⟨x1,hk6,h⟩ := bind_some h
 refine Tri.loop (K1 := [.code [(3,0),(1,0),(0,0)] 0]) (K2 := [.blk 0,.code [] 4]) (fun (v1,v2,v3) => ⟨[(0,.str a0),(1,.int .u8 a1),(5,.sl 8 0),(6,.i v1),(7,.i v2)],[(8,.arr 9 0 0 (.strs v3))]⟩) (fun x e σ' => match x with | (v4,v5) => e = .exit 0 ∧ σ' = ⟨[(0,.str a0),(5,.sl 8 0),(6,.i v4)],[(8,.arr 9 0 0 (.strs v5))]⟩) hk6 rfl rfl ?_ ?_
 ·intro s x hs
  clear h
  have h := hs
  clear hs
  obtain ⟨v1,v2,v3⟩ := s
  refine Tri.f 1 [] [.keep [0,1,5,6,7,12] [8]] rfl trivial ?_
  rcases bif_some h with ⟨hd1,h⟩ | ⟨hd1,h⟩
  ·obtain ⟨hg2,h⟩ := grd_some h
   refine Tri.f 2 [.g true] [.keep [0,1,5,6,7,19] [8]] rfl ⟨hg2,hd1,trivial⟩ ?_
   rcases bif_some h with ⟨hd3,h⟩ | ⟨hd3,h⟩
   ·obtain ⟨hg4,h⟩ := grd_some h
    obtain ⟨hg5,h⟩ := grd_some h
    refine Tri.f 3 [.g true] [.keep [0,1,5,6,7] [8]] rfl ⟨hg5,hg4,hd3,trivial⟩ ?_
    refine Tri.f 1 [] [.rever 8,.keep [0,1,5,6,7] [8]] rfl trivial ?_
    cases h
    exact Tri.nil ⟨rfl,rfl⟩
   ·refine Tri.f 2 [.g false] [.keep [0,1,5,6,7] [8]] rfl ⟨hd3,trivial⟩ ?_
    cases h
    exact Tri.nil ⟨rfl,rfl⟩
  ·refine Tri.f 1 [.g false] [.keep [0,5,6] [8]] rfl ⟨hd1,trivial⟩ ?_
   cases h
   exact Tri.out 0 rfl ⟨nofun,rfl,rfl⟩
 ·intro e σ' hne hq
  obtain ⟨v4,v5⟩ := x1
  obtain ⟨rfl,rfl⟩ := hq
  refine TriX.exit (K' := [.code [] 4]) rfl ?_
  obtain ⟨hg7,h⟩ := grd_some h
  obtain ⟨hg8,h⟩ := grd_some h
  refine Tri.f 1 [] [.rever 8,.swap 8 1000,.keep [4] [1000]] rfl ⟨hg8,hg7,trivial⟩ ?_
  cases h
  exact Tri.ret rfl ⟨.inl rfl,rfl,rfl⟩
noncomputable def E142 : Env := ⟨Tryd.prog,tys,(Tryd.f74.body).getD .skip,18,tysOk,mixedOk⟩
abbrev K85 (r : Bool) (σ' : ASt) : Prop := isRes E142.T Tryd.f74 (.bool r) [] σ'
noncomputable def m_stringslite_HasPrefix (a0 a1 : List UInt8) : Option Bool :=
bif decide ((a0.length : Int) ≥ (a1.length : Int)) then
(grd ((0 : Int) ≤ (a1.length : Int) ∧ (a1.length : Int) ≤ (a0.length : Int)) <|
some ((a0.take (a1.length : Int).toNat) == a1))
else
(some false)
theorem W28 (a0 a1 : List UInt8) (r : Bool) (h : m_stringslite_HasPrefix a0 a1 = some r) : AM.Spec Tryd.prog 74 [.str a0,.str a1] [] (.bool r) [] := by
 refine spec_of (E := E142) Tryd.func74 rfl rfl rfl rfl ?_
 refine Tri.f 1 [] [.keep [0,1] []] rfl trivial ?_
 rcases bif_some h with ⟨hd1,h⟩ | ⟨hd1,h⟩
 ·obtain ⟨hg2,h⟩ := grd_some h
  refine Tri.f 1 [.g true] [.keep [4] []] rfl ⟨hg2,hd1,trivial⟩ ?_
  cases h
  exact Tri.ret rfl ⟨.inl rfl,rfl,rfl⟩
 ·refine Tri.f 1 [.g false] [.keep [4] []] rfl ⟨hd1,trivial⟩ ?_
  cases h
  exact Tri.ret rfl ⟨.inl rfl,rfl,rfl⟩
noncomputable def E143 : Env := ⟨Tryd.prog,tys,(Tryd.f70.body).getD .skip,15,tysOk,mixedOk⟩
abbrev K86 (r : (List UInt8) × Bool) (σ' : ASt) : Prop := isRes E143.T Tryd.f70 (.tuple [.str r.1,.bool r.2]) [] σ'
noncomputable def m_stringslite_CutPrefix (a0 a1 : List UInt8) : Option ((List UInt8) × Bool) :=
(m_stringslite_HasPrefix a0 a1).bind fun v1 =>
bif !v1 then
(some (a0,false))
else
(grd ((0 : Int) ≤ (a1.length : Int) ∧ (a1.length : Int) ≤ (a0.length : Int)) <|
some (a0.drop (a1.length : Int).toNat,true))
theorem W29 (a0 a1 : List UInt8) (r : (List UInt8) × Bool) (h : m_stringslite_CutPrefix a0 a1 = some r) : AM.Spec Tryd.prog 70 [.str a0,.str a1] [] (.tuple [.str r.1,.bool r.2]) [] := by
 refine spec_of (E := E143) Tryd.func70 rfl rfl rfl rfl ?_
 refine Tri.f 1 [] [.keep [0,1] []] rfl trivial ?_
 obtain ⟨v1,hk1,h⟩ := bind_some h
 refine Tri.f 1 [.v (.bool v1)] [.keep [0,1,9] []] rfl ⟨fun _ => W28 a0 a1 v1 hk1,trivial⟩ ?_
 rcases bif_some h with ⟨hd2,h⟩ | ⟨hd2,h⟩
 ·refine Tri.f 2 [.g true] [.keep [4,5] []] rfl ⟨hd2,trivial⟩ ?_
  cases h
  exact Tri.ret rfl ⟨.inl rfl,rfl,rfl⟩
 ·obtain ⟨hg3,h⟩ := grd_some h
  refine Tri.f 2 [.g false] [.keep [4,5] []] rfl ⟨hg3,hd2,trivial⟩ ?_
  cases h
  exact Tri.ret rfl ⟨.inl rfl,rfl,rfl⟩
noncomputable def E144 : Env := ⟨Tryd.prog,tys,(Tryd.f55.body).getD .skip,11,tysOk,mixedOk⟩
abbrev K87 (r : (List UInt8) × Bool) (σ' : ASt) : Prop := isRes E144.T Tryd.f55 (.tuple [.str r.1,.bool r.2]) [] σ'
noncomputable def m_strings_CutPrefix (a0 a1 : List UInt8) : Option ((List UInt8) × Bool) :=
(m_stringslite_CutPrefix a0 a1).bind fun (v1,v2) =>
some (v1,v2)
theorem W30 (a0 a1 : List UInt8) (r : (List UInt8) × Bool) (h : m_strings_CutPrefix a0 a1 = some r) : AM.Spec Tryd.prog 55 [.str a0,.str a1] [] (.tuple [.str r.1,.bool r.2]) [] := by
 refine spec_of (E := E144) Tryd.func55 rfl rfl rfl rfl ?_
 refine Tri.f 1 [] [.keep [0,1] []] rfl trivial ?_
 obtain ⟨⟨v1,v2⟩,hk1,h⟩ := bind_some h
 refine Tri.f 1 [.v (.tuple [.str v1,.bool v2])] [.keep [4,5] []] rfl ⟨fun _ => W29 a0 a1 (v1,v2) hk1,trivial⟩ ?_
 cases h
 exact Tri.ret rfl ⟨.inl rfl,rfl,rfl⟩
noncomputable def E145 : Env := ⟨Tryd.prog,tys,(Tryd.f58.body).getD .skip,51,tysOk,mixedOk⟩
abbrev K88 (r : Int) (σ' : ASt) : Prop := isRes E145.T Tryd.f58 (.i r) [] σ'
noncomputable def l_impl_readDigits_0 (a0 : List UInt8) : (Int × Int) → Option ((Int × Int) ⊕ (Int ⊕ Int))
 | (v1,v2) => (
bif decide (v2 < (a0.length : Int)) then
(grd (0 ≤ v2 ∧ v2 < (a0.length : Int)) <|
bif decide (((a0.getD v2.toNat 0).toNat : Int) < 48) then
(some (.inr (.inr (-1 : Int))))
else
(grd (0 ≤ v2 ∧ v2 < (a0.length : Int)) <|
bif decide (((a0.getD v2.toNat 0).toNat : Int) > 57) then
(some (.inr (.inr (-1 : Int))))
else
(grd (0 ≤ v2 ∧ v2 < (a0.length : Int)) <|
some (.inl (IntKind.i64.wrap ((IntKind.i64.wrap ((10 : Int) * v1)) + (IntKind.i64.wrap (IntKind.u8.wrap (((a0.getD v2.toNat 0).toNat : Int) - 48)))),IntKind.i64.wrap (v2 + 1))))))
else
(some (.inr (.inl v1))))
noncomputable def l_impl_readDigits_1 (a0 : List UInt8) : (Int × Int) → Option ((Int × Int) ⊕ (Int ⊕ Int))
 | (v4,v5) => (
bif decide (v5 < (a0.length : Int)) then
(grd (0 ≤ v5 ∧ v5 < (a0.length : Int)) <|
bif decide (((a0.getD v5.toNat 0).toNat : Int) < 48) then
(some (.inr (.inr (-1 : Int))))
else
(grd (0 ≤ v5 ∧ v5 < (a0.length : Int)) <|
bif decide (((a0.getD v5.toNat 0).toNat : Int) > 57) then
(some (.inr (.inr (-1 : Int))))
else
(grd (0 ≤ v5 ∧ v5 < (a0.length : Int)) <|
some (.inl (IntKind.i64.wrap ((IntKind.i64.wrap ((10 : Int) * v4)) + (IntKind.i64.wrap (IntKind.u8.wrap (((a0.getD v5.toNat 0).toNat : Int) - 48)))),IntKind.i64.wrap (v5 + 1))))))
else
(some (.inr (.inl v4))))
noncomputable def m_impl_readDigits (a0 : List UInt8) (a1 : Int) : Option Int :=
bif decide ((a0.length : Int) < 1) then
(some (-1 : Int))
else
(bif decide ((a0.length : Int) > a1) then
(some (-1 : Int))
else
(bif decide ((a0.length : Int) > 1) then
(grd ((0 : Int) ≤ (0 : Int) ∧ (0 : Int) < (a0.length : Int)) <|
bif ((a0.getD (0 : Int).toNat 0).toNat : Int) == 48 then
(some (-1 : Int))
else
((iter (l_impl_readDigits_0 a0) ((0 : Int),(0 : Int))).bind fun
| (.inl v3) => (
some v3)
| (.inr r) => some r))
else
((iter (l_impl_readDigits_1 a0) ((0 : Int),(0 : Int))).bind fun
| (.inl v6) => (
some v6)
| (.inr r) => some r)))
theorem W31 (a0 : List UInt8) (a1 r : Int) (h : m_impl_readDigits a0 a1 = some r) : AM.Spec Tryd.prog 58 [.str a0,.i a1] [] (.i r) [] := by
 refine spec_of (E := E145) Tryd.func58 rfl rfl rfl rfl ?_
 refine Tri.f 1 [] [.keep [0,1] []] rfl trivial ?_
 rcases bif_some h with ⟨hd1,h⟩ | ⟨hd1,h⟩
 ·refine Tri.f 1 [.g true,.g true] [.keep [0,25] []] rfl ⟨rfl,hd1,trivial⟩ ?_
  refine Tri.f 2 [.g true] [.keep [4] []] rfl ⟨rfl,trivial⟩ ?_
  cases h
  exact Tri.ret rfl ⟨.inl rfl,rfl,rfl⟩
 ·rcases bif_some h with ⟨hd2,h⟩ | ⟨hd2,h⟩
  ·refine Tri.f 1 [.g false,.g true] [.keep [0,25] []] rfl ⟨hd2,hd1,trivial⟩ ?_
   refine Tri.f 2 [.g true] [.keep [4] []] rfl ⟨rfl,trivial⟩ ?_
   cases h
   exact Tri.ret rfl ⟨.inl rfl,rfl,rfl⟩
  ·rcases bif_some h with ⟨hd3,h⟩ | ⟨hd3,h⟩
   ·obtain ⟨hg4,h⟩ := grd_some h
    refine Tri.f 1 [.g false,.g false,.g true] [.keep [0,25] []] rfl ⟨hg4,hd3,hd2,hd1,trivial⟩ ?_
    rcases bif_some h with ⟨hd5,h⟩ | ⟨hd5,h⟩
    ·refine Tri.f 2 [.g true] [.keep [4] []] rfl ⟨hd5,trivial⟩ ?_
     cases h
     exact Tri.ret rfl ⟨.inl rfl,rfl,rfl⟩
    ·refine Tri.f 3 [.g false] [.keep [0,5,6] []] rfl ⟨hd5,trivial⟩ ?_
     obtain ⟨x1,hk12,h⟩ := bind_some h
     refine Tri.loop (K1 := [.code [(3,0),(1,0),(0,0)] 0]) (K2 := [.blk 0,.code [] 4]) (fun (v1,v2) => ⟨[(0,.str a0),(5,.i v1),(6,.i v2)],[]⟩) (fun x e σ' => match x with | (.inl v3) => e = .exit 0 ∧ σ' = ⟨[(5,.i v3)],[]⟩ | (.inr r) => e = .ret ∧ K88 r σ') hk12 rfl rfl ?_ ?_
     ·intro s x hs
      clear h
      have h := hs
      clear hs
      obtain ⟨v1,v2⟩ := s
      refine Tri.f 1 [] [.keep [0,5,6,29] []] rfl trivial ?_
      rcases bif_some h with ⟨hd6,h⟩ | ⟨hd6,h⟩
      ·obtain ⟨hg7,h⟩ := grd_some h
       rcases bif_some h with ⟨hd8,h⟩ | ⟨hd8,h⟩
       ·refine Tri.f 2 [.g true,.g true] [.keep [0,5,6,41] []] rfl ⟨hd8,hg7,hd6,trivial⟩ ?_
        refine Tri.f 2 [.g true] [.keep [4] []] rfl ⟨rfl,trivial⟩ ?_
        cases h
        exact Tri.ret rfl ⟨nofun,rfl,rfl,rfl⟩
       ·obtain ⟨hg9,h⟩ := grd_some h
        refine Tri.f 2 [.g true,.g false] [.keep [0,5,6,41] []] rfl ⟨hg9,hd8,hg7,hd6,trivial⟩ ?_
        rcases bif_some h with ⟨hd10,h⟩ | ⟨hd10,h⟩
        ·refine Tri.f 2 [.g true] [.keep [4] []] rfl ⟨hd10,trivial⟩ ?_
         cases h
         exact Tri.ret rfl ⟨nofun,rfl,rfl,rfl⟩
        ·obtain ⟨hg11,h⟩ := grd_some h
         refine Tri.f 3 [.g false] [.keep [0,5,6] []] rfl ⟨hg11,hd10,trivial⟩ ?_
         cases h
         exact Tri.nil ⟨rfl,rfl⟩
      ·refine Tri.f 1 [.g false] [.keep [5] []] rfl ⟨hd6,trivial⟩ ?_
       cases h
       exact Tri.out 0 rfl ⟨nofun,rfl,rfl⟩
     ·intro e σ' hne hq
      rcases x1 with v3 | r
      ·obtain ⟨rfl,rfl⟩ := hq
       refine TriX.exit (K' := [.code [] 4]) rfl ?_
       refine Tri.f 1 [] [.keep [4] []] rfl trivial ?_
       cases h
       exact Tri.ret rfl ⟨.inl rfl,rfl,rfl⟩
      ·obtain ⟨rfl,hq⟩ := hq
       cases h
       exact TriX.ret ⟨.inl rfl,hq⟩
   ·refine Tri.f 1 [.g false,.g false,.g false] [.keep [0,25] []] rfl ⟨hd3,hd2,hd1,trivial⟩ ?_
    refine Tri.f 3 [.g false] [.keep [0,5,6] []] rfl ⟨rfl,trivial⟩ ?_
    obtain ⟨x2,hk19,h⟩ := bind_some h
    refine Tri.loop (K1 := [.code [(3,0),(1,0),(0,0)] 0]) (K2 := [.blk 0,.code [] 4]) (fun (v4,v5) => ⟨[(0,.str a0),(5,.i v4),(6,.i v5)],[]⟩) (fun x e σ' => match x with | (.inl v6) => e = .exit 0 ∧ σ' = ⟨[(5,.i v6)],[]⟩ | (.inr r) => e = .ret ∧ K88 r σ') hk19 rfl rfl ?_ ?_
    ·intro s x hs
     clear h
     have h := hs
     clear hs
     obtain ⟨v4,v5⟩ := s
     refine Tri.f 1 [] [.keep [0,5,6,29] []] rfl trivial ?_
     rcases bif_some h with ⟨hd13,h⟩ | ⟨hd13,h⟩
     ·obtain ⟨hg14,h⟩ := grd_some h
      rcases bif_some h with ⟨hd15,h⟩ | ⟨hd15,h⟩
      ·refine Tri.f 2 [.g true,.g true] [.keep [0,5,6,41] []] rfl ⟨hd15,hg14,hd13,trivial⟩ ?_
       refine Tri.f 2 [.g true] [.keep [4] []] rfl ⟨rfl,trivial⟩ ?_
       cases h
       exact Tri.ret rfl ⟨nofun,rfl,rfl,rfl⟩
      ·obtain ⟨hg16,h⟩ := grd_some h
       refine Tri.f 2 [.g true,.g false] [.keep [0,5,6,41] []] rfl ⟨hg16,hd15,hg14,hd13,trivial⟩ ?_
       rcases bif_some h with ⟨hd17,h⟩ | ⟨hd17,h⟩
       ·refine Tri.f 2 [.g true] [.keep [4] []] rfl ⟨hd17,trivial⟩ ?_
        cases h
        exact Tri.ret rfl ⟨nofun,rfl,rfl,rfl⟩
       ·obtain ⟨hg18,h⟩ := grd_some h
        refine Tri.f 3 [.g false] [.keep [0,5,6] []] rfl ⟨hg18,hd17,trivial⟩ ?_
        cases h
        exact Tri.nil ⟨rfl,rfl⟩
     ·refine Tri.f 1 [.g false] [.keep [5] []] rfl ⟨hd13,trivial⟩ ?_
      cases h
      exact Tri.out 0 rfl ⟨nofun,rfl,rfl⟩
    ·intro e σ' hne hq
     rcases x2 with v6 | r
     ·obtain ⟨rfl,rfl⟩ := hq
      refine TriX.exit (K' := [.code [] 4]) rfl ?_
      refine Tri.f 1 [] [.keep [4] []] rfl trivial ?_
      cases h
      exact Tri.ret rfl ⟨.inl rfl,rfl,rfl⟩
     ·obtain ⟨rfl,hq⟩ := hq
      cases h
      exact TriX.ret ⟨.inl rfl,hq⟩
noncomputable def E146 : Env := ⟨Tryd.prog,tys,(Tryd.f56.body).getD .skip,11,tysOk,mixedOk⟩
abbrev K89 (r : Int × Bool) (σ' : ASt) : Prop := isRes E146.T Tryd.f56 (.tuple [.i r.1,.bool r.2]) [] σ'
noncomputable def m_impl_ParseNumber (a0 : List UInt8) : Option (Int × Bool) :=
(m_impl_readDigits a0 (6 : Int)).bind fun v1 =>
some (if (0 : Int) > v1 then (0 : Int) else v1,decide (v1 ≥ 0))
theorem W32 (a0 : List UInt8) (r : Int × Bool) (h : m_impl_ParseNumber a0 = some r) : AM.Spec Tryd.prog 56 [.str a0] [] (.tuple [.i r.1,.bool r.2]) [] := by
 refine spec_of (E := E146) Tryd.func56 rfl rfl rfl rfl ?_
 refine Tri.f 1 [] [.keep [0] []] rfl trivial ?_
 obtain ⟨v1,hk1,h⟩ := bind_some h
 refine Tri.f 2 [.v (.i v1)] [.keep [2,3] []] rfl ⟨fun _ => W31 a0 (6 : Int) v1 hk1,trivial⟩ ?_
 cases h
 exact Tri.ret rfl ⟨.inl rfl,rfl,rfl⟩
noncomputable def E147 : Env := ⟨Tryd.prog,tys,(Tryd.f32.body).getD .skip,27,tysOk,mixedOk⟩
abbrev K90 (r : Int × Bool) (σ' : ASt) : Prop := isRes E147.T Tryd.f32 (.tuple [.i r.1,.bool r.2]) [] σ'
noncomputable def m_impl_readPlayers (a0 : List UInt8) : Option (Int × Bool) :=
(m_strings_CutPrefix a0 [112,108,97,121,101,114,115,32]).bind fun (v1,v2) =>
(m_impl_ParseNumber v1).bind fun (v3,v4) =>
bif v2 then
(bif v4 then
((m_impl_within v3 (1 : Int) (5 : Int)).bind fun v5 =>
some (v3,v5))
else
(some (v3,false)))
else
(some (v3,false))
theorem W33 (a0 : List UInt8) (r : Int × Bool) (h : m_impl_readPlayers a0 = some r) : AM.Spec Tryd.prog 32 [.str a0] [] (.tuple [.i r.1,.bool r.2]) [] := by
 refine spec_of (E := E147) Tryd.func32 rfl rfl rfl rfl ?_
 refine Tri.f 1 [] [.keep [0] []] rfl trivial ?_
 obtain ⟨⟨v1,v2⟩,hk1,h⟩ := bind_some h
 obtain ⟨⟨v3,v4⟩,hk2,h⟩ := bind_some h
 refine Tri.f 2 [.v (.tuple [.str v1,.bool v2]),.v (.tuple [.i v3,.bool v4])] [.keep [5,6,7] []] rfl ⟨fun _ => W32 v1 (v3,v4) hk2,fun _ => W30 a0 [112,108,97,121,101,114,115,32] (v1,v2) hk1,trivial⟩ ?_
 rcases bif_some h with ⟨hd3,h⟩ | ⟨hd3,h⟩
 ·rcases bif_some h with ⟨hd4,h⟩ | ⟨hd4,h⟩
  ·obtain ⟨v5,hk5,h⟩ := bind_some h
   refine Tri.f 1 [.g true,.g true,.v (.bool v5)] [.keep [2,3] []] rfl ⟨fun _ => W16 v3 (1 : Int) (5 : Int) v5 hk5,hd4,hd3,trivial⟩ ?_
   cases h
   exact Tri.ret rfl ⟨.inl rfl,rfl,rfl⟩
  ·refine Tri.f 1 [.g true,.g false] [.keep [2,3] []] rfl ⟨hd4,hd3,trivial⟩ ?_
   cases h
   exact Tri.ret rfl ⟨.inl rfl,rfl,rfl⟩
 ·refine Tri.f 1 [.g false,.g false] [.keep [2,3] []] rfl ⟨rfl,hd3,trivial⟩ ?_
  cases h
  exact Tri.ret rfl ⟨.inl rfl,rfl,rfl⟩
noncomputable def E148 : Env := ⟨Tryd.prog,tys,(Tryd.f33.body).getD .skip,14,tysOk,mixedOk⟩
abbrev K91 (r : Int × Bool) (σ' : ASt) : Prop := isRes E148.T Tryd.f33 (.tuple [.i r.1,.bool r.2]) [] σ'
noncomputable def l_impl_ParseCoalition_0 (a0 : List UInt8) (v1 : Int) : Option (Int ⊕ (Unit ⊕ ((Int × Bool)))) :=
bif decide (v1 ≤ 31) then
((m_impl_FormatCoalition v1).bind fun v2 =>
bif v2 == a0 then
(some (.inr (.inr (v1,true))))
else
(some (.inl (IntKind.i64.wrap (v1 + 1)))))
else
(some (.inr (.inl ())))
noncomputable def m_impl_ParseCoalition (a0 : List UInt8) : Option (Int × Bool) :=
(iter (l_impl_ParseCoalition_0 a0) (0 : Int)).bind fun
| (.inl _) => (
some ((0 : Int),false))
| (.inr r) => some r
theorem W34 (a0 : List UInt8) (r : Int × Bool) (h : m_impl_ParseCoalition a0 = some r) : AM.Spec Tryd.prog 33 [.str a0] [] (.tuple [.i r.1,.bool r.2]) [] := by
 refine spec_of (E := E148) Tryd.func33 rfl rfl rfl rfl ?_
 refine Tri.f 2 [] [.keep [0,4] []] rfl trivial ?_
 obtain ⟨x1,hk4,h⟩ := bind_some h
 refine Tri.loop (K1 := [.code [(1,0),(1,0),(0,0)] 0]) (K2 := [.blk 0,.code [] 2]) (fun v1 => ⟨[(0,.str a0),(4,.i v1)],[]⟩) (fun x e σ' => match x with | (.inl _) => e = .exit 0 ∧ σ' = ⟨[],[]⟩ | (.inr r) => e = .ret ∧ K91 r σ') hk4 rfl rfl ?_ ?_
 ·intro v1 x hs
  clear h
  have h := hs
  clear hs
  refine Tri.f 1 [] [.keep [0,4,6] []] rfl trivial ?_
  rcases bif_some h with ⟨hd1,h⟩ | ⟨hd1,h⟩
  ·obtain ⟨v2,hk2,h⟩ := bind_some h
   refine Tri.f 2 [.g true,.v (.str v2)] [.keep [0,4,12] []] rfl ⟨fun _ => W25 v1 v2 hk2,hd1,trivial⟩ ?_
   rcases bif_some h with ⟨hd3,h⟩ | ⟨hd3,h⟩
   ·refine Tri.f 2 [.g true] [.keep [2,3] []] rfl ⟨hd3,trivial⟩ ?_
    cases h
    exact Tri.ret rfl ⟨nofun,rfl,rfl,rfl⟩
   ·refine Tri.f 2 [.g false] [.keep [0,4] []] rfl ⟨hd3,trivial⟩ ?_
    cases h
    exact Tri.nil ⟨rfl,rfl⟩
  ·refine Tri.f 1 [.g false] [.keep [] []] rfl ⟨hd1,trivial⟩ ?_
   cases h
   exact Tri.out 0 rfl ⟨nofun,rfl,rfl⟩
 ·intro e σ' hne hq
  rcases x1 with _ | r
  ·obtain ⟨rfl,rfl⟩ := hq
   refine TriX.exit (K' := [.code [] 2]) rfl ?_
   refine Tri.f 1 [] [.keep [2,3] []] rfl trivial ?_
   cases h
   exact Tri.ret rfl ⟨.inl rfl,rfl,rfl⟩
  ·obtain ⟨rfl,hq⟩ := hq
   cases h
   exact TriX.ret ⟨.inl rfl,hq⟩
noncomputable def E149 : Env := ⟨Tryd.prog,tys,(Tryd.f71.body).getD .skip,13,tysOk,mixedOk⟩
abbrev K92 (r : List UInt8) (σ' : ASt) : Prop := isRes E149.T Tryd.f71 (.str r) [] σ'
noncomputable def m_stringslite_TrimPrefix (a0 a1 : List UInt8) : Option (List UInt8) :=
(m_stringslite_HasPrefix a0 a1).bind fun v1 =>
bif v1 then
(grd ((0 : Int) ≤ (a1.length : Int) ∧ (a1.length : Int) ≤ (a0.length : Int)) <|
some (a0.drop (a1.length : Int).toNat))
else
(some a0)
theorem W35 (a0 a1 r : List UInt8) (h : m_stringslite_TrimPrefix a0 a1 = some r) : AM.Spec Tryd.prog 71 [.str a0,.str a1] [] (.str r) [] := by
 refine spec_of (E := E149) Tryd.func71 rfl rfl rfl rfl ?_
 refine Tri.f 1 [] [.keep [0,1] []] rfl trivial ?_
 obtain ⟨v1,hk1,h⟩ := bind_some h
 refine Tri.f 1 [.v (.bool v1)] [.keep [0,1,7] []] rfl ⟨fun _ => W28 a0 a1 v1 hk1,trivial⟩ ?_
 rcases bif_some h with ⟨hd2,h⟩ | ⟨hd2,h⟩
 ·obtain ⟨hg3,h⟩ := grd_some h
  refine Tri.f 2 [.g true] [.keep [4] []] rfl ⟨hg3,hd2,trivial⟩ ?_
  cases h
  exact Tri.ret rfl ⟨.inl rfl,rfl,rfl⟩
 ·refine Tri.f 2 [.g false] [.keep [4] []] rfl ⟨hd2,trivial⟩ ?_
  cases h
  exact Tri.ret rfl ⟨.inl rfl,rfl,rfl⟩
noncomputable def E150 : Env := ⟨Tryd.prog,tys,(Tryd.f57.body).getD .skip,8,tysOk,mixedOk⟩
abbrev K93 (r : List UInt8) (σ' : ASt) : Prop := isRes E150.T Tryd.f57 (.str r) [] σ'
noncomputable def m_strings_TrimPrefix (a0 a1 : List UInt8) : Option (List UInt8) :=
(m_stringslite_TrimPrefix a0 a1).bind fun v1 =>
some v1
theorem W36 (a0 a1 r : List UInt8) (h : m_strings_TrimPrefix a0 a1 = some r) : AM.Spec Tryd.prog 57 [.str a0,.str a1] [] (.str r) [] := by
 refine spec_of (E := E150) Tryd.func57 rfl rfl rfl rfl ?_
 refine Tri.f 1 [] [.keep [0,1] []] rfl trivial ?_
 obtain ⟨v1,hk1,h⟩ := bind_some h
 refine Tri.f 1 [.v (.str v1)] [.keep [4] []] rfl ⟨fun _ => W35 a0 a1 v1 hk1,trivial⟩ ?_
 cases h
 exact Tri.ret rfl ⟨.inl rfl,rfl,rfl⟩
noncomputable def E151 : Env := ⟨Tryd.prog,tys,(Tryd.f34.body).getD .skip,27,tysOk,mixedOk⟩
abbrev K94 (r : Int × Bool) (σ' : ASt) : Prop := isRes E151.T Tryd.f34 (.tuple [.i r.1,.bool r.2]) [] σ'
noncomputable def m_impl_ParseInt (a0 : List UInt8) : Option (Int × Bool) :=
(m_strings_TrimPrefix a0 [45]).bind fun v1 =>
(m_impl_readDigits v1 (12 : Int)).bind fun v2 =>
bif decide (v2 < 0) then
(some ((0 : Int),false))
else
(bif v2 == 0 then
(bif !(v1 == a0) then
(some ((0 : Int),false))
else
(bif !(v1 == a0) then
(some (IntKind.i64.wrap (0 - v2),true))
else
(some (v2,true))))
else
(bif !(v1 == a0) then
(some (IntKind.i64.wrap (0 - v2),true))
else
(some (v2,true))))
theorem W37 (a0 : List UInt8) (r : Int × Bool) (h : m_impl_ParseInt a0 = some r) : AM.Spec Tryd.prog 34 [.str a0] [] (.tuple [.i r.1,.bool r.2]) [] := by
 refine spec_of (E := E151) Tryd.func34 rfl rfl rfl rfl ?_
 refine Tri.f 1 [] [.keep [0] []] rfl trivial ?_
 obtain ⟨v1,hk1,h⟩ := bind_some h
 obtain ⟨v2,hk2,h⟩ := bind_some h
 refine Tri.f 2 [.v (.str v1),.v (.i v2)] [.keep [0,4,5] []] rfl ⟨fun _ => W31 v1 (12 : Int) v2 hk2,fun _ => W36 a0 [45] v1 hk1,trivial⟩ ?_
 rcases bif_some h with ⟨hd3,h⟩ | ⟨hd3,h⟩
 ·refine Tri.f 1 [.g true] [.keep [0,4,5,20] []] rfl ⟨hd3,trivial⟩ ?_
  refine Tri.f 2 [.g true] [.keep [2,3] []] rfl ⟨rfl,trivial⟩ ?_
  cases h
  exact Tri.ret rfl ⟨.inl rfl,rfl,rfl⟩
 ·rcases bif_some h with ⟨hd4,h⟩ | ⟨hd4,h⟩
  ·refine Tri.f 1 [.g false,.g true] [.keep [0,4,5,20] []] rfl ⟨hd4,hd3,trivial⟩ ?_
   rcases bif_some h with ⟨hd5,h⟩ | ⟨hd5,h⟩
   ·refine Tri.f 2 [.g true] [.keep [2,3] []] rfl ⟨hd5,trivial⟩ ?_
    cases h
    exact Tri.ret rfl ⟨.inl rfl,rfl,rfl⟩
   ·refine Tri.f 2 [.g false] [.keep [5,23] []] rfl ⟨hd5,trivial⟩ ?_
    rcases bif_some h with ⟨hd6,h⟩ | ⟨hd6,h⟩
    ·refine Tri.f 3 [.g true] [.keep [2,3] []] rfl ⟨hd6,trivial⟩ ?_
     cases h
     exact Tri.ret rfl ⟨.inl rfl,rfl,rfl⟩
    ·refine Tri.f 2 [.g false] [.keep [2,3] []] rfl ⟨hd6,trivial⟩ ?_
     cases h
     exact Tri.ret rfl ⟨.inl rfl,rfl,rfl⟩
  ·refine Tri.f 1 [.g false,.g false] [.keep [0,4,5,20] []] rfl ⟨hd4,hd3,trivial⟩ ?_
   refine Tri.f 2 [.g false] [.keep [5,23] []] rfl ⟨rfl,trivial⟩ ?_
   rcases bif_some h with ⟨hd7,h⟩ | ⟨hd7,h⟩
   ·refine Tri.f 3 [.g true] [.keep [2,3] []] rfl ⟨hd7,trivial⟩ ?_
    cases h
    exact Tri.ret rfl ⟨.inl rfl,rfl,rfl⟩
   ·refine Tri.f 2 [.g false] [.keep [2,3] []] rfl ⟨hd7,trivial⟩ ?_
    cases h
    exact Tri.ret rfl ⟨.inl rfl,rfl,rfl⟩
noncomputable def E152 : Env := ⟨Tryd.prog,tys,(Tryd.f36.body).getD .skip,8,tysOk,mixedOk⟩
abbrev K95 (r : List Int) (σ' : ASt) : Prop := isRes E152.T Tryd.f36 (.sl 1000 0) [(1000,.arr 3 0 0 (.ints r))] σ'
noncomputable def m_slices_Clone_int_int (a0 : List Int) : Option (List Int) :=
grd (([] : List Int).length + a0.length ≤ room) <|
some ([] ++ a0)
theorem W38 (a0 r : List Int) (h : m_slices_Clone_int_int a0 = some r) : AM.Spec Tryd.prog 36 [.list (.ints a0)] [] (.sl 1000 0) [(1000,.arr 3 0 0 (.ints r))] := by
 refine spec_of (E := E152) Tryd.func36 rfl rfl rfl rfl ?_
 refine Tri.f 2 [] [.keep [0,4] []] rfl trivial ?_
 refine Tri.any (p := (.ints a0)) (Kt := [.code [(1,0),(1,0)] 0,.code [] 2]) (Kf := [.code [(1,0),(1,1)] 0,.code [] 2]) rfl (fun hnil => ?_) ?_
 ·have hnil := List.eq_nil_of_length_eq_zero hnil
  subst hnil
  have h := (grd_some h).2
  have h : (some []) = some _ := h
  refine Tri.f 1 [] [.own 2 [] 1100 3,.swap 1100 1000,.keep [2] [1000]] rfl trivial ?_
  cases h
  exact Tri.ret rfl ⟨.inl rfl,rfl,rfl⟩
 ·obtain ⟨hg1,h⟩ := grd_some h
  refine Tri.f 1 [] [.rever 5,.swap 5 1000,.keep [2] [1000]] rfl ⟨hg1,trivial⟩ ?_
  cases h
  exact Tri.ret rfl ⟨.inl rfl,rfl,rfl⟩
noncomputable def E153 : Env := ⟨Tryd.prog,tys,(Tryd.f12.body).getD .skip,128,tysOk,mixedOk⟩
abbrev K96 (r : Int × Int × (List Int)) (σ' : ASt) : Prop := isRes E153.T Tryd.f12 (.tuple [.agg [.i r.1,.sl 1000 0],.i r.2.1]) [(1000,.arr 3 0 0 (.ints r.2.2))] σ'
noncomputable def l_impl_ParseGame_0 (v1 : List (List UInt8)) : (Int × Int × (List Int)) → Option ((Int × Int × (List Int)) ⊕ ((List Int) ⊕ ((Int × Int × (List Int)))))
 | (v4,v5,v6) => (
bif decide (v5 < (((v1.take ((IntKind.i64.wrap ((v1.length : Int) - 1)).toNat)).length - (1 : Int).toNat : Nat) : Int)) then
(grd (0 ≤ v5 ∧ v5 < (((v1.take ((IntKind.i64.wrap ((v1.length : Int) - 1)).toNat)).length - (1 : Int).toNat : Nat) : Int)) <|
(m_impl_SplitByte ((v1.take ((IntKind.i64.wrap ((v1.length : Int) - 1)).toNat)).getD ((1 : Int).toNat + v5.toNat) []) (32 : Int)).bind fun v7 =>
bif (v7.length : Int) != 2 then
(some (.inr (.inr (0,IntKind.i64.wrap (v5 + 1),[]))))
else
(grd ((0 : Int) ≤ (0 : Int) ∧ (0 : Int) < (v7.length : Int)) <|
(m_impl_ParseCoalition (v7.getD ((0 : Int).toNat) [])).bind fun (v8,v9) =>
grd ((0 : Int) ≤ (1 : Int) ∧ (1 : Int) < (v7.length : Int)) <|
(m_impl_ParseInt (v7.getD ((1 : Int).toNat) [])).bind fun (v10,v11) =>
bif !v9 then
(some (.inr (.inr (0,IntKind.i64.wrap (v5 + 1),[]))))
else
(bif !v11 then
(some (.inr (.inr (0,IntKind.i64.wrap (v5 + 1),[]))))
else
(bif decide (v8 ≤ v4) then
(some (.inr (.inr (0,IntKind.i64.wrap (v5 + 1),[]))))
else
(bif decide (v8 ≥ (v6.length : Int)) then
(some (.inr (.inr (0,IntKind.i64.wrap (v5 + 1),[]))))
else
(bif v10 == 0 then
(some (.inr (.inr (0,IntKind.i64.wrap (v5 + 1),[]))))
else
((m_impl_within v10 (-500 : Int) (500 : Int)).bind fun v12 =>
bif !v12 then
(some (.inr (.inr (0,IntKind.i64.wrap (v5 + 1),[]))))
else
(grd (0 ≤ v8 ∧ v8 < (v6.length : Int)) <|
some (.inl (v8,IntKind.i64.wrap (v5 + 1),v6.set v8.toNat v10))))))))))
else
(some (.inr (.inl v6))))
noncomputable def l_impl_ParseGame_1 (v1 : List (List UInt8)) : (Int × Int × (List Int)) → Option ((Int × Int × (List Int)) ⊕ ((List Int) ⊕ ((Int × Int × (List Int)))))
 | (v18,v19,v20) => (
bif decide (v19 < ((v1.length - (1 : Int).toNat : Nat) : Int)) then
(grd (0 ≤ v19 ∧ v19 < ((v1.length - (1 : Int).toNat : Nat) : Int)) <|
(m_impl_SplitByte (v1.getD ((1 : Int).toNat + v19.toNat) []) (32 : Int)).bind fun v21 =>
bif (v21.length : Int) != 2 then
(some (.inr (.inr (0,IntKind.i64.wrap (v19 + 1),[]))))
else
(grd ((0 : Int) ≤ (0 : Int) ∧ (0 : Int) < (v21.length : Int)) <|
(m_impl_ParseCoalition (v21.getD ((0 : Int).toNat) [])).bind fun (v22,v23) =>
grd ((0 : Int) ≤ (1 : Int) ∧ (1 : Int) < (v21.length : Int)) <|
(m_impl_ParseInt (v21.getD ((1 : Int).toNat) [])).bind fun (v24,v25) =>
bif !v23 then
(some (.inr (.inr (0,IntKind.i64.wrap (v19 + 1),[]))))
else
(bif !v25 then
(some (.inr (.inr (0,IntKind.i64.wrap (v19 + 1),[]))))
else
(bif decide (v22 ≤ v18) then
(some (.inr (.inr (0,IntKind.i64.wrap (v19 + 1),[]))))
else
(bif decide (v22 ≥ (v20.length : Int)) then
(some (.inr (.inr (0,IntKind.i64.wrap (v19 + 1),[]))))
else
(bif v24 == 0 then
(some (.inr (.inr (0,IntKind.i64.wrap (v19 + 1),[]))))
else
((m_impl_within v24 (-500 : Int) (500 : Int)).bind fun v26 =>
bif !v26 then
(some (.inr (.inr (0,IntKind.i64.wrap (v19 + 1),[]))))
else
(grd (0 ≤ v22 ∧ v22 < (v20.length : Int)) <|
some (.inl (v22,IntKind.i64.wrap (v19 + 1),v20.set v22.toNat v24))))))))))
else
(some (.inr (.inl v20))))
noncomputable def m_impl_ParseGame (a0 : List UInt8) : Option (Int × Int × (List Int)) :=
(m_impl_SplitByte a0 (10 : Int)).bind fun v1 =>
grd (0 ≤ IntKind.i64.wrap ((v1.length : Int) - 1) ∧ IntKind.i64.wrap ((v1.length : Int) - 1) < (v1.length : Int)) <|
bif (v1.getD ((IntKind.i64.wrap ((v1.length : Int) - 1)).toNat) []) == [] then
(grd (0 ≤ IntKind.i64.wrap ((v1.length : Int) - 1) ∧ IntKind.i64.wrap ((v1.length : Int) - 1) ≤ (v1.length : Int)) <|
bif ((v1.take ((IntKind.i64.wrap ((v1.length : Int) - 1)).toNat)).length : Int) == 0 then
(some (0,(0 : Int),[]))
else
(grd ((0 : Int) ≤ (0 : Int) ∧ (0 : Int) < ((v1.take ((IntKind.i64.wrap ((v1.length : Int) - 1)).toNat)).length : Int)) <|
(m_impl_readPlayers ((v1.take ((IntKind.i64.wrap ((v1.length : Int) - 1)).toNat)).getD ((0 : Int).toNat) [])).bind fun (v2,v3) =>
bif !v3 then
(some (0,(0 : Int),[]))
else
(grd (0 ≤ v2) <|
grd (0 ≤ IntKind.i64.wrap ((1 : Int) * 2 ^ (min v2.toNat 64)) ∧ IntKind.i64.wrap ((1 : Int) * 2 ^ (min v2.toNat 64)) = IntKind.i64.wrap ((1 : Int) * 2 ^ (min v2.toNat 64)) ∧ IntKind.i64.wrap ((1 : Int) * 2 ^ (min v2.toNat 64)) ≤ (room : Int)) <|
grd ((0 : Int) ≤ (1 : Int) ∧ (1 : Int) ≤ ((v1.take ((IntKind.i64.wrap ((v1.length : Int) - 1)).toNat)).length : Int)) <|
(iter (l_impl_ParseGame_0 v1) ((0 : Int),(0 : Int),List.replicate (IntKind.i64.wrap ((1 : Int) * 2 ^ (min v2.toNat 64))).toNat (0 : Int))).bind fun
| (.inl v13) => (
(m_impl_FormatGame v2 v13).bind fun v14 =>
bif !(v14 == a0) then
(some (0,((v1.take ((IntKind.i64.wrap ((v1.length : Int) - 1)).toNat)).length : Int),[]))
else
((m_slices_Clone_int_int v13).bind fun v15 =>
some (v2,(-1 : Int),v15)))
| (.inr r) => some r)))
else
(bif (v1.length : Int) == 0 then
(some (0,(0 : Int),[]))
else
(grd ((0 : Int) ≤ (0 : Int) ∧ (0 : Int) < (v1.length : Int)) <|
(m_impl_readPlayers (v1.getD ((0 : Int).toNat) [])).bind fun (v16,v17) =>
bif !v17 then
(some (0,(0 : Int),[]))
else
(grd (0 ≤ v16) <|
grd (0 ≤ IntKind.i64.wrap ((1 : Int) * 2 ^ (min v16.toNat 64)) ∧ IntKind.i64.wrap ((1 : Int) * 2 ^ (min v16.toNat 64)) = IntKind.i64.wrap ((1 : Int) * 2 ^ (min v16.toNat 64)) ∧ IntKind.i64.wrap ((1 : Int) * 2 ^ (min v16.toNat 64)) ≤ (room : Int)) <|
grd ((0 : Int) ≤ (1 : Int) ∧ (1 : Int) ≤ (v1.length : Int)) <|
(iter (l_impl_ParseGame_1 v1) ((0 : Int),(0 : Int),List.replicate (IntKind.i64.wrap ((1 : Int) * 2 ^ (min v16.toNat 64))).toNat (0 : Int))).bind fun
| (.inl v27) => (
(m_impl_FormatGame v16 v27).bind fun v28 =>
bif !(v28 == a0) then
(some (0,(v1.length : Int),[]))
else
((m_slices_Clone_int_int v27).bind fun v29 =>
some (v16,(-1 : Int),v29)))
| (.inr r) => some r)))
theorem W39 (a0 : List UInt8) (r : Int × Int × (List Int)) (h : m_impl_ParseGame a0 = some r) : AM.Spec Tryd.prog 12 [.str a0] [] (.tuple [.agg [.i r.1,.sl 1000 0],.i r.2.1]) [(1000,.arr 3 0 0 (.ints r.2.2))] := by
 refine spec_of (E := E153) Tryd.func12 rfl rfl rfl rfl ?_
 refine Tri.f 1 [] [.keep [0,2] [2],.ownc 2 1 1100 3,.keep [0,2] [2,1100]] rfl trivial ?_
 obtain ⟨v1,hk1,h⟩ := bind_some h
 obtain ⟨hg2,h⟩ := grd_some h
 refine Tri.f 2 [.r ⟨[],.sl 1101 0,[(1101,.arr 9 0 0 (.strs v1))]⟩] [.keep [0,2,4,24] [2,1100,1101]] rfl ⟨hg2,fun _ => (W27 a0 (10 : Int) v1 hk1).swap 1000 1101,trivial⟩ ?_
 rcases bif_some h with ⟨hd3,h⟩ | ⟨hd3,h⟩
 ·obtain ⟨hg4,h⟩ := grd_some h
  refine Tri.f 2 [.g true] [.keep [0,2,4] [2,1100,1101],.trunc 4,.keep [0,2,4] [2,1100,1101]] rfl ⟨hg4,hd3,trivial⟩ ?_
  refine Tri.f 1 [] [.keep [0,2,4,32] [2,1100,1101]] rfl trivial ?_
  rcases bif_some h with ⟨hd5,h⟩ | ⟨hd5,h⟩
  ·refine Tri.f 2 [.g true] [.ownc 2 1 1102 3,.swap 1102 1000,.keep [2,3] [2,1000]] rfl ⟨hd5,trivial⟩ ?_
   cases h
   exact Tri.ret rfl ⟨.inl rfl,rfl,rfl⟩
  ·refine Tri.f 1 [.g false] [.keep [0,2,4] [2,1100,1101],.rever 1101,.keep [0,2,4] [2,1100,1101]] rfl ⟨hd5,trivial⟩ ?_
   obtain ⟨hg6,h⟩ := grd_some h
   obtain ⟨⟨v2,v3⟩,hk7,h⟩ := bind_some h
   refine Tri.f 2 [.v (.tuple [.i v2,.bool v3])] [.keep [0,2,4,5,42] [2,1100,1101]] rfl ⟨fun _ => W33 ((v1.take ((IntKind.i64.wrap ((v1.length : Int) - 1)).toNat)).getD ((0 : Int).toNat) []) (v2,v3) hk7,hg6,trivial⟩ ?_
   rcases bif_some h with ⟨hd8,h⟩ | ⟨hd8,h⟩
   ·refine Tri.f 2 [.g true] [.ownc 2 1 1103 3,.swap 1103 1000,.keep [2,3] [2,1000]] rfl ⟨hd8,trivial⟩ ?_
    cases h
    exact Tri.ret rfl ⟨.inl rfl,rfl,rfl⟩
   ·obtain ⟨hg9,h⟩ := grd_some h
    obtain ⟨hg10,h⟩ := grd_some h
    refine Tri.f 3 [.g false] [.keep [0,2,4,5,7,8] [2,7,47,1100,1101]] rfl ⟨hg10,hg9,hd8,trivial⟩ ?_
    obtain ⟨hg11,h⟩ := grd_some h
    refine Tri.f 1 [] [.keep [0,2,4,5,7,8,50,51,52] [2,7,47,1100,1101]] rfl ⟨hg11,trivial⟩ ?_
    obtain ⟨x1,hk28,h⟩ := bind_some h
    refine Tri.loop (K1 := [.code [(8,0),(1,0),(0,0)] 0]) (K2 := [.blk 0,.code [] 9]) (fun (v4,v5,v6) => ⟨[(0,.str a0),(2,.ptr 2 0),(4,.sl 1101 0),(5,.i v2),(7,.ptr 7 0),(8,.i v4),(50,.slp 1101 0 ((1 : Int).toNat) ((v1.take ((IntKind.i64.wrap ((v1.length : Int) - 1)).toNat)).length - (1 : Int).toNat)),(51,.i (((v1.take ((IntKind.i64.wrap ((v1.length : Int) - 1)).toNat)).length - (1 : Int).toNat : Nat) : Int)),(52,.i v5)],[(2,.box [.i 0,.sl 1100 0]),(7,.box [.i v2,.sl 47 0]),(47,.arr 3 0 0 (.ints v6)),(1100,.arr 3 0 0 (.ints [])),(1101,.arr 9 0 0 (.strs (v1.take ((IntKind.i64.wrap ((v1.length : Int) - 1)).toNat))))]⟩) (fun x e σ' => match x with | (.inl v13) => e = .exit 0 ∧ σ' = ⟨[(0,.str a0),(2,.ptr 2 0),(4,.sl 1101 0),(5,.i v2),(7,.ptr 7 0)],[(2,.box [.i 0,.sl 1100 0]),(7,.box [.i v2,.sl 47 0]),(47,.arr 3 0 0 (.ints v13)),(1100,.arr 3 0 0 (.ints [])),(1101,.arr 9 0 0 (.strs (v1.take ((IntKind.i64.wrap ((v1.length : Int) - 1)).toNat))))]⟩ | (.inr r) => e = .ret ∧ K96 r σ') hk28 rfl rfl ?_ ?_
    ·intro s x hs
     clear h
     have h := hs
     clear hs
     obtain ⟨v4,v5,v6⟩ := s
     refine Tri.f 1 [] [.keep [0,2,4,5,7,8,50,51,52,53] [2,7,47,1100,1101]] rfl trivial ?_
     rcases bif_some h with ⟨hd12,h⟩ | ⟨hd12,h⟩
     ·obtain ⟨hg13,h⟩ := grd_some h
      refine Tri.f 2 [.g true] [.keep [0,2,4,5,7,8,9,10,50,51,52] [2,7,47,1100,1101]] rfl ⟨hg13,hd12,trivial⟩ ?_
      obtain ⟨v7,hk14,h⟩ := bind_some h
      refine Tri.f 2 [.r ⟨[],.sl 1104 0,[(1104,.arr 9 0 0 (.strs v7))]⟩] [.keep [0,2,4,5,7,8,9,11,50,51,52,61] [2,7,47,1100,1101,1104]] rfl ⟨fun _ => (W27 ((v1.take ((IntKind.i64.wrap ((v1.length : Int) - 1)).toNat)).getD ((1 : Int).toNat + v5.toNat) []) (32 : Int) v7 hk14).swap 1000 1104,trivial⟩ ?_
      rcases bif_some h with ⟨hd15,h⟩ | ⟨hd15,h⟩
      ·refine Tri.f 2 [.g true] [.ownc 2 1 1105 3,.swap 1105 1000,.keep [2,3] [2,1000]] rfl ⟨hd15,trivial⟩ ?_
       cases h
       exact Tri.ret rfl ⟨nofun,rfl,rfl,rfl⟩
      ·obtain ⟨hg16,h⟩ := grd_some h
       obtain ⟨⟨v8,v9⟩,hk17,h⟩ := bind_some h
       refine Tri.f 2 [.g false,.v (.tuple [.i v8,.bool v9])] [.keep [0,2,4,5,7,8,9,11,12,13,50,51,52] [2,7,47,1100,1101,1104]] rfl ⟨fun _ => W34 (v7.getD ((0 : Int).toNat) []) (v8,v9) hk17,hg16,hd15,trivial⟩ ?_
       obtain ⟨hg18,h⟩ := grd_some h
       obtain ⟨⟨v10,v11⟩,hk19,h⟩ := bind_some h
       rcases bif_some h with ⟨hd20,h⟩ | ⟨hd20,h⟩
       ·refine Tri.f 2 [.v (.tuple [.i v10,.bool v11]),.g true,.g true,.g true,.g true,.g true] [.keep [0,2,4,5,7,9,12,14,50,51,52,105] [2,7,47,1100,1101]] rfl ⟨rfl,rfl,rfl,rfl,hd20,fun _ => W37 (v7.getD ((1 : Int).toNat) []) (v10,v11) hk19,hg18,trivial⟩ ?_
        refine Tri.f 2 [.g true] [.ownc 2 1 1106 3,.swap 1106 1000,.keep [2,3] [2,1000]] rfl ⟨rfl,trivial⟩ ?_
        cases h
        exact Tri.ret rfl ⟨nofun,rfl,rfl,rfl⟩
       ·rcases bif_some h with ⟨hd21,h⟩ | ⟨hd21,h⟩
        ·refine Tri.f 2 [.v (.tuple [.i v10,.bool v11]),.g false,.g true,.g true,.g true,.g true] [.keep [0,2,4,5,7,9,12,14,50,51,52,105] [2,7,47,1100,1101]] rfl ⟨rfl,rfl,rfl,hd21,hd20,fun _ => W37 (v7.getD ((1 : Int).toNat) []) (v10,v11) hk19,hg18,trivial⟩ ?_
         refine Tri.f 2 [.g true] [.ownc 2 1 1107 3,.swap 1107 1000,.keep [2,3] [2,1000]] rfl ⟨rfl,trivial⟩ ?_
         cases h
         exact Tri.ret rfl ⟨nofun,rfl,rfl,rfl⟩
        ·rcases bif_some h with ⟨hd22,h⟩ | ⟨hd22,h⟩
         ·refine Tri.f 2 [.v (.tuple [.i v10,.bool v11]),.g false,.g false,.g true,.g true,.g true] [.keep [0,2,4,5,7,9,12,14,50,51,52,105] [2,7,47,1100,1101]] rfl ⟨rfl,rfl,hd22,hd21,hd20,fun _ => W37 (v7.getD ((1 : Int).toNat) []) (v10,v11) hk19,hg18,trivial⟩ ?_
          refine Tri.f 2 [.g true] [.ownc 2 1 1108 3,.swap 1108 1000,.keep [2,3] [2,1000]] rfl ⟨rfl,trivial⟩ ?_
          cases h
          exact Tri.ret rfl ⟨nofun,rfl,rfl,rfl⟩
         ·rcases bif_some h with ⟨hd23,h⟩ | ⟨hd23,h⟩
          ·refine Tri.f 2 [.v (.tuple [.i v10,.bool v11]),.g false,.g false,.g false,.g true,.g true] [.keep [0,2,4,5,7,9,12,14,50,51,52,105] [2,7,47,1100,1101]] rfl ⟨rfl,hd23,hd22,hd21,hd20,fun _ => W37 (v7.getD ((1 : Int).toNat) []) (v10,v11) hk19,hg18,trivial⟩ ?_
           refine Tri.f 2 [.g true] [.ownc 2 1 1109 3,.swap 1109 1000,.keep [2,3] [2,1000]] rfl ⟨rfl,trivial⟩ ?_
           cases h
           exact Tri.ret rfl ⟨nofun,rfl,rfl,rfl⟩
          ·rcases bif_some h with ⟨hd24,h⟩ | ⟨hd24,h⟩
           ·refine Tri.f 2 [.v (.tuple [.i v10,.bool v11]),.g false,.g false,.g false,.g false,.g true] [.keep [0,2,4,5,7,9,12,14,50,51,52,105] [2,7,47,1100,1101]] rfl ⟨hd24,hd23,hd22,hd21,hd20,fun _ => W37 (v7.getD ((1 : Int).toNat) []) (v10,v11) hk19,hg18,trivial⟩ ?_
            refine Tri.f 2 [.g true] [.ownc 2 1 1110 3,.swap 1110 1000,.keep [2,3] [2,1000]] rfl ⟨rfl,trivial⟩ ?_
            cases h
            exact Tri.ret rfl ⟨nofun,rfl,rfl,rfl⟩
           ·obtain ⟨v12,hk25,h⟩ := bind_some h
            refine Tri.f 2 [.v (.tuple [.i v10,.bool v11]),.g false,.g false,.g false,.g false,.g false,.v (.bool v12)] [.keep [0,2,4,5,7,9,12,14,50,51,52,105] [2,7,47,1100,1101]] rfl ⟨fun _ => W16 v10 (-500 : Int) (500 : Int) v12 hk25,hd24,hd23,hd22,hd21,hd20,fun _ => W37 (v7.getD ((1 : Int).toNat) []) (v10,v11) hk19,hg18,trivial⟩ ?_
            rcases bif_some h with ⟨hd26,h⟩ | ⟨hd26,h⟩
            ·refine Tri.f 2 [.g true] [.ownc 2 1 1111 3,.swap 1111 1000,.keep [2,3] [2,1000]] rfl ⟨hd26,trivial⟩ ?_
             cases h
             exact Tri.ret rfl ⟨nofun,rfl,rfl,rfl⟩
            ·obtain ⟨hg27,h⟩ := grd_some h
             refine Tri.f 3 [.g false] [.keep [0,2,4,5,7,8,50,51,52] [2,7,47,1100,1101]] rfl ⟨hg27,hd26,trivial⟩ ?_
             refine Tri.f 1 [] [.keep [0,2,4,5,7,8,50,51,52] [2,7,47,1100,1101]] rfl trivial ?_
             cases h
             exact Tri.nil ⟨rfl,rfl⟩
     ·refine Tri.f 1 [.g false] [.keep [0,2,4,5,7] [2,7,47,1100,1101]] rfl ⟨hd12,trivial⟩ ?_
      cases h
      exact Tri.out 0 rfl ⟨nofun,rfl,rfl⟩
    ·intro e σ' hne hq
     rcases x1 with v13 | r
     ·obtain ⟨rfl,rfl⟩ := hq
      refine TriX.exit (K' := [.code [] 9]) rfl ?_
      obtain ⟨v14,hk29,h⟩ := bind_some h
      refine Tri.f 1 [.v (.str v14)] [.keep [2,4,5,7,119] [2,7,47,1100,1101]] rfl ⟨fun _ => W26 v2 v13 v14 hk29,trivial⟩ ?_
      rcases bif_some h with ⟨hd30,h⟩ | ⟨hd30,h⟩
      ·refine Tri.f 2 [.g true] [.ownc 2 1 1112 3,.swap 1112 1000,.keep [2,3] [2,1000]] rfl ⟨hd30,trivial⟩ ?_
       cases h
       exact Tri.ret rfl ⟨.inl rfl,rfl,rfl⟩
      ·obtain ⟨v15,hk31,h⟩ := bind_some h
       refine Tri.f 2 [.g false,.r ⟨[],.sl 1113 0,[(1113,.arr 3 0 0 (.ints v15))]⟩] [.swap 1113 1000,.keep [2,3] [2,1000]] rfl ⟨fun _ => (W38 v13 v15 hk31).swap 1000 1113,hd30,trivial⟩ ?_
       cases h
       exact Tri.ret rfl ⟨.inl rfl,rfl,rfl⟩
     ·obtain ⟨rfl,hq⟩ := hq
      cases h
      exact TriX.ret ⟨.inl rfl,hq⟩
 ·refine Tri.f 2 [.g false] [.keep [0,2,4,32] [2,1100,1101]] rfl ⟨hd3,trivial⟩ ?_
  rcases bif_some h with ⟨hd32,h⟩ | ⟨hd32,h⟩
  ·refine Tri.f 2 [.g true] [.ownc 2 1 1114 3,.swap 1114 1000,.keep [2,3] [2,1000]] rfl ⟨hd32,trivial⟩ ?_
   cases h
   exact Tri.ret rfl ⟨.inl rfl,rfl,rfl⟩
  ·obtain ⟨hg33,h⟩ := grd_some h
   obtain ⟨⟨v16,v17⟩,hk34,h⟩ := bind_some h
   refine Tri.f 3 [.g false,.v (.tuple [.i v16,.bool v17])] [.keep [0,2,4,5,42] [2,1100,1101]] rfl ⟨fun _ => W33 (v1.getD ((0 : Int).toNat) []) (v16,v17) hk34,hg33,hd32,trivial⟩ ?_
   rcases bif_some h with ⟨hd35,h⟩ | ⟨hd35,h⟩
   ·refine Tri.f 2 [.g true] [.ownc 2 1 1115 3,.swap 1115 1000,.keep [2,3] [2,1000]] rfl ⟨hd35,trivial⟩ ?_
    cases h
    exact Tri.ret rfl ⟨.inl rfl,rfl,rfl⟩
   ·obtain ⟨hg36,h⟩ := grd_some h
    obtain ⟨hg37,h⟩ := grd_some h
    refine Tri.f 3 [.g false] [.keep [0,2,4,5,7,8] [2,7,47,1100,1101]] rfl ⟨hg37,hg36,hd35,trivial⟩ ?_
    obtain ⟨hg38,h⟩ := grd_some h
    refine Tri.f 1 [] [.keep [0,2,4,5,7,8,50,51,52] [2,7,47,1100,1101]] rfl ⟨hg38,trivial⟩ ?_
    obtain ⟨x2,hk55,h⟩ := bind_some h
    refine Tri.loop (K1 := [.code [(8,0),(1,0),(0,0)] 0]) (K2 := [.blk 0,.code [] 9]) (fun (v18,v19,v20) => ⟨[(0,.str a0),(2,.ptr 2 0),(4,.sl 1101 0),(5,.i v16),(7,.ptr 7 0),(8,.i v18),(50,.slp 1101 0 ((1 : Int).toNat) (v1.length - (1 : Int).toNat)),(51,.i ((v1.length - (1 : Int).toNat : Nat) : Int)),(52,.i v19)],[(2,.box [.i 0,.sl 1100 0]),(7,.box [.i v16,.sl 47 0]),(47,.arr 3 0 0 (.ints v20)),(1100,.arr 3 0 0 (.ints [])),(1101,.arr 9 0 0 (.strs v1))]⟩) (fun x e σ' => match x with | (.inl v27) => e = .exit 0 ∧ σ' = ⟨[(0,.str a0),(2,.ptr 2 0),(4,.sl 1101 0),(5,.i v16),(7,.ptr 7 0)],[(2,.box [.i 0,.sl 1100 0]),(7,.box [.i v16,.sl 47 0]),(47,.arr 3 0 0 (.ints v27)),(1100,.arr 3 0 0 (.ints [])),(1101,.arr 9 0 0 (.strs v1))]⟩ | (.inr r) => e = .ret ∧ K96 r σ') hk55 rfl rfl ?_ ?_
    ·intro s x hs
     clear h
     have h := hs
     clear hs
     obtain ⟨v18,v19,v20⟩ := s
     refine Tri.f 1 [] [.keep [0,2,4,5,7,8,50,51,52,53] [2,7,47,1100,1101]] rfl trivial ?_
     rcases bif_some h with ⟨hd39,h⟩ | ⟨hd39,h⟩
     ·obtain ⟨hg40,h⟩ := grd_some h
      refine Tri.f 2 [.g true] [.keep [0,2,4,5,7,8,9,10,50,51,52] [2,7,47,1100,1101]] rfl ⟨hg40,hd39,trivial⟩ ?_
      obtain ⟨v21,hk41,h⟩ := bind_some h
      refine Tri.f 2 [.r ⟨[],.sl 1116 0,[(1116,.arr 9 0 0 (.strs v21))]⟩] [.keep [0,2,4,5,7,8,9,11,50,51,52,61] [2,7,47,1100,1101,1116]] rfl ⟨fun _ => (W27 (v1.getD ((1 : Int).toNat + v19.toNat) []) (32 : Int) v21 hk41).swap 1000 1116,trivial⟩ ?_
      rcases bif_some h with ⟨hd42,h⟩ | ⟨hd42,h⟩
      ·refine Tri.f 2 [.g true] [.ownc 2 1 1117 3,.swap 1117 1000,.keep [2,3] [2,1000]] rfl ⟨hd42,trivial⟩ ?_
       cases h
       exact Tri.ret rfl ⟨nofun,rfl,rfl,rfl⟩
      ·obtain ⟨hg43,h⟩ := grd_some h
       obtain ⟨⟨v22,v23⟩,hk44,h⟩ := bind_some h
       refine Tri.f 2 [.g false,.v (.tuple [.i v22,.bool v23])] [.keep [0,2,4,5,7,8,9,11,12,13,50,51,52] [2,7,47,1100,1101,1116]] rfl ⟨fun _ => W34 (v21.getD ((0 : Int).toNat) []) (v22,v23) hk44,hg43,hd42,trivial⟩ ?_
       obtain ⟨hg45,h⟩ := grd_some h
       obtain ⟨⟨v24,v25⟩,hk46,h⟩ := bind_some h
       rcases bif_some h with ⟨hd47,h⟩ | ⟨hd47,h⟩
       ·refine Tri.f 2 [.v (.tuple [.i v24,.bool v25]),.g true,.g true,.g true,.g true,.g true] [.keep [0,2,4,5,7,9,12,14,50,51,52,105] [2,7,47,1100,1101]] rfl ⟨rfl,rfl,rfl,rfl,hd47,fun _ => W37 (v21.getD ((1 : Int).toNat) []) (v24,v25) hk46,hg45,trivial⟩ ?_
        refine Tri.f 2 [.g true] [.ownc 2 1 1118 3,.swap 1118 1000,.keep [2,3] [2,1000]] rfl ⟨rfl,trivial⟩ ?_
        cases h
        exact Tri.ret rfl ⟨nofun,rfl,rfl,rfl⟩
       ·rcases bif_some h with ⟨hd48,h⟩ | ⟨hd48,h⟩
        ·refine Tri.f 2 [.v (.tuple [.i v24,.bool v25]),.g false,.g true,.g true,.g true,.g true] [.keep [0,2,4,5,7,9,12,14,50,51,52,105] [2,7,47,1100,1101]] rfl ⟨rfl,rfl,rfl,hd48,hd47,fun _ => W37 (v21.getD ((1 : Int).toNat) []) (v24,v25) hk46,hg45,trivial⟩ ?_
         refine Tri.f 2 [.g true] [.ownc 2 1 1119 3,.swap 1119 1000,.keep [2,3] [2,1000]] rfl ⟨rfl,trivial⟩ ?_
         cases h
         exact Tri.ret rfl ⟨nofun,rfl,rfl,rfl⟩
        ·rcases bif_some h with ⟨hd49,h⟩ | ⟨hd49,h⟩
         ·refine Tri.f 2 [.v (.tuple [.i v24,.bool v25]),.g false,.g false,.g true,.g true,.g true] [.keep [0,2,4,5,7,9,12,14,50,51,52,105] [2,7,47,1100,1101]] rfl ⟨rfl,rfl,hd49,hd48,hd47,fun _ => W37 (v21.getD ((1 : Int).toNat) []) (v24,v25) hk46,hg45,trivial⟩ ?_
          refine Tri.f 2 [.g true] [.ownc 2 1 1120 3,.swap 1120 1000,.keep [2,3] [2,1000]] rfl ⟨rfl,trivial⟩ ?_
          cases h
          exact Tri.ret rfl ⟨nofun,rfl,rfl,rfl⟩
         ·rcases bif_some h with ⟨hd50,h⟩ | ⟨hd50,h⟩
          ·refine Tri.f 2 [.v (.tuple [.i v24,.bool v25]),.g false,.g false,.g false,.g true,.g true] [.keep [0,2,4,5,7,9,12,14,50,51,52,105] [2,7,47,1100,1101]] rfl ⟨rfl,hd50,hd49,hd48,hd47,fun _ => W37 (v21.getD ((1 : Int).toNat) []) (v24,v25) hk46,hg45,trivial⟩ ?_
           refine Tri.f 2 [.g true] [.ownc 2 1 1121 3,.swap 1121 1000,.keep [2,3] [2,1000]] rfl ⟨rfl,trivial⟩ ?_
           cases h
           exact Tri.ret rfl ⟨nofun,rfl,rfl,rfl⟩
          ·rcases bif_some h with ⟨hd51,h⟩ | ⟨hd51,h⟩
           ·refine Tri.f 2 [.v (.tuple [.i v24,.bool v25]),.g false,.g false,.g false,.g false,.g true] [.keep [0,2,4,5,7,9,12,14,50,51,52,105] [2,7,47,1100,1101]] rfl ⟨hd51,hd50,hd49,hd48,hd47,fun _ => W37 (v21.getD ((1 : Int).toNat) []) (v24,v25) hk46,hg45,trivial⟩ ?_
            refine Tri.f 2 [.g true] [.ownc 2 1 1122 3,.swap 1122 1000,.keep [2,3] [2,1000]] rfl ⟨rfl,trivial⟩ ?_
            cases h
            exact Tri.ret rfl ⟨nofun,rfl,rfl,rfl⟩
           ·obtain ⟨v26,hk52,h⟩ := bind_some h
            refine Tri.f 2 [.v (.tuple [.i v24,.bool v25]),.g false,.g false,.g false,.g false,.g false,.v (.bool v26)] [.keep [0,2,4,5,7,9,12,14,50,51,52,105] [2,7,47,1100,1101]] rfl ⟨fun _ => W16 v24 (-500 : Int) (500 : Int) v26 hk52,hd51,hd50,hd49,hd48,hd47,fun _ => W37 (v21.getD ((1 : Int).toNat) []) (v24,v25) hk46,hg45,trivial⟩ ?_
            rcases bif_some h with ⟨hd53,h⟩ | ⟨hd53,h⟩
            ·refine Tri.f 2 [.g true] [.ownc 2 1 1123 3,.swap 1123 1000,.keep [2,3] [2,1000]] rfl ⟨hd53,trivial⟩ ?_
             cases h
             exact Tri.ret rfl ⟨nofun,rfl,rfl,rfl⟩
            ·obtain ⟨hg54,h⟩ := grd_some h
             refine Tri.f 3 [.g false] [.keep [0,2,4,5,7,8,50,51,52] [2,7,47,1100,1101]] rfl ⟨hg54,hd53,trivial⟩ ?_
             refine Tri.f 1 [] [.keep [0,2,4,5,7,8,50,51,52] [2,7,47,1100,1101]] rfl trivial ?_
             cases h
             exact Tri.nil ⟨rfl,rfl⟩
     ·refine Tri.f 1 [.g false] [.keep [0,2,4,5,7] [2,7,47,1100,1101]] rfl ⟨hd39,trivial⟩ ?_
      cases h
      exact Tri.out 0 rfl ⟨nofun,rfl,rfl⟩
    ·intro e σ' hne hq
     rcases x2 with v27 | r
     ·obtain ⟨rfl,rfl⟩ := hq
      refine TriX.exit (K' := [.code [] 9]) rfl ?_
      obtain ⟨v28,hk56,h⟩ := bind_some h
      refine Tri.f 1 [.v (.str v28)] [.keep [2,4,5,7,119] [2,7,47,1100,1101]] rfl ⟨fun _ => W26 v16 v27 v28 hk56,trivial⟩ ?_
      rcases bif_some h with ⟨hd57,h⟩ | ⟨hd57,h⟩
      ·refine Tri.f 2 [.g true] [.ownc 2 1 1124 3,.swap 1124 1000,.keep [2,3] [2,1000]] rfl ⟨hd57,trivial⟩ ?_
       cases h
       exact Tri.ret rfl ⟨.inl rfl,rfl,rfl⟩
      ·obtain ⟨v29,hk58,h⟩ := bind_some h
       refine Tri.f 2 [.g false,.r ⟨[],.sl 1125 0,[(1125,.arr 3 0 0 (.ints v29))]⟩] [.swap 1125 1000,.keep [2,3] [2,1000]] rfl ⟨fun _ => (W38 v27 v29 hk58).swap 1000 1125,hd57,trivial⟩ ?_
       cases h
       exact Tri.ret rfl ⟨.inl rfl,rfl,rfl⟩
     ·obtain ⟨rfl,hq⟩ := hq
      cases h
      exact TriX.ret ⟨.inl rfl,hq⟩
noncomputable def E154 : Env := ⟨Tryd.prog,tys,(Tryd.f17.body).getD .skip,37,tysOk,mixedOk⟩
abbrev K97 (r : Bool) (σ' : ASt) : Prop := isRes E154.T Tryd.f17 (.bool r) [] σ'
noncomputable def l_spec_IsValidGame_0 (a1 : List Int) (v1 : Int) : Option (Int ⊕ (Unit ⊕ Bool)) :=
bif decide (v1 < (a1.length : Int)) then
(grd (0 ≤ v1 ∧ v1 < (a1.length : Int)) <|
(m_spec_l1In (a1.getD v1.toNat 0) (-500 : Int) (500 : Int)).bind fun v2 =>
bif !v2 then
(some (.inr (.inr false)))
else
(some (.inl (IntKind.i64.wrap (v1 + 1)))))
else
(some (.inr (.inl ())))
noncomputable def m_spec_IsValidGame (a0 : Int) (a1 : List Int) : Option Bool :=
(iter (l_spec_IsValidGame_0 a1) (0 : Int)).bind fun
| (.inl _) => (
(m_spec_l1In a0 (1 : Int) (5 : Int)).bind fun v3 =>
bif v3 then
((m_spec_CountCoalitions a0).bind fun v4 =>
bif (a1.length : Int) == v4 then
(grd ((0 : Int) ≤ (0 : Int) ∧ (0 : Int) < (a1.length : Int)) <|
some ((a1.getD ((0 : Int).toNat) 0) == 0))
else
(some false))
else
(some false))
| (.inr r) => some r
theorem W40 (a0 : Int) (a1 : List Int) (r : Bool) (h : m_spec_IsValidGame a0 a1 = some r) : AM.Spec Tryd.prog 17 [.agg [.i a0,.list (.ints a1)]] [] (.bool r) [] := by
 refine spec_of (E := E154) Tryd.func17 rfl rfl rfl rfl ?_
 refine Tri.f 2 [] [.keep [1,3] [1]] rfl trivial ?_
 obtain ⟨x1,hk5,h⟩ := bind_some h
 refine Tri.loop (K1 := [.code [(1,0),(1,0),(0,0)] 0]) (K2 := [.blk 0,.code [] 2]) (fun v1 => ⟨[(1,.ptr 1 0),(3,.i v1)],[(1,.box [.i a0,.list (.ints a1)])]⟩) (fun x e σ' => match x with | (.inl _) => e = .exit 0 ∧ σ' = ⟨[(1,.ptr 1 0)],[(1,.box [.i a0,.list (.ints a1)])]⟩ | (.inr r) => e = .ret ∧ K97 r σ') hk5 rfl rfl ?_ ?_
 ·intro v1 x hs
  clear h
  have h := hs
  clear hs
  refine Tri.f 1 [] [.keep [1,3,8] [1]] rfl trivial ?_
  rcases bif_some h with ⟨hd1,h⟩ | ⟨hd1,h⟩
  ·obtain ⟨hg2,h⟩ := grd_some h
   obtain ⟨v2,hk3,h⟩ := bind_some h
   refine Tri.f 2 [.g true,.v (.bool v2)] [.keep [1,3,17] [1]] rfl ⟨fun _ => W5 (a1.getD v1.toNat 0) (-500 : Int) (500 : Int) v2 hk3,hg2,hd1,trivial⟩ ?_
   rcases bif_some h with ⟨hd4,h⟩ | ⟨hd4,h⟩
   ·refine Tri.f 2 [.g true] [.keep [2] []] rfl ⟨hd4,trivial⟩ ?_
    cases h
    exact Tri.ret rfl ⟨nofun,rfl,rfl,rfl⟩
   ·refine Tri.f 2 [.g false] [.keep [1,3] [1]] rfl ⟨hd4,trivial⟩ ?_
    cases h
    exact Tri.nil ⟨rfl,rfl⟩
  ·refine Tri.f 1 [.g false] [.keep [1] [1]] rfl ⟨hd1,trivial⟩ ?_
   cases h
   exact Tri.out 0 rfl ⟨nofun,rfl,rfl⟩
 ·intro e σ' hne hq
  rcases x1 with _ | r
  ·obtain ⟨rfl,rfl⟩ := hq
   refine TriX.exit (K' := [.code [] 2]) rfl ?_
   obtain ⟨v3,hk6,h⟩ := bind_some h
   rcases bif_some h with ⟨hd7,h⟩ | ⟨hd7,h⟩
   ·obtain ⟨v4,hk8,h⟩ := bind_some h
    rcases bif_some h with ⟨hd9,h⟩ | ⟨hd9,h⟩
    ·obtain ⟨hg10,h⟩ := grd_some h
     refine Tri.f 1 [.v (.bool v3),.g true,.v (.i v4),.g true] [.keep [2] []] rfl ⟨hg10,hd9,fun _ => W6 a0 v4 hk8,hd7,fun _ => W5 a0 (1 : Int) (5 : Int) v3 hk6,trivial⟩ ?_
     cases h
     exact Tri.ret rfl ⟨.inl rfl,rfl,rfl⟩
    ·refine Tri.f 1 [.v (.bool v3),.g true,.v (.i v4),.g false] [.keep [2] []] rfl ⟨hd9,fun _ => W6 a0 v4 hk8,hd7,fun _ => W5 a0 (1 : Int) (5 : Int) v3 hk6,trivial⟩ ?_
     cases h
     exact Tri.ret rfl ⟨.inl rfl,rfl,rfl⟩
   ·refine Tri.f 1 [.v (.bool v3),.g false,.g false] [.keep [2] []] rfl ⟨rfl,hd7,fun _ => W5 a0 (1 : Int) (5 : Int) v3 hk6,trivial⟩ ?_
    cases h
    exact Tri.ret rfl ⟨.inl rfl,rfl,rfl⟩
  ·obtain ⟨rfl,hq⟩ := hq
   cases h
   exact TriX.ret ⟨.inl rfl,hq⟩
noncomputable def E155 : Env := ⟨Tryd.prog,tys,(Tryd.f21.body).getD .skip,31,tysOk,mixedOk⟩
abbrev K98 (r : List UInt8) (σ' : ASt) : Prop := isRes E155.T Tryd.f21 (.str r) [] σ'
noncomputable def l_spec_FormatInt_0 : (Int × (List UInt8)) → Option ((Int × (List UInt8)) ⊕ ((List UInt8)))
 | (v1,v2) => (
bif v1 != 0 then
(grd ((10 : Int) ≠ 0) <|
bif decide ((v1.tmod (10 : Int)) < 0) then
(grd (0 ≤ IntKind.u8.wrap (IntKind.i64.wrap ((48 : Int) + (IntKind.i64.wrap ((0 : Int) - (v1.tmod (10 : Int)))))) ∧ IntKind.u8.wrap (IntKind.i64.wrap ((48 : Int) + (IntKind.i64.wrap ((0 : Int) - (v1.tmod (10 : Int)))))) < 256) <|
grd ((([UInt8.ofNat (IntKind.u8.wrap (IntKind.i64.wrap ((48 : Int) + (IntKind.i64.wrap ((0 : Int) - (v1.tmod (10 : Int))))))).toNat].length + v2.length : Nat) : Int) ≤ 9223372036854775807) <|
grd ((10 : Int) ≠ 0) <|
some (.inl (IntKind.i64.wrap (v1.tdiv (10 : Int)),[UInt8.ofNat (IntKind.u8.wrap (IntKind.i64.wrap ((48 : Int) + (IntKind.i64.wrap ((0 : Int) - (v1.tmod (10 : Int))))))).toNat] ++ v2)))
else
(grd (0 ≤ IntKind.u8.wrap (IntKind.i64.wrap ((48 : Int) + (v1.tmod (10 : Int)))) ∧ IntKind.u8.wrap (IntKind.i64.wrap ((48 : Int) + (v1.tmod (10 : Int)))) < 256) <|
grd ((([UInt8.ofNat (IntKind.u8.wrap (IntKind.i64.wrap ((48 : Int) + (v1.tmod (10 : Int))))).toNat].length + v2.length : Nat) : Int) ≤ 9223372036854775807) <|
grd ((10 : Int) ≠ 0) <|
some (.inl (IntKind.i64.wrap (v1.tdiv (10 : Int)),[UInt8.ofNat (IntKind.u8.wrap (IntKind.i64.wrap ((48 : Int) + (v1.tmod (10 : Int))))).toNat] ++ v2))))
else
(some (.inr v2)))
noncomputable def m_spec_FormatInt (a0 : Int) : Option (List UInt8) :=
bif a0 == 0 then
(some ([48] : List UInt8))
else
((iter (l_spec_FormatInt_0) (a0,[])).bind fun
| v3 => (
bif decide (a0 < 0) then
(grd (((([45] : List UInt8).length + v3.length : Nat) : Int) ≤ 9223372036854775807) <|
some (([45] : List UInt8) ++ v3))
else
(some v3)))
theorem W41 (a0 : Int) (r : List UInt8) (h : m_spec_FormatInt a0 = some r) : AM.Spec Tryd.prog 21 [.i a0] [] (.str r) [] := by
 refine spec_of (E := E155) Tryd.func21 rfl rfl rfl rfl ?_
 refine Tri.f 2 [] [.keep [0,7] []] rfl trivial ?_
 rcases bif_some h with ⟨hd1,h⟩ | ⟨hd1,h⟩
 ·refine Tri.f 2 [.g true] [.keep [2] []] rfl ⟨hd1,trivial⟩ ?_
  cases h
  exact Tri.ret rfl ⟨.inl rfl,rfl,rfl⟩
 ·refine Tri.f 3 [.g false] [.keep [0,3,4] []] rfl ⟨hd1,trivial⟩ ?_
  obtain ⟨v3,hk11,h⟩ := bind_some h
  refine Tri.loop (K1 := [.code [(4,0),(0,0),(0,0)] 0]) (K2 := [.blk 0,.code [] 5]) (fun (v1,v2) => ⟨[(0,.i v1),(3,.bool (decide (a0 < 0))),(4,.str v2)],[]⟩) (fun x e σ' => match x with | v3 => e = .exit 0 ∧ σ' = ⟨[(3,.bool (decide (a0 < 0))),(4,.str v3)],[]⟩) hk11 rfl rfl ?_ ?_
  ·intro s x hs
   clear h
   have h := hs
   clear hs
   obtain ⟨v1,v2⟩ := s
   refine Tri.f 1 [] [.keep [0,3,4,11] []] rfl trivial ?_
   rcases bif_some h with ⟨hd2,h⟩ | ⟨hd2,h⟩
   ·obtain ⟨hg3,h⟩ := grd_some h
    refine Tri.f 3 [.g true] [.keep [0,3,4,5,15] []] rfl ⟨hg3,hd2,trivial⟩ ?_
    rcases bif_some h with ⟨hd4,h⟩ | ⟨hd4,h⟩
    ·obtain ⟨hg5,h⟩ := grd_some h
     obtain ⟨hg6,h⟩ := grd_some h
     refine Tri.f 3 [.g true] [.keep [0,3,4] []] rfl ⟨hg6,hg5,hd4,trivial⟩ ?_
     obtain ⟨hg7,h⟩ := grd_some h
     refine Tri.f 1 [] [.keep [0,3,4] []] rfl ⟨hg7,trivial⟩ ?_
     cases h
     exact Tri.nil ⟨rfl,rfl⟩
    ·obtain ⟨hg8,h⟩ := grd_some h
     obtain ⟨hg9,h⟩ := grd_some h
     obtain ⟨hg10,h⟩ := grd_some h
     refine Tri.f 3 [.g false] [.keep [0,3,4] []] rfl ⟨hg10,hg9,hg8,hd4,trivial⟩ ?_
     cases h
     exact Tri.nil ⟨rfl,rfl⟩
   ·refine Tri.f 1 [.g false] [.keep [3,4] []] rfl ⟨hd2,trivial⟩ ?_
    cases h
    exact Tri.out 0 rfl ⟨nofun,rfl,rfl⟩
  ·intro e σ' hne hq
   obtain ⟨rfl,rfl⟩ := hq
   refine TriX.exit (K' := [.code [] 5]) rfl ?_
   refine Tri.f 1 [] [.keep [4,27] []] rfl trivial ?_
   rcases bif_some h with ⟨hd12,h⟩ | ⟨hd12,h⟩
   ·obtain ⟨hg13,h⟩ := grd_some h
    refine Tri.f 2 [.g true] [.keep [2] []] rfl ⟨hg13,hd12,trivial⟩ ?_
    cases h
    exact Tri.ret rfl ⟨.inl rfl,rfl,rfl⟩
   ·refine Tri.f 2 [.g false] [.keep [2] []] rfl ⟨hd12,trivial⟩ ?_
    cases h
    exact Tri.ret rfl ⟨.inl rfl,rfl,rfl⟩
noncomputable def E156 : Env := ⟨Tryd.prog,tys,(Tryd.f46.body).getD .skip,5,tysOk,mixedOk⟩
abbrev K99 (r : Bool) (σ' : ASt) : Prop := isRes E156.T Tryd.f46 (.bool r) [] σ'
noncomputable def m_spec_l2Good (a0 : Int) : Option Bool :=
(m_spec_l1In a0 (0 : Int) (31 : Int)).bind fun v1 =>
some v1
theorem W42 (a0 : Int) (r : Bool) (h : m_spec_l2Good a0 = some r) : AM.Spec Tryd.prog 46 [.i a0] [] (.bool r) [] := by
 refine spec_of (E := E156) Tryd.func46 rfl rfl rfl rfl ?_
 refine Tri.f 1 [] [.keep [0] []] rfl trivial ?_
 obtain ⟨v1,hk1,h⟩ := bind_some h
 refine Tri.f 1 [.v (.bool v1)] [.keep [2] []] rfl ⟨fun _ => W5 a0 (0 : Int) (31 : Int) v1 hk1,trivial⟩ ?_
 cases h
 exact Tri.ret rfl ⟨.inl rfl,rfl,rfl⟩
noncomputable def E157 : Env := ⟨Tryd.prog,tys,(Tryd.f22.body).getD .skip,24,tysOk,mixedOk⟩
abbrev K100 (r : List UInt8) (σ' : ASt) : Prop := isRes E157.T Tryd.f22 (.str r) [] σ'
noncomputable def l_spec_FormatCoalition_0 (a0 : Int) : ((List UInt8) × Int) → Option (((List UInt8) × Int) ⊕ ((List UInt8)))
 | (v2,v3) => (
bif decide (v3 < 5) then
((m_spec_HasPlayer a0 v3).bind fun v4 =>
bif v4 then
(grd (0 ≤ v3 ∧ v3 ≤ IntKind.i64.wrap (v3 + 1) ∧ IntKind.i64.wrap (v3 + 1) ≤ (([97,98,99,100,101] : List UInt8).length : Int)) <|
grd (((v2.length + ((([97,98,99,100,101] : List UInt8).drop v3.toNat).take ((IntKind.i64.wrap (v3 + 1)).toNat - v3.toNat)).length : Nat) : Int) ≤ 9223372036854775807) <|
some (.inl (v2 ++ ((([97,98,99,100,101] : List UInt8).drop v3.toNat).take ((IntKind.i64.wrap (v3 + 1)).toNat - v3.toNat)),IntKind.i64.wrap (v3 + 1))))
else
(some (.inl (v2,IntKind.i64.wrap (v3 + 1)))))
else
(some (.inr v2)))
noncomputable def m_spec_FormatCoalition (a0 : Int) : Option (List UInt8) :=
(m_spec_l2Good a0).bind fun v1 =>
bif !v1 then
(some [])
else
((iter (l_spec_FormatCoalition_0 a0) ([],(0 : Int))).bind fun
| v5 => (
bif v5 == [] then
(some ([45] : List UInt8))
else
(some v5)))
theorem W43 (a0 : Int) (r : List UInt8) (h : m_spec_FormatCoalition a0 = some r) : AM.Spec Tryd.prog 22 [.i a0] [] (.str r) [] := by
 refine spec_of (E := E157) Tryd.func22 rfl rfl rfl rfl ?_
 refine Tri.f 1 [] [.keep [0] []] rfl trivial ?_
 obtain ⟨v1,hk1,h⟩ := bind_some h
 refine Tri.f 1 [.v (.bool v1)] [.keep [0,7] []] rfl ⟨fun _ => W42 a0 v1 hk1,trivial⟩ ?_
 rcases bif_some h with ⟨hd2,h⟩ | ⟨hd2,h⟩
 ·refine Tri.f 2 [.g true] [.keep [2] []] rfl ⟨hd2,trivial⟩ ?_
  cases h
  exact Tri.ret rfl ⟨.inl rfl,rfl,rfl⟩
 ·refine Tri.f 3 [.g false] [.keep [0,3,4] []] rfl ⟨hd2,trivial⟩ ?_
  obtain ⟨v5,hk8,h⟩ := bind_some h
  refine Tri.loop (K1 := [.code [(3,0),(1,0),(0,0)] 0]) (K2 := [.blk 0,.code [] 4]) (fun (v2,v3) => ⟨[(0,.i a0),(3,.str v2),(4,.i v3)],[]⟩) (fun x e σ' => match x with | v5 => e = .exit 0 ∧ σ' = ⟨[(3,.str v5)],[]⟩) hk8 rfl rfl ?_ ?_
  ·intro s x hs
   clear h
   have h := hs
   clear hs
   obtain ⟨v2,v3⟩ := s
   refine Tri.f 1 [] [.keep [0,3,4,9] []] rfl trivial ?_
   rcases bif_some h with ⟨hd3,h⟩ | ⟨hd3,h⟩
   ·obtain ⟨v4,hk4,h⟩ := bind_some h
    refine Tri.f 2 [.g true,.v (.bool v4)] [.keep [0,3,4,14] []] rfl ⟨fun _ => W8 a0 v3 v4 hk4,hd3,trivial⟩ ?_
    rcases bif_some h with ⟨hd5,h⟩ | ⟨hd5,h⟩
    ·obtain ⟨hg6,h⟩ := grd_some h
     obtain ⟨hg7,h⟩ := grd_some h
     refine Tri.f 3 [.g true] [.keep [0,3,4] []] rfl ⟨hg7,hg6,hd5,trivial⟩ ?_
     cases h
     exact Tri.nil ⟨rfl,rfl⟩
    ·refine Tri.f 2 [.g false] [.keep [0,3,4] []] rfl ⟨hd5,trivial⟩ ?_
     cases h
     exact Tri.nil ⟨rfl,rfl⟩
   ·refine Tri.f 1 [.g false] [.keep [3] []] rfl ⟨hd3,trivial⟩ ?_
    cases h
    exact Tri.out 0 rfl ⟨nofun,rfl,rfl⟩
  ·intro e σ' hne hq
   obtain ⟨rfl,rfl⟩ := hq
   refine TriX.exit (K' := [.code [] 4]) rfl ?_
   refine Tri.f 1 [] [.keep [3,22] []] rfl trivial ?_
   rcases bif_some h with ⟨hd9,h⟩ | ⟨hd9,h⟩
   ·refine Tri.f 2 [.g true] [.keep [2] []] rfl ⟨hd9,trivial⟩ ?_
    cases h
    exact Tri.ret rfl ⟨.inl rfl,rfl,rfl⟩
   ·refine Tri.f 2 [.g false] [.keep [2] []] rfl ⟨hd9,trivial⟩ ?_
    cases h
    exact Tri.ret rfl ⟨.inl rfl,rfl,rfl⟩
noncomputable def E158 : Env := ⟨Tryd.prog,tys,(Tryd.f7.body).getD .skip,40,tysOk,mixedOk⟩
abbrev K101 (r : List UInt8) (σ' : ASt) : Prop := isRes E158.T Tryd.f7 (.str r) [] σ'
noncomputable def l_spec_FormatGame_0 (a1 : List Int) : ((List UInt8) × Int) → Option (((List UInt8) × Int) ⊕ ((List UInt8)))
 | (v3,v4) => (
bif decide (v4 < (a1.length : Int)) then
(grd (0 ≤ v4 ∧ v4 < (a1.length : Int)) <|
bif (a1.getD v4.toNat 0) != 0 then
((m_spec_FormatCoalition v4).bind fun v5 =>
grd (((v3.length + v5.length : Nat) : Int) ≤ 9223372036854775807) <|
grd ((((v3 ++ v5).length + ([32] : List UInt8).length : Nat) : Int) ≤ 9223372036854775807) <|
grd (0 ≤ v4 ∧ v4 < (a1.length : Int)) <|
(m_spec_FormatInt (a1.getD v4.toNat 0)).bind fun v6 =>
grd (((((v3 ++ v5) ++ ([32] : List UInt8)).length + v6.length : Nat) : Int) ≤ 9223372036854775807) <|
grd ((((((v3 ++ v5) ++ ([32] : List UInt8)) ++ v6).length + ([10] : List UInt8).length : Nat) : Int) ≤ 9223372036854775807) <|
some (.inl ((((v3 ++ v5) ++ ([32] : List UInt8)) ++ v6) ++ ([10] : List UInt8),IntKind.i64.wrap (v4 + 1))))
else
(some (.inl (v3,IntKind.i64.wrap (v4 + 1)))))
else
(some (.inr v3)))
noncomputable def m_spec_FormatGame (a0 : Int) (a1 : List Int) : Option (List UInt8) :=
(m_spec_IsValidGame a0 a1).bind fun v1 =>
bif !v1 then
(some [])
else
((m_spec_FormatInt a0).bind fun v2 =>
grd (((([112,108,97,121,101,114,115,32] : List UInt8).length + v2.length : Nat) : Int) ≤ 9223372036854775807) <|
grd ((((([112,108,97,121,101,114,115,32] : List UInt8) ++ v2).length + ([10] : List UInt8).length : Nat) : Int) ≤ 9223372036854775807) <|
(iter (l_spec_FormatGame_0 a1) ((([112,108,97,121,101,114,115,32] : List UInt8) ++ v2) ++ ([10] : List UInt8),(1 : Int))).bind fun
| v7 => (
some v7))
theorem W44 (a0 : Int) (a1 : List Int) (r : List UInt8) (h : m_spec_FormatGame a0 a1 = some r) : AM.Spec Tryd.prog 7 [.agg [.i a0,.list (.ints a1)]] [] (.str r) [] := by
 refine spec_of (E := E158) Tryd.func7 rfl rfl rfl rfl ?_
 refine Tri.f 1 [] [.keep [1] [1]] rfl trivial ?_
 obtain ⟨v1,hk1,h⟩ := bind_some h
 refine Tri.f 1 [.v (.bool v1)] [.keep [1,7] [1]] rfl ⟨fun _ => W40 a0 a1 v1 hk1,trivial⟩ ?_
 rcases bif_some h with ⟨hd2,h⟩ | ⟨hd2,h⟩
 ·refine Tri.f 2 [.g true] [.keep [2] []] rfl ⟨hd2,trivial⟩ ?_
  cases h
  exact Tri.ret rfl ⟨.inl rfl,rfl,rfl⟩
 ·obtain ⟨v2,hk3,h⟩ := bind_some h
  obtain ⟨hg4,h⟩ := grd_some h
  obtain ⟨hg5,h⟩ := grd_some h
  refine Tri.f 3 [.g false,.v (.str v2)] [.keep [1,3,4] [1]] rfl ⟨hg5,hg4,fun _ => W41 a0 v2 hk3,hd2,trivial⟩ ?_
  obtain ⟨v7,hk16,h⟩ := bind_some h
  refine Tri.loop (K1 := [.code [(3,0),(1,0),(0,0)] 0]) (K2 := [.blk 0,.code [] 4]) (fun (v3,v4) => ⟨[(1,.ptr 1 0),(3,.str v3),(4,.i v4)],[(1,.box [.i a0,.list (.ints a1)])]⟩) (fun x e σ' => match x with | v7 => e = .exit 0 ∧ σ' = ⟨[(3,.str v7)],[]⟩) hk16 rfl rfl ?_ ?_
  ·intro s x hs
   clear h
   have h := hs
   clear hs
   obtain ⟨v3,v4⟩ := s
   refine Tri.f 1 [] [.keep [1,3,4,17] [1]] rfl trivial ?_
   rcases bif_some h with ⟨hd6,h⟩ | ⟨hd6,h⟩
   ·obtain ⟨hg7,h⟩ := grd_some h
    refine Tri.f 2 [.g true] [.keep [1,3,4,25] [1]] rfl ⟨hg7,hd6,trivial⟩ ?_
    rcases bif_some h with ⟨hd8,h⟩ | ⟨hd8,h⟩
    ·obtain ⟨v5,hk9,h⟩ := bind_some h
     obtain ⟨hg10,h⟩ := grd_some h
     obtain ⟨hg11,h⟩ := grd_some h
     obtain ⟨hg12,h⟩ := grd_some h
     obtain ⟨v6,hk13,h⟩ := bind_some h
     obtain ⟨hg14,h⟩ := grd_some h
     obtain ⟨hg15,h⟩ := grd_some h
     refine Tri.f 3 [.g true,.v (.str v5),.v (.str v6)] [.keep [1,3,4] [1]] rfl ⟨hg15,hg14,fun _ => W41 (a1.getD v4.toNat 0) v6 hk13,hg12,hg11,hg10,fun _ => W43 v4 v5 hk9,hd8,trivial⟩ ?_
     cases h
     exact Tri.nil ⟨rfl,rfl⟩
    ·refine Tri.f 2 [.g false] [.keep [1,3,4] [1]] rfl ⟨hd8,trivial⟩ ?_
     cases h
     exact Tri.nil ⟨rfl,rfl⟩
   ·refine Tri.f 1 [.g false] [.keep [3] []] rfl ⟨hd6,trivial⟩ ?_
    cases h
    exact Tri.out 0 rfl ⟨nofun,rfl,rfl⟩
  ·intro e σ' hne hq
   obtain ⟨rfl,rfl⟩ := hq
   refine TriX.exit (K' := [.code [] 4]) rfl ?_
   refine Tri.f 1 [] [.keep [2] []] rfl trivial ?_
   cases h
   exact Tri.ret rfl ⟨.inl rfl,rfl,rfl⟩
noncomputable def E159 : Env := ⟨Tryd.prog,tys,(Tryd.f43.body).getD .skip,26,tysOk,mixedOk⟩
abbrev K102 (r : Bool) (σ' : ASt) : Prop := isRes E159.T Tryd.f43 (.bool r) [] σ'
noncomputable def l_spec_l8Ints_0 (a0 a1 : List Int) (v1 : Int) : Option (Int ⊕ (Unit ⊕ Bool)) :=
bif decide (v1 < (a0.length : Int)) then
(grd (0 ≤ v1 ∧ v1 < (a0.length : Int)) <|
grd (0 ≤ v1 ∧ v1 < (a1.length : Int)) <|
bif (a0.getD v1.toNat 0) != (a1.getD v1.toNat 0) then
(some (.inr (.inr false)))
else
(some (.inl (IntKind.i64.wrap (v1 + 1)))))
else
(some (.inr (.inl ())))
noncomputable def m_spec_l8Ints (a0 a1 : List Int) : Option Bool :=
bif (a0.length : Int) != (a1.length : Int) then
(some false)
else
((iter (l_spec_l8Ints_0 a0 a1) (0 : Int)).bind fun
| (.inl _) => (
some true)
| (.inr r) => some r)
theorem W45 (a0 a1 : List Int) (r : Bool) (h : m_spec_l8Ints a0 a1 = some r) : AM.Spec Tryd.prog 43 [.list (.ints a0),.list (.ints a1)] [] (.bool r) [] := by
 refine spec_of (E := E159) Tryd.func43 rfl rfl rfl rfl ?_
 refine Tri.f 2 [] [.keep [0,1,10] []] rfl trivial ?_
 rcases bif_some h with ⟨hd1,h⟩ | ⟨hd1,h⟩
 ·refine Tri.f 2 [.g true] [.keep [4] []] rfl ⟨hd1,trivial⟩ ?_
  cases h
  exact Tri.ret rfl ⟨.inl rfl,rfl,rfl⟩
 ·refine Tri.f 2 [.g false] [.keep [0,1,5] []] rfl ⟨hd1,trivial⟩ ?_
  obtain ⟨x1,hk6,h⟩ := bind_some h
  refine Tri.loop (K1 := [.code [(2,0),(1,0),(0,0)] 0]) (K2 := [.blk 0,.code [] 3]) (fun v1 => ⟨[(0,.list (.ints a0)),(1,.list (.ints a1)),(5,.i v1)],[]⟩) (fun x e σ' => match x with | (.inl _) => e = .exit 0 ∧ σ' = ⟨[],[]⟩ | (.inr r) => e = .ret ∧ K102 r σ') hk6 rfl rfl ?_ ?_
  ·intro v1 x hs
   clear h
   have h := hs
   clear hs
   refine Tri.f 1 [] [.keep [0,1,5,14] []] rfl trivial ?_
   rcases bif_some h with ⟨hd2,h⟩ | ⟨hd2,h⟩
   ·obtain ⟨hg3,h⟩ := grd_some h
    obtain ⟨hg4,h⟩ := grd_some h
    refine Tri.f 2 [.g true] [.keep [0,1,5,25] []] rfl ⟨hg4,hg3,hd2,trivial⟩ ?_
    rcases bif_some h with ⟨hd5,h⟩ | ⟨hd5,h⟩
    ·refine Tri.f 2 [.g true] [.keep [4] []] rfl ⟨hd5,trivial⟩ ?_
     cases h
     exact Tri.ret rfl ⟨nofun,rfl,rfl,rfl⟩
    ·refine Tri.f 2 [.g false] [.keep [0,1,5] []] rfl ⟨hd5,trivial⟩ ?_
     cases h
     exact Tri.nil ⟨rfl,rfl⟩
   ·refine Tri.f 1 [.g false] [.keep [] []] rfl ⟨hd2,trivial⟩ ?_
    cases h
    exact Tri.out 0 rfl ⟨nofun,rfl,rfl⟩
  ·intro e σ' hne hq
   rcases x1 with _ | r
   ·obtain ⟨rfl,rfl⟩ := hq
    refine TriX.exit (K' := [.code [] 3]) rfl ?_
    refine Tri.f 1 [] [.keep [4] []] rfl trivial ?_
    cases h
    exact Tri.ret rfl ⟨.inl rfl,rfl,rfl⟩
   ·obtain ⟨rfl,hq⟩ := hq
    cases h
    exact TriX.ret ⟨.inl rfl,hq⟩
noncomputable def E160 : Env := ⟨Tryd.prog,tys,(Tryd.f18.body).getD .skip,17,tysOk,mixedOk⟩
abbrev K103 (r : Bool) (σ' : ASt) : Prop := isRes E160.T Tryd.f18 (.bool r) [] σ'
noncomputable def m_spec_EqualGame (a0 : Int) (a1 : List Int) (a2 : Int) (a3 : List Int) : Option Bool :=
bif a0 == a2 then
((m_spec_l8Ints a1 a3).bind fun v1 =>
some v1)
else
(some false)
theorem W46 (a0 : Int) (a1 : List Int) (a2 : Int) (a3 : List Int) (r : Bool) (h : m_spec_EqualGame a0 a1 a2 a3 = some r) : AM.Spec Tryd.prog 18 [.agg [.i a0,.list (.ints a1)],.agg [.i a2,.list (.ints a3)]] [] (.bool r) [] := by
 refine spec_of (E := E160) Tryd.func18 rfl rfl rfl rfl ?_
 refine Tri.f 1 [] [.keep [2,3] [2,3]] rfl trivial ?_
 rcases bif_some h with ⟨hd1,h⟩ | ⟨hd1,h⟩
 ·obtain ⟨v1,hk2,h⟩ := bind_some h
  refine Tri.f 1 [.g true,.v (.bool v1)] [.keep [4] []] rfl ⟨fun _ => W45 a1 a3 v1 hk2,hd1,trivial⟩ ?_
  cases h
  exact Tri.ret rfl ⟨.inl rfl,rfl,rfl⟩
 ·refine Tri.f 1 [.g false] [.keep [4] []] rfl ⟨hd1,trivial⟩ ?_
  cases h
  exact Tri.ret rfl ⟨.inl rfl,rfl,rfl⟩
noncomputable def E161 : Env := ⟨Tryd.prog,tys,(Tryd.f61.body).getD .skip,12,tysOk,mixedOk⟩
abbrev K104 (u0 : Value) (a0 : List UInt8) (r : (List UInt8) × Int × Int) (σ' : ASt) : Prop := isRes E161.T Tryd.f61 (.str r.1) [(2140,.box [.lst u0 (.bytes a0),.i r.2.1,.i r.2.2])] σ'
noncomputable def m_spec_l1Pick_io1 (a0 : List UInt8) (a1 a2 : Int) (a3 : List (List UInt8)) : Option ((List UInt8) × Int × Int) :=
(m_spec_l1Below_io1 a0 a1 a2 (a3.length : Int)).bind fun (v1,v2,v3) =>
grd (0 ≤ v1 ∧ v1 < (a3.length : Int)) <|
some (a3.getD v1.toNat [],v2,v3)
theorem W47 (u0 : Value) (a0 : List UInt8) (a1 a2 : Int) (a3 : List (List UInt8)) (r : (List UInt8) × Int × Int) (h : m_spec_l1Pick_io1 a0 a1 a2 a3 = some r) : AM.Spec Tryd.prog 61 [.ptr 2140 0,.list (.strs a3)] [(2140,.box [.lst u0 (.bytes a0),.i a1,.i a2])] (.str r.1) [(2140,.box [.lst u0 (.bytes a0),.i r.2.1,.i r.2.2])] := by
 refine spec_of (E := E161) Tryd.func61 rfl rfl rfl rfl ?_
 refine Tri.f 1 [] [.keep [0,1] [2140]] rfl trivial ?_
 obtain ⟨⟨v1,v2,v3⟩,hk1,h⟩ := bind_some h
 obtain ⟨hg2,h⟩ := grd_some h
 refine Tri.f 1 [.r ⟨[2140],.i v1,[(2140,.box [.undf,.i v2,.i v3])]⟩] [.keep [4] [2140]] rfl ⟨hg2,(fun vf => ((W4 (vf 2140 0) a0 a1 a2 (a3.length : Int) (v1,v2,v3) hk1).swap 2060 2140)),trivial⟩ ?_
 cases h
 exact Tri.ret rfl ⟨.inl rfl,rfl,rfl⟩
noncomputable def E162 : Env := ⟨Tryd.prog,tys,(Tryd.f44.body).getD .skip,34,tysOk,mixedOk⟩
abbrev K105 (u0 : Value) (a0 : List UInt8) (r : (List UInt8) × Int × Int) (σ' : ASt) : Prop := isRes E162.T Tryd.f44 (.str r.1) [(2120,.box [.lst u0 (.bytes a0),.i r.2.1,.i r.2.2])] σ'
noncomputable def m_spec_l1Turned_io1 (a0 : List UInt8) (a1 a2 : Int) (a3 : List UInt8) (a4 : List (List UInt8)) : Option ((List UInt8) × Int × Int) :=
(m_spec_l1Below_io1 a0 a1 a2 (IntKind.i64.wrap ((a3.length : Int) + 1))).bind fun (v1,v2,v3) =>
(m_spec_l1Below_io1 a0 v2 v3 (6 : Int)).bind fun (v4,v5,v6) =>
bif v4 == 0 then
(grd (0 ≤ v1 ∧ v1 ≤ (a3.length : Int)) <|
(m_spec_l1Pick_io1 a0 v5 v6 a4).bind fun (v7,v8,v9) =>
grd ((((a3.take v1.toNat).length + v7.length : Nat) : Int) ≤ 9223372036854775807) <|
grd (0 ≤ v1 ∧ v1 ≤ (a3.length : Int)) <|
grd (((((a3.take v1.toNat) ++ v7).length + (a3.drop v1.toNat).length : Nat) : Int) ≤ 9223372036854775807) <|
some (((a3.take v1.toNat) ++ v7) ++ (a3.drop v1.toNat),v8,v9))
else
(bif v4 == 1 then
(grd (0 ≤ v1 ∧ v1 ≤ (a3.length : Int)) <|
some (a3.take v1.toNat,v5,v6))
else
(some (a3,v5,v6)))
theorem W48 (u0 : Value) (a0 : List UInt8) (a1 a2 : Int) (a3 : List UInt8) (a4 : List (List UInt8)) (r : (List UInt8) × Int × Int) (h : m_spec_l1Turned_io1 a0 a1 a2 a3 a4 = some r) : AM.Spec Tryd.prog 44 [.ptr 2120 0,.str a3,.list (.strs a4)] [(2120,.box [.lst u0 (.bytes a0),.i a1,.i a2])] (.str r.1) [(2120,.box [.lst u0 (.bytes a0),.i r.2.1,.i r.2.2])] := by
 refine spec_of (E := E162) Tryd.func44 rfl rfl rfl rfl ?_
 refine Tri.f 1 [] [.keep [0,1,2] [2120]] rfl trivial ?_
 obtain ⟨⟨v1,v2,v3⟩,hk1,h⟩ := bind_some h
 obtain ⟨⟨v4,v5,v6⟩,hk2,h⟩ := bind_some h
 refine Tri.f 3 [.r ⟨[2120],.i v1,[(2120,.box [.undf,.i v2,.i v3])]⟩,.r ⟨[2120],.i v4,[(2120,.box [.undf,.i v5,.i v6])]⟩] [.keep [0,1,2,7,14,15] [2120]] rfl ⟨(fun vf => ((W4 (vf 2120 0) a0 v2 v3 (6 : Int) (v4,v5,v6) hk2).swap 2060 2120)),(fun vf => ((W4 (vf 2120 0) a0 a1 a2 (IntKind.i64.wrap ((a3.length : Int) + 1)) (v1,v2,v3) hk1).swap 2060 2120)),trivial⟩ ?_
 rcases bif_some h with ⟨hd3,h⟩ | ⟨hd3,h⟩
 ·obtain ⟨hg4,h⟩ := grd_some h
  obtain ⟨⟨v7,v8,v9⟩,hk5,h⟩ := bind_some h
  obtain ⟨hg6,h⟩ := grd_some h
  obtain ⟨hg7,h⟩ := grd_some h
  obtain ⟨hg8,h⟩ := grd_some h
  refine Tri.f 2 [.g true,.r ⟨[2120],.str v7,[(2120,.box [.undf,.i v8,.i v9])]⟩] [.keep [6] [2120]] rfl ⟨hg8,hg7,hg6,(fun vf => ((W47 (vf 2120 0) a0 v5 v6 a4 (v7,v8,v9) hk5).swap 2140 2120)),hg4,hd3,trivial⟩ ?_
  cases h
  exact Tri.ret rfl ⟨.inl rfl,rfl,rfl⟩
 ·refine Tri.f 2 [.g false] [.keep [1,7,28] [2120]] rfl ⟨hd3,trivial⟩ ?_
  rcases bif_some h with ⟨hd9,h⟩ | ⟨hd9,h⟩
  ·obtain ⟨hg10,h⟩ := grd_some h
   refine Tri.f 2 [.g true] [.keep [6] [2120]] rfl ⟨hg10,hd9,trivial⟩ ?_
   cases h
   exact Tri.ret rfl ⟨.inl rfl,rfl,rfl⟩
  ·refine Tri.f 2 [.g false] [.keep [6] [2120]] rfl ⟨hd9,trivial⟩ ?_
   cases h
   exact Tri.ret rfl ⟨.inl rfl,rfl,rfl⟩
noncomputable def E163 : Env := ⟨Tryd.prog,tys,(Tryd.f19.body).getD .skip,12,tysOk,mixedOk⟩
abbrev K106 (r : List UInt8) (σ' : ASt) : Prop := isRes E163.T Tryd.f19 (.str r) [] σ'
noncomputable def m_spec_DrawParseGame (a0 : List UInt8) : Option (List UInt8) :=
(m_spec_l1New a0).bind fun (v1,v2,v3) =>
(m_spec_l8Draw_io1 v1 v2 v3 (4 : Int)).bind fun (v4,v5,v6,v7) =>
(m_spec_FormatGame v4 v5).bind fun v8 =>
(m_spec_l1Turned_io1 v1 v6 v7 v8 [([32] : List UInt8),([10] : List UInt8),([97] : List UInt8),([98,32,49,10] : List UInt8),([48] : List UInt8),([45] : List UInt8),([112,108,97,121,101,114,115,32,50,10] : List UInt8)]).bind fun (v9,_,_) =>
some v9
theorem W49 (a0 r : List UInt8) (h : m_spec_DrawParseGame a0 = some r) : AM.Spec Tryd.prog 19 [.list (.bytes a0)] [] (.str r) [] := by
 refine spec_of (E := E163) Tryd.func19 rfl rfl rfl rfl ?_
 refine Tri.f 1 [] [.keep [0] []] rfl trivial ?_
 obtain ⟨⟨v1,v2,v3⟩,hk1,h⟩ := bind_some h
 obtain ⟨⟨v4,v5,v6,v7⟩,hk2,h⟩ := bind_some h
 obtain ⟨v8,hk3,h⟩ := bind_some h
 obtain ⟨⟨v9,v10,v11⟩,hk4,h⟩ := bind_some h
 refine Tri.f 2 [.r ⟨[],.ptr 1100 0,[(1100,.box [.list (.bytes v1),.i v2,.i v3])]⟩,.r ⟨[1100],.agg [.i v4,.sl 1101 0],[(1101,.arr 3 0 0 (.ints v5)),(1100,.box [.undf,.i v6,.i v7])]⟩,.v (.str v8),.r ⟨[1100],.str v9,[(1100,.box [.undf,.i v10,.i v11])]⟩] [.keep [2] []] rfl ⟨(fun vf => ((W48 (vf 1100 0) v1 v6 v7 v8 [([32] : List UInt8),([10] : List UInt8),([97] : List UInt8),([98,32,49,10] : List UInt8),([48] : List UInt8),([45] : List UInt8),([112,108,97,121,101,114,115,32,50,10] : List UInt8)] (v9,v10,v11) hk4).swap 2120 1100)),fun _ => W44 v4 v5 v8 hk3,(fun vf => (((W13 (vf 1100 0) v1 v2 v3 (4 : Int) (v4,v5,v6,v7) hk2).swap 1000 1101).swap 2040 1100)),fun _ => (W1 a0 (v1,v2,v3) hk1).swap 1000 1100,trivial⟩ ?_
 cases h
 exact Tri.ret rfl ⟨.inl rfl,rfl,rfl⟩
noncomputable def E164 : Env := ⟨Tryd.prog,tys,(Tryd.f28.body).getD .skip,36,tysOk,mixedOk⟩
abbrev K107 (r : List (List UInt8)) (σ' : ASt) : Prop := isRes E164.T Tryd.f28 (.sl 1000 0) [(1000,.arr 9 0 0 (.strs r))] σ'
noncomputable def l_spec_SplitByte_0 (a0 : List UInt8) (a1 : Int) : (Int × Int × (List (List UInt8))) → Option ((Int × Int × (List (List UInt8))) ⊕ ((List (List UInt8))))
 | (v1,v2,v3) => (
bif decide (v2 ≤ (a0.length : Int)) then
(bif v2 == (a0.length : Int) then
(grd (0 ≤ v1 ∧ v1 ≤ v2 ∧ v2 ≤ (a0.length : Int)) <|
grd (v3.length + ([(a0.drop v1.toNat).take (v2.toNat - v1.toNat)] : List (List UInt8)).length ≤ room) <|
some (.inl (IntKind.i64.wrap (v2 + 1),IntKind.i64.wrap (v2 + 1),v3 ++ [(a0.drop v1.toNat).take (v2.toNat - v1.toNat)])))
else
(grd (0 ≤ v2 ∧ v2 < (a0.length : Int)) <|
bif ((a0.getD v2.toNat 0).toNat : Int) == a1 then
(grd (0 ≤ v1 ∧ v1 ≤ v2 ∧ v2 ≤ (a0.length : Int)) <|
grd (v3.length + ([(a0.drop v1.toNat).take (v2.toNat - v1.toNat)] : List (List UInt8)).length ≤ room) <|
some (.inl (IntKind.i64.wrap (v2 + 1),IntKind.i64.wrap (v2 + 1),v3 ++ [(a0.drop v1.toNat).take (v2.toNat - v1.toNat)])))
else
(some (.inl (v1,IntKind.i64.wrap (v2 + 1),v3)))))
else
(some (.inr v3)))
noncomputable def m_spec_SplitByte (a0 : List UInt8) (a1 : Int) : Option (List (List UInt8)) :=
(iter (l_spec_SplitByte_0 a0 a1) ((0 : Int),(0 : Int),[])).bind fun
| v4 => (
some v4)
theorem W50 (a0 : List UInt8) (a1 : Int) (r : List (List UInt8)) (h : m_spec_SplitByte a0 a1 = some r) : AM.Spec Tryd.prog 28 [.str a0,.int .u8 a1] [] (.sl 1000 0) [(1000,.arr 9 0 0 (.strs r))] := by
 refine spec_of (E := E164) Tryd.func28 rfl rfl rfl rfl ?_
 refine Tri.f 3 [] [.keep [0,1,5,6] [8]] rfl trivial ?_
 refine Tri.f 1 [] [.keep [0,1,5,6,7] [8]] rfl trivial ?_
 obtain ⟨v4,hk9,h⟩ := bind_some h
 refine Tri.loop (K1 := [.code [(3,0),(1,0),(0,0)] 0]) (K2 := [.blk 0,.code [] 4]) (fun (v1,v2,v3) => ⟨[(0,.str a0),(1,.int .u8 a1),(5,.sl 8 0),(6,.i v1),(7,.i v2)],[(8,.arr 9 0 0 (.strs v3))]⟩) (fun x e σ' => match x with | v4 => e = .exit 0 ∧ σ' = ⟨[(5,.sl 8 0)],[(8,.arr 9 0 0 (.strs v4))]⟩) hk9 rfl rfl ?_ ?_
 ·intro s x hs
  clear h
  have h := hs
  clear hs
  obtain ⟨v1,v2,v3⟩ := s
  refine Tri.f 1 [] [.keep [0,1,5,6,7,12] [8]] rfl trivial ?_
  rcases bif_some h with ⟨hd1,h⟩ | ⟨hd1,h⟩
  ·rcases bif_some h with ⟨hd2,h⟩ | ⟨hd2,h⟩
   ·refine Tri.f 2 [.g true,.g true] [.keep [0,1,5,6,7,25] [8]] rfl ⟨hd2,hd1,trivial⟩ ?_
    obtain ⟨hg3,h⟩ := grd_some h
    obtain ⟨hg4,h⟩ := grd_some h
    refine Tri.f 3 [.g true] [.keep [0,1,5,6,7] [8]] rfl ⟨hg4,hg3,rfl,trivial⟩ ?_
    refine Tri.f 1 [] [.rever 8,.keep [0,1,5,6,7] [8]] rfl trivial ?_
    cases h
    exact Tri.nil ⟨rfl,rfl⟩
   ·obtain ⟨hg5,h⟩ := grd_some h
    refine Tri.f 2 [.g true,.g false] [.keep [0,1,5,6,7,25] [8]] rfl ⟨hg5,hd2,hd1,trivial⟩ ?_
    rcases bif_some h with ⟨hd6,h⟩ | ⟨hd6,h⟩
    ·obtain ⟨hg7,h⟩ := grd_some h
     obtain ⟨hg8,h⟩ := grd_some h
     refine Tri.f 3 [.g true] [.keep [0,1,5,6,7] [8]] rfl ⟨hg8,hg7,hd6,trivial⟩ ?_
     refine Tri.f 1 [] [.rever 8,.keep [0,1,5,6,7] [8]] rfl trivial ?_
     cases h
     exact Tri.nil ⟨rfl,rfl⟩
    ·refine Tri.f 2 [.g false] [.keep [0,1,5,6,7] [8]] rfl ⟨hd6,trivial⟩ ?_
     cases h
     exact Tri.nil ⟨rfl,rfl⟩
  ·refine Tri.f 1 [.g false] [.keep [5] [8]] rfl ⟨hd1,trivial⟩ ?_
   cases h
   exact Tri.out 0 rfl ⟨nofun,rfl,rfl⟩
 ·intro e σ' hne hq
  obtain ⟨rfl,rfl⟩ := hq
  refine TriX.exit (K' := [.code [] 4]) rfl ?_
  refine Tri.f 1 [] [.swap 8 1000,.keep [4] [1000]] rfl trivial ?_
  cases h
  exact Tri.ret rfl ⟨.inl rfl,rfl,rfl⟩
noncomputable def E165 : Env := ⟨Tryd.prog,tys,(Tryd.f69.body).getD .skip,63,tysOk,mixedOk⟩
abbrev K108 (r : Int × Bool) (σ' : ASt) : Prop := isRes E165.T Tryd.f69 (.tuple [.i r.1,.bool r.2]) [] σ'
noncomputable def l_spec_l1Read_0 (a0 : List UInt8) : (Int × Int) → Option ((Int × Int) ⊕ (Int ⊕ ((Int × Bool))))
 | (v1,v2) => (
bif decide (v2 < ((a0.drop (1 : Int).toNat).length : Int)) then
(grd (0 ≤ v2 ∧ v2 < ((a0.drop (1 : Int).toNat).length : Int)) <|
bif decide ((((a0.drop (1 : Int).toNat).getD v2.toNat 0).toNat : Int) < 48) then
(some (.inr (.inr ((0 : Int),false))))
else
(grd (0 ≤ v2 ∧ v2 < ((a0.drop (1 : Int).toNat).length : Int)) <|
bif decide ((((a0.drop (1 : Int).toNat).getD v2.toNat 0).toNat : Int) > 57) then
(some (.inr (.inr ((0 : Int),false))))
else
(grd (0 ≤ v2 ∧ v2 < ((a0.drop (1 : Int).toNat).length : Int)) <|
some (.inl (IntKind.i64.wrap ((IntKind.i64.wrap ((10 : Int) * v1)) + (IntKind.i64.wrap (IntKind.u8.wrap ((((a0.drop (1 : Int).toNat).getD v2.toNat 0).toNat : Int) - 48)))),IntKind.i64.wrap (v2 + 1))))))
else
(some (.inr (.inl v1))))
noncomputable def l_spec_l1Read_1 (a0 : List UInt8) : (Int × Int) → Option ((Int × Int) ⊕ (Int ⊕ ((Int × Bool))))
 | (v6,v7) => (
bif decide (v7 < (a0.length : Int)) then
(grd (0 ≤ v7 ∧ v7 < (a0.length : Int)) <|
bif decide (((a0.getD v7.toNat 0).toNat : Int) < 48) then
(some (.inr (.inr ((0 : Int),false))))
else
(grd (0 ≤ v7 ∧ v7 < (a0.length : Int)) <|
bif decide (((a0.getD v7.toNat 0).toNat : Int) > 57) then
(some (.inr (.inr ((0 : Int),false))))
else
(grd (0 ≤ v7 ∧ v7 < (a0.length : Int)) <|
some (.inl (IntKind.i64.wrap ((IntKind.i64.wrap ((10 : Int) * v6)) + (IntKind.i64.wrap (IntKind.u8.wrap (((a0.getD v7.toNat 0).toNat : Int) - 48)))),IntKind.i64.wrap (v7 + 1))))))
else
(some (.inr (.inl v6))))
noncomputable def l_spec_l1Read_2 (a0 : List UInt8) : (Int × Int) → Option ((Int × Int) ⊕ (Int ⊕ ((Int × Bool))))
 | (v11,v12) => (
bif decide (v12 < (a0.length : Int)) then
(grd (0 ≤ v12 ∧ v12 < (a0.length : Int)) <|
bif decide (((a0.getD v12.toNat 0).toNat : Int) < 48) then
(some (.inr (.inr ((0 : Int),false))))
else
(grd (0 ≤ v12 ∧ v12 < (a0.length : Int)) <|
bif decide (((a0.getD v12.toNat 0).toNat : Int) > 57) then
(some (.inr (.inr ((0 : Int),false))))
else
(grd (0 ≤ v12 ∧ v12 < (a0.length : Int)) <|
some (.inl (IntKind.i64.wrap ((IntKind.i64.wrap ((10 : Int) * v11)) + (IntKind.i64.wrap (IntKind.u8.wrap (((a0.getD v12.toNat 0).toNat : Int) - 48)))),IntKind.i64.wrap (v12 + 1))))))
else
(some (.inr (.inl v11))))
noncomputable def m_spec_l1Read (a0 : List UInt8) (a1 : Int) : Option (Int × Bool) :=
bif decide ((a0.length : Int) > 0) then
(grd ((0 : Int) ≤ (0 : Int) ∧ (0 : Int) < (a0.length : Int)) <|
bif ((a0.getD (0 : Int).toNat 0).toNat : Int) == 45 then
(grd ((0 : Int) ≤ (1 : Int) ∧ (1 : Int) ≤ (a0.length : Int)) <|
bif decide (((a0.drop (1 : Int).toNat).length : Int) < 1) then
(some ((0 : Int),false))
else
(bif decide (((a0.drop (1 : Int).toNat).length : Int) > a1) then
(some ((0 : Int),false))
else
((iter (l_spec_l1Read_0 a0) ((0 : Int),(0 : Int))).bind fun
| (.inl v3) => (
bif ((a0.getD (0 : Int).toNat 0).toNat : Int) == 45 then
((m_spec_FormatInt (IntKind.i64.wrap ((0 : Int) - v3))).bind fun v4 =>
bif !(v4 == a0) then
(some ((0 : Int),false))
else
(some (IntKind.i64.wrap ((0 : Int) - v3),true)))
else
((m_spec_FormatInt v3).bind fun v5 =>
bif !(v5 == a0) then
(some ((0 : Int),false))
else
(some (v3,true))))
| (.inr r) => some r)))
else
(bif decide ((a0.length : Int) < 1) then
(some ((0 : Int),false))
else
(bif decide ((a0.length : Int) > a1) then
(some ((0 : Int),false))
else
((iter (l_spec_l1Read_1 a0) ((0 : Int),(0 : Int))).bind fun
| (.inl v8) => (
bif ((a0.getD (0 : Int).toNat 0).toNat : Int) == 45 then
((m_spec_FormatInt (IntKind.i64.wrap ((0 : Int) - v8))).bind fun v9 =>
bif !(v9 == a0) then
(some ((0 : Int),false))
else
(some (IntKind.i64.wrap ((0 : Int) - v8),true)))
else
((m_spec_FormatInt v8).bind fun v10 =>
bif !(v10 == a0) then
(some ((0 : Int),false))
else
(some (v8,true))))
| (.inr r) => some r))))
else
(bif decide ((a0.length : Int) < 1) then
(some ((0 : Int),false))
else
(bif decide ((a0.length : Int) > a1) then
(some ((0 : Int),false))
else
((iter (l_spec_l1Read_2 a0) ((0 : Int),(0 : Int))).bind fun
| (.inl v13) => (
(m_spec_FormatInt v13).bind fun v14 =>
bif !(v14 == a0) then
(some ((0 : Int),false))
else
(some (v13,true)))
| (.inr r) => some r)))
theorem W51 (a0 : List UInt8) (a1 : Int) (r : Int × Bool) (h : m_spec_l1Read a0 a1 = some r) : AM.Spec Tryd.prog 69 [.str a0,.i a1] [] (.tuple [.i r.1,.bool r.2]) [] := by
 refine spec_of (E := E165) Tryd.func69 rfl rfl rfl rfl ?_
 refine Tri.f 1 [] [.keep [0,1] []] rfl trivial ?_
 rcases bif_some h with ⟨hd1,h⟩ | ⟨hd1,h⟩
 ·obtain ⟨hg2,h⟩ := grd_some h
  refine Tri.f 3 [.g true] [.keep [0,1,6,7,19] []] rfl ⟨hg2,hd1,trivial⟩ ?_
  rcases bif_some h with ⟨hd3,h⟩ | ⟨hd3,h⟩
  ·obtain ⟨hg4,h⟩ := grd_some h
   refine Tri.f 2 [.g true] [.keep [0,1,6,7] []] rfl ⟨hg4,hd3,trivial⟩ ?_
   rcases bif_some h with ⟨hd5,h⟩ | ⟨hd5,h⟩
   ·refine Tri.f 1 [.g true] [.keep [0,6,7,30] []] rfl ⟨hd5,trivial⟩ ?_
    refine Tri.f 2 [.g true] [.keep [4,5] []] rfl ⟨rfl,trivial⟩ ?_
    cases h
    exact Tri.ret rfl ⟨.inl rfl,rfl,rfl⟩
   ·refine Tri.f 1 [.g false] [.keep [0,6,7,30] []] rfl ⟨hd5,trivial⟩ ?_
    rcases bif_some h with ⟨hd6,h⟩ | ⟨hd6,h⟩
    ·refine Tri.f 2 [.g true] [.keep [4,5] []] rfl ⟨hd6,trivial⟩ ?_
     cases h
     exact Tri.ret rfl ⟨.inl rfl,rfl,rfl⟩
    ·refine Tri.f 3 [.g false] [.keep [0,6,7,8,9] []] rfl ⟨hd6,trivial⟩ ?_
     obtain ⟨x1,hk13,h⟩ := bind_some h
     refine Tri.loop (K1 := [.code [(6,0),(1,0),(0,0)] 0]) (K2 := [.blk 0,.code [] 7]) (fun (v1,v2) => ⟨[(0,.str a0),(6,.bool (((a0.getD (0 : Int).toNat 0).toNat : Int) == 45)),(7,.str (a0.drop (1 : Int).toNat)),(8,.i v1),(9,.i v2)],[]⟩) (fun x e σ' => match x with | (.inl v3) => e = .exit 0 ∧ σ' = ⟨[(0,.str a0),(6,.bool (((a0.getD (0 : Int).toNat 0).toNat : Int) == 45)),(8,.i v3)],[]⟩ | (.inr r) => e = .ret ∧ K108 r σ') hk13 rfl rfl ?_ ?_
     ·intro s x hs
      clear h
      have h := hs
      clear hs
      obtain ⟨v1,v2⟩ := s
      refine Tri.f 1 [] [.keep [0,6,7,8,9,34] []] rfl trivial ?_
      rcases bif_some h with ⟨hd7,h⟩ | ⟨hd7,h⟩
      ·obtain ⟨hg8,h⟩ := grd_some h
       rcases bif_some h with ⟨hd9,h⟩ | ⟨hd9,h⟩
       ·refine Tri.f 2 [.g true,.g true] [.keep [0,6,7,8,9,46] []] rfl ⟨hd9,hg8,hd7,trivial⟩ ?_
        refine Tri.f 2 [.g true] [.keep [4,5] []] rfl ⟨rfl,trivial⟩ ?_
        cases h
        exact Tri.ret rfl ⟨nofun,rfl,rfl,rfl⟩
       ·obtain ⟨hg10,h⟩ := grd_some h
        refine Tri.f 2 [.g true,.g false] [.keep [0,6,7,8,9,46] []] rfl ⟨hg10,hd9,hg8,hd7,trivial⟩ ?_
        rcases bif_some h with ⟨hd11,h⟩ | ⟨hd11,h⟩
        ·refine Tri.f 2 [.g true] [.keep [4,5] []] rfl ⟨hd11,trivial⟩ ?_
         cases h
         exact Tri.ret rfl ⟨nofun,rfl,rfl,rfl⟩
        ·obtain ⟨hg12,h⟩ := grd_some h
         refine Tri.f 3 [.g false] [.keep [0,6,7,8,9] []] rfl ⟨hg12,hd11,trivial⟩ ?_
         cases h
         exact Tri.nil ⟨rfl,rfl⟩
      ·refine Tri.f 1 [.g false] [.keep [0,6,8] []] rfl ⟨hd7,trivial⟩ ?_
       cases h
       exact Tri.out 0 rfl ⟨nofun,rfl,rfl⟩
     ·intro e σ' hne hq
      rcases x1 with v3 | r
      ·obtain ⟨rfl,rfl⟩ := hq
       refine TriX.exit (K' := [.code [] 7]) rfl ?_
       refine Tri.f 1 [] [.keep [0,8,55] []] rfl trivial ?_
       rcases bif_some h with ⟨hd14,h⟩ | ⟨hd14,h⟩
       ·refine Tri.f 2 [.g true] [.keep [0,8] []] rfl ⟨hd14,trivial⟩ ?_
        obtain ⟨v4,hk15,h⟩ := bind_some h
        refine Tri.f 1 [.v (.str v4)] [.keep [8,61] []] rfl ⟨fun _ => W41 (IntKind.i64.wrap ((0 : Int) - v3)) v4 hk15,trivial⟩ ?_
        rcases bif_some h with ⟨hd16,h⟩ | ⟨hd16,h⟩
        ·refine Tri.f 2 [.g true] [.keep [4,5] []] rfl ⟨hd16,trivial⟩ ?_
         cases h
         exact Tri.ret rfl ⟨.inl rfl,rfl,rfl⟩
        ·refine Tri.f 2 [.g false] [.keep [4,5] []] rfl ⟨hd16,trivial⟩ ?_
         cases h
         exact Tri.ret rfl ⟨.inl rfl,rfl,rfl⟩
       ·obtain ⟨v5,hk17,h⟩ := bind_some h
        refine Tri.f 2 [.g false,.v (.str v5)] [.keep [8,61] []] rfl ⟨fun _ => W41 v3 v5 hk17,hd14,trivial⟩ ?_
        rcases bif_some h with ⟨hd18,h⟩ | ⟨hd18,h⟩
        ·refine Tri.f 2 [.g true] [.keep [4,5] []] rfl ⟨hd18,trivial⟩ ?_
         cases h
         exact Tri.ret rfl ⟨.inl rfl,rfl,rfl⟩
        ·refine Tri.f 2 [.g false] [.keep [4,5] []] rfl ⟨hd18,trivial⟩ ?_
         cases h
         exact Tri.ret rfl ⟨.inl rfl,rfl,rfl⟩
      ·obtain ⟨rfl,hq⟩ := hq
       cases h
       exact TriX.ret ⟨.inl rfl,hq⟩
  ·rcases bif_some h with ⟨hd19,h⟩ | ⟨hd19,h⟩
   ·refine Tri.f 2 [.g false,.g true] [.keep [0,6,7,30] []] rfl ⟨hd19,hd3,trivial⟩ ?_
    refine Tri.f 2 [.g true] [.keep [4,5] []] rfl ⟨rfl,trivial⟩ ?_
    cases h
    exact Tri.ret rfl ⟨.inl rfl,rfl,rfl⟩
   ·refine Tri.f 2 [.g false,.g false] [.keep [0,6,7,30] []] rfl ⟨hd19,hd3,trivial⟩ ?_
    rcases bif_some h with ⟨hd20,h⟩ | ⟨hd20,h⟩
    ·refine Tri.f 2 [.g true] [.keep [4,5] []] rfl ⟨hd20,trivial⟩ ?_
     cases h
     exact Tri.ret rfl ⟨.inl rfl,rfl,rfl⟩
    ·refine Tri.f 3 [.g false] [.keep [0,6,7,8,9] []] rfl ⟨hd20,trivial⟩ ?_
     obtain ⟨x2,hk27,h⟩ := bind_some h
     refine Tri.loop (K1 := [.code [(6,0),(1,0),(0,0)] 0]) (K2 := [.blk 0,.code [] 7]) (fun (v6,v7) => ⟨[(0,.str a0),(6,.bool (((a0.getD (0 : Int).toNat 0).toNat : Int) == 45)),(7,.str a0),(8,.i v6),(9,.i v7)],[]⟩) (fun x e σ' => match x with | (.inl v8) => e = .exit 0 ∧ σ' = ⟨[(0,.str a0),(6,.bool (((a0.getD (0 : Int).toNat 0).toNat : Int) == 45)),(8,.i v8)],[]⟩ | (.inr r) => e = .ret ∧ K108 r σ') hk27 rfl rfl ?_ ?_
     ·intro s x hs
      clear h
      have h := hs
      clear hs
      obtain ⟨v6,v7⟩ := s
      refine Tri.f 1 [] [.keep [0,6,7,8,9,34] []] rfl trivial ?_
      rcases bif_some h with ⟨hd21,h⟩ | ⟨hd21,h⟩
      ·obtain ⟨hg22,h⟩ := grd_some h
       rcases bif_some h with ⟨hd23,h⟩ | ⟨hd23,h⟩
       ·refine Tri.f 2 [.g true,.g true] [.keep [0,6,7,8,9,46] []] rfl ⟨hd23,hg22,hd21,trivial⟩ ?_
        refine Tri.f 2 [.g true] [.keep [4,5] []] rfl ⟨rfl,trivial⟩ ?_
        cases h
        exact Tri.ret rfl ⟨nofun,rfl,rfl,rfl⟩
       ·obtain ⟨hg24,h⟩ := grd_some h
        refine Tri.f 2 [.g true,.g false] [.keep [0,6,7,8,9,46] []] rfl ⟨hg24,hd23,hg22,hd21,trivial⟩ ?_
        rcases bif_some h with ⟨hd25,h⟩ | ⟨hd25,h⟩
        ·refine Tri.f 2 [.g true] [.keep [4,5] []] rfl ⟨hd25,trivial⟩ ?_
         cases h
         exact Tri.ret rfl ⟨nofun,rfl,rfl,rfl⟩
        ·obtain ⟨hg26,h⟩ := grd_some h
         refine Tri.f 3 [.g false] [.keep [0,6,7,8,9] []] rfl ⟨hg26,hd25,trivial⟩ ?_
         cases h
         exact Tri.nil ⟨rfl,rfl⟩
      ·refine Tri.f 1 [.g false] [.keep [0,6,8] []] rfl ⟨hd21,trivial⟩ ?_
       cases h
       exact Tri.out 0 rfl ⟨nofun,rfl,rfl⟩
     ·intro e σ' hne hq
      rcases x2 with v8 | r
      ·obtain ⟨rfl,rfl⟩ := hq
       refine TriX.exit (K' := [.code [] 7]) rfl ?_
       refine Tri.f 1 [] [.keep [0,8,55] []] rfl trivial ?_
       rcases bif_some h with ⟨hd28,h⟩ | ⟨hd28,h⟩
       ·refine Tri.f 2 [.g true] [.keep [0,8] []] rfl ⟨hd28,trivial⟩ ?_
        obtain ⟨v9,hk29,h⟩ := bind_some h
        refine Tri.f 1 [.v (.str v9)] [.keep [8,61] []] rfl ⟨fun _ => W41 (IntKind.i64.wrap ((0 : Int) - v8)) v9 hk29,trivial⟩ ?_
        rcases bif_some h with ⟨hd30,h⟩ | ⟨hd30,h⟩
        ·refine Tri.f 2 [.g true] [.keep [4,5] []] rfl ⟨hd30,trivial⟩ ?_
         cases h
         exact Tri.ret rfl ⟨.inl rfl,rfl,rfl⟩
        ·refine Tri.f 2 [.g false] [.keep [4,5] []] rfl ⟨hd30,trivial⟩ ?_
         cases h
         exact Tri.ret rfl ⟨.inl rfl,rfl,rfl⟩
       ·obtain ⟨v10,hk31,h⟩ := bind_some h
        refine Tri.f 2 [.g false,.v (.str v10)] [.keep [8,61] []] rfl ⟨fun _ => W41 v8 v10 hk31,hd28,trivial⟩ ?_
        rcases bif_some h with ⟨hd32,h⟩ | ⟨hd32,h⟩
        ·refine Tri.f 2 [.g true] [.keep [4,5] []] rfl ⟨hd32,trivial⟩ ?_
         cases h
         exact Tri.ret rfl ⟨.inl rfl,rfl,rfl⟩
        ·refine Tri.f 2 [.g false] [.keep [4,5] []] rfl ⟨hd32,trivial⟩ ?_
         cases h
         exact Tri.ret rfl ⟨.inl rfl,rfl,rfl⟩
      ·obtain ⟨rfl,hq⟩ := hq
       cases h
       exact TriX.ret ⟨.inl rfl,hq⟩
 ·refine Tri.f 3 [.g false] [.keep [0,1,6,7,19] []] rfl ⟨hd1,trivial⟩ ?_
  rcases bif_some h with ⟨hd33,h⟩ | ⟨hd33,h⟩
  ·refine Tri.f 2 [.g false,.g true] [.keep [0,6,7,30] []] rfl ⟨hd33,rfl,trivial⟩ ?_
   refine Tri.f 2 [.g true] [.keep [4,5] []] rfl ⟨rfl,trivial⟩ ?_
   cases h
   exact Tri.ret rfl ⟨.inl rfl,rfl,rfl⟩
  ·refine Tri.f 2 [.g false,.g false] [.keep [0,6,7,30] []] rfl ⟨hd33,rfl,trivial⟩ ?_
   rcases bif_some h with ⟨hd34,h⟩ | ⟨hd34,h⟩
   ·refine Tri.f 2 [.g true] [.keep [4,5] []] rfl ⟨hd34,trivial⟩ ?_
    cases h
    exact Tri.ret rfl ⟨.inl rfl,rfl,rfl⟩
   ·refine Tri.f 3 [.g false] [.keep [0,6,7,8,9] []] rfl ⟨hd34,trivial⟩ ?_
    obtain ⟨x3,hk41,h⟩ := bind_some h
    refine Tri.loop (K1 := [.code [(6,0),(1,0),(0,0)] 0]) (K2 := [.blk 0,.code [] 7]) (fun (v11,v12) => ⟨[(0,.str a0),(6,.bool false),(7,.str a0),(8,.i v11),(9,.i v12)],[]⟩) (fun x e σ' => match x with | (.inl v13) => e = .exit 0 ∧ σ' = ⟨[(0,.str a0),(6,.bool false),(8,.i v13)],[]⟩ | (.inr r) => e = .ret ∧ K108 r σ') hk41 rfl rfl ?_ ?_
    ·intro s x hs
     clear h
     have h := hs
     clear hs
     obtain ⟨v11,v12⟩ := s
     refine Tri.f 1 [] [.keep [0,6,7,8,9,34] []] rfl trivial ?_
     rcases bif_some h with ⟨hd35,h⟩ | ⟨hd35,h⟩
     ·obtain ⟨hg36,h⟩ := grd_some h
      rcases bif_some h with ⟨hd37,h⟩ | ⟨hd37,h⟩
      ·refine Tri.f 2 [.g true,.g true] [.keep [0,6,7,8,9,46] []] rfl ⟨hd37,hg36,hd35,trivial⟩ ?_
       refine Tri.f 2 [.g true] [.keep [4,5] []] rfl ⟨rfl,trivial⟩ ?_
       cases h
       exact Tri.ret rfl ⟨nofun,rfl,rfl,rfl⟩
      ·obtain ⟨hg38,h⟩ := grd_some h
       refine Tri.f 2 [.g true,.g false] [.keep [0,6,7,8,9,46] []] rfl ⟨hg38,hd37,hg36,hd35,trivial⟩ ?_
       rcases bif_some h with ⟨hd39,h⟩ | ⟨hd39,h⟩
       ·refine Tri.f 2 [.g true] [.keep [4,5] []] rfl ⟨hd39,trivial⟩ ?_
        cases h
        exact Tri.ret rfl ⟨nofun,rfl,rfl,rfl⟩
       ·obtain ⟨hg40,h⟩ := grd_some h
        refine Tri.f 3 [.g false] [.keep [0,6,7,8,9] []] rfl ⟨hg40,hd39,trivial⟩ ?_
        cases h
        exact Tri.nil ⟨rfl,rfl⟩
     ·refine Tri.f 1 [.g false] [.keep [0,6,8] []] rfl ⟨hd35,trivial⟩ ?_
      cases h
      exact Tri.out 0 rfl ⟨nofun,rfl,rfl⟩
    ·intro e σ' hne hq
     rcases x3 with v13 | r
     ·obtain ⟨rfl,rfl⟩ := hq
      refine TriX.exit (K' := [.code [] 7]) rfl ?_
      refine Tri.f 1 [] [.keep [0,8,55] []] rfl trivial ?_
      obtain ⟨v14,hk42,h⟩ := bind_some h
      refine Tri.f 2 [.g false,.v (.str v14)] [.keep [8,61] []] rfl ⟨fun _ => W41 v13 v14 hk42,rfl,trivial⟩ ?_
      rcases bif_some h with ⟨hd43,h⟩ | ⟨hd43,h⟩
      ·refine Tri.f 2 [.g true] [.keep [4,5] []] rfl ⟨hd43,trivial⟩ ?_
       cases h
       exact Tri.ret rfl ⟨.inl rfl,rfl,rfl⟩
      ·refine Tri.f 2 [.g false] [.keep [4,5] []] rfl ⟨hd43,trivial⟩ ?_
       cases h
       exact Tri.ret rfl ⟨.inl rfl,rfl,rfl⟩
     ·obtain ⟨rfl,hq⟩ := hq
      cases h
      exact TriX.ret ⟨.inl rfl,hq⟩
noncomputable def E166 : Env := ⟨Tryd.prog,tys,(Tryd.f52.body).getD .skip,18,tysOk,mixedOk⟩
abbrev K109 (r : Int × Bool) (σ' : ASt) : Prop := isRes E166.T Tryd.f52 (.tuple [.i r.1,.bool r.2]) [] σ'
noncomputable def m_spec_ParseNumber (a0 : List UInt8) : Option (Int × Bool) :=
(m_spec_l1Read a0 (6 : Int)).bind fun (v1,v2) =>
bif !v2 then
(some ((0 : Int),false))
else
(bif decide (v1 < 0) then
(some ((0 : Int),false))
else
(some (v1,true)))
theorem W52 (a0 : List UInt8) (r : Int × Bool) (h : m_spec_ParseNumber a0 = some r) : AM.Spec Tryd.prog 52 [.str a0] [] (.tuple [.i r.1,.bool r.2]) [] := by
 refine spec_of (E := E166) Tryd.func52 rfl rfl rfl rfl ?_
 refine Tri.f 1 [] [.keep [0] []] rfl trivial ?_
 obtain ⟨⟨v1,v2⟩,hk1,h⟩ := bind_some h
 rcases bif_some h with ⟨hd2,h⟩ | ⟨hd2,h⟩
 ·refine Tri.f 2 [.v (.tuple [.i v1,.bool v2]),.g true] [.keep [4,16] []] rfl ⟨hd2,fun _ => W51 a0 (6 : Int) (v1,v2) hk1,trivial⟩ ?_
  refine Tri.f 2 [.g true] [.keep [2,3] []] rfl ⟨rfl,trivial⟩ ?_
  cases h
  exact Tri.ret rfl ⟨.inl rfl,rfl,rfl⟩
 ·refine Tri.f 2 [.v (.tuple [.i v1,.bool v2]),.g false] [.keep [4,16] []] rfl ⟨hd2,fun _ => W51 a0 (6 : Int) (v1,v2) hk1,trivial⟩ ?_
  rcases bif_some h with ⟨hd3,h⟩ | ⟨hd3,h⟩
  ·refine Tri.f 2 [.g true] [.keep [2,3] []] rfl ⟨hd3,trivial⟩ ?_
   cases h
   exact Tri.ret rfl ⟨.inl rfl,rfl,rfl⟩
  ·refine Tri.f 2 [.g false] [.keep [2,3] []] rfl ⟨hd3,trivial⟩ ?_
   cases h
   exact Tri.ret rfl ⟨.inl rfl,rfl,rfl⟩
noncomputable def E167 : Env := ⟨Tryd.prog,tys,(Tryd.f29.body).getD .skip,39,tysOk,mixedOk⟩
abbrev K110 (r : Int × Bool × (List Int)) (σ' : ASt) : Prop := isRes E167.T Tryd.f29 (.tuple [.agg [.i r.1,.sl 1000 0],.bool r.2.1]) [(1000,.arr 3 0 0 (.ints r.2.2))] σ'
noncomputable def m_spec_l9First (a0 : List UInt8) : Option (Int × Bool × (List Int)) :=
(m_spec_SplitByte a0 (32 : Int)).bind fun v1 =>
bif (v1.length : Int) != 2 then
(some (0,false,[]))
else
(grd ((0 : Int) ≤ (0 : Int) ∧ (0 : Int) < (v1.length : Int)) <|
bif !((v1.getD ((0 : Int).toNat) []) == ([112,108,97,121,101,114,115] : List UInt8)) then
(some (0,false,[]))
else
(grd ((0 : Int) ≤ (1 : Int) ∧ (1 : Int) < (v1.length : Int)) <|
(m_spec_ParseNumber (v1.getD ((1 : Int).toNat) [])).bind fun (v2,v3) =>
bif !v3 then
(some (0,false,[]))
else
((m_spec_l1In v2 (1 : Int) (5 : Int)).bind fun v4 =>
bif !v4 then
(some (0,false,[]))
else
((m_spec_CountCoalitions v2).bind fun v5 =>
grd (0 ≤ v5 ∧ v5 = v5 ∧ v5 ≤ (room : Int)) <|
some (v2,true,List.replicate v5.toNat (0 : Int))))))
theorem W53 (a0 : List UInt8) (r : Int × Bool × (List Int)) (h : m_spec_l9First a0 = some r) : AM.Spec Tryd.prog 29 [.str a0] [] (.tuple [.agg [.i r.1,.sl 1000 0],.bool r.2.1]) [(1000,.arr 3 0 0 (.ints r.2.2))] := by
 refine spec_of (E := E167) Tryd.func29 rfl rfl rfl rfl ?_
 refine Tri.f 1 [] [.keep [0,2] [2],.ownc 2 1 1100 3,.keep [0,2] [2,1100]] rfl trivial ?_
 obtain ⟨v1,hk1,h⟩ := bind_some h
 rcases bif_some h with ⟨hd2,h⟩ | ⟨hd2,h⟩
 ·refine Tri.f 2 [.r ⟨[],.sl 1101 0,[(1101,.arr 9 0 0 (.strs v1))]⟩,.g true] [.keep [2,4,17] [2,1100,1101]] rfl ⟨hd2,fun _ => (W50 a0 (32 : Int) v1 hk1).swap 1000 1101,trivial⟩ ?_
  refine Tri.f 2 [.g true] [.ownc 2 1 1102 3,.swap 1102 1000,.keep [2,3] [2,1000]] rfl ⟨rfl,trivial⟩ ?_
  cases h
  exact Tri.ret rfl ⟨.inl rfl,rfl,rfl⟩
 ·obtain ⟨hg3,h⟩ := grd_some h
  refine Tri.f 2 [.r ⟨[],.sl 1101 0,[(1101,.arr 9 0 0 (.strs v1))]⟩,.g false] [.keep [2,4,17] [2,1100,1101]] rfl ⟨hg3,hd2,fun _ => (W50 a0 (32 : Int) v1 hk1).swap 1000 1101,trivial⟩ ?_
  rcases bif_some h with ⟨hd4,h⟩ | ⟨hd4,h⟩
  ·refine Tri.f 2 [.g true] [.ownc 2 1 1103 3,.swap 1103 1000,.keep [2,3] [2,1000]] rfl ⟨hd4,trivial⟩ ?_
   cases h
   exact Tri.ret rfl ⟨.inl rfl,rfl,rfl⟩
  ·obtain ⟨hg5,h⟩ := grd_some h
   obtain ⟨⟨v2,v3⟩,hk6,h⟩ := bind_some h
   refine Tri.f 2 [.g false,.v (.tuple [.i v2,.bool v3])] [.keep [2,5,6] [2,1100]] rfl ⟨fun _ => W52 (v1.getD ((1 : Int).toNat) []) (v2,v3) hk6,hg5,hd4,trivial⟩ ?_
   rcases bif_some h with ⟨hd7,h⟩ | ⟨hd7,h⟩
   ·refine Tri.f 1 [.g true] [.keep [2,5,32] [2,1100]] rfl ⟨hd7,trivial⟩ ?_
    refine Tri.f 2 [.g true] [.ownc 2 1 1104 3,.swap 1104 1000,.keep [2,3] [2,1000]] rfl ⟨rfl,trivial⟩ ?_
    cases h
    exact Tri.ret rfl ⟨.inl rfl,rfl,rfl⟩
   ·obtain ⟨v4,hk8,h⟩ := bind_some h
    refine Tri.f 1 [.g false,.v (.bool v4)] [.keep [2,5,32] [2,1100]] rfl ⟨fun _ => W5 v2 (1 : Int) (5 : Int) v4 hk8,hd7,trivial⟩ ?_
    rcases bif_some h with ⟨hd9,h⟩ | ⟨hd9,h⟩
    ·refine Tri.f 2 [.g true] [.ownc 2 1 1105 3,.swap 1105 1000,.keep [2,3] [2,1000]] rfl ⟨hd9,trivial⟩ ?_
     cases h
     exact Tri.ret rfl ⟨.inl rfl,rfl,rfl⟩
    ·obtain ⟨v5,hk10,h⟩ := bind_some h
     obtain ⟨hg11,h⟩ := grd_some h
     refine Tri.f 2 [.g false,.v (.i v5)] [.swap 37 1000,.keep [2,3] [2,1000]] rfl ⟨hg11,fun _ => W6 v2 v5 hk10,hd9,trivial⟩ ?_
     cases h
     exact Tri.ret rfl ⟨.inl rfl,rfl,rfl⟩
noncomputable def E168 : Env := ⟨Tryd.prog,tys,(Tryd.f53.body).getD .skip,14,tysOk,mixedOk⟩
abbrev K111 (r : Int × Bool) (σ' : ASt) : Prop := isRes E168.T Tryd.f53 (.tuple [.i r.1,.bool r.2]) [] σ'
noncomputable def l_spec_ParseCoalition_0 (a0 : List UInt8) (v1 : Int) : Option (Int ⊕ (Unit ⊕ ((Int × Bool)))) :=
bif decide (v1 < 32) then
((m_spec_FormatCoalition v1).bind fun v2 =>
bif v2 == a0 then
(some (.inr (.inr (v1,true))))
else
(some (.inl (IntKind.i64.wrap (v1 + 1)))))
else
(some (.inr (.inl ())))
noncomputable def m_spec_ParseCoalition (a0 : List UInt8) : Option (Int × Bool) :=
(iter (l_spec_ParseCoalition_0 a0) (0 : Int)).bind fun
| (.inl _) => (
some ((0 : Int),false))
| (.inr r) => some r
theorem W54 (a0 : List UInt8) (r : Int × Bool) (h : m_spec_ParseCoalition a0 = some r) : AM.Spec Tryd.prog 53 [.str a0] [] (.tuple [.i r.1,.bool r.2]) [] := by
 refine spec_of (E := E168) Tryd.func53 rfl rfl rfl rfl ?_
 refine Tri.f 2 [] [.keep [0,4] []] rfl trivial ?_
 obtain ⟨x1,hk4,h⟩ := bind_some h
 refine Tri.loop (K1 := [.code [(1,0),(1,0),(0,0)] 0]) (K2 := [.blk 0,.code [] 2]) (fun v1 => ⟨[(0,.str a0),(4,.i v1)],[]⟩) (fun x e σ' => match x with | (.inl _) => e = .exit 0 ∧ σ' = ⟨[],[]⟩ | (.inr r) => e = .ret ∧ K111 r σ') hk4 rfl rfl ?_ ?_
 ·intro v1 x hs
  clear h
  have h := hs
  clear hs
  refine Tri.f 1 [] [.keep [0,4,6] []] rfl trivial ?_
  rcases bif_some h with ⟨hd1,h⟩ | ⟨hd1,h⟩
  ·obtain ⟨v2,hk2,h⟩ := bind_some h
   refine Tri.f 2 [.g true,.v (.str v2)] [.keep [0,4,12] []] rfl ⟨fun _ => W43 v1 v2 hk2,hd1,trivial⟩ ?_
   rcases bif_some h with ⟨hd3,h⟩ | ⟨hd3,h⟩
   ·refine Tri.f 2 [.g true] [.keep [2,3] []] rfl ⟨hd3,trivial⟩ ?_
    cases h
    exact Tri.ret rfl ⟨nofun,rfl,rfl,rfl⟩
   ·refine Tri.f 2 [.g false] [.keep [0,4] []] rfl ⟨hd3,trivial⟩ ?_
    cases h
    exact Tri.nil ⟨rfl,rfl⟩
  ·refine Tri.f 1 [.g false] [.keep [] []] rfl ⟨hd1,trivial⟩ ?_
   cases h
   exact Tri.out 0 rfl ⟨nofun,rfl,rfl⟩
 ·intro e σ' hne hq
  rcases x1 with _ | r
  ·obtain ⟨rfl,rfl⟩ := hq
   refine TriX.exit (K' := [.code [] 2]) rfl ?_
   refine Tri.f 1 [] [.keep [2,3] []] rfl trivial ?_
   cases h
   exact Tri.ret rfl ⟨.inl rfl,rfl,rfl⟩
  ·obtain ⟨rfl,hq⟩ := hq
   cases h
   exact TriX.ret ⟨.inl rfl,hq⟩
noncomputable def E169 : Env := ⟨Tryd.prog,tys,(Tryd.f54.body).getD .skip,8,tysOk,mixedOk⟩
abbrev K112 (r : Int × Bool) (σ' : ASt) : Prop := isRes E169.T Tryd.f54 (.tuple [.i r.1,.bool r.2]) [] σ'
noncomputable def m_spec_ParseInt (a0 : List UInt8) : Option (Int × Bool) :=
(m_spec_l1Read a0 (12 : Int)).bind fun (v1,v2) =>
some (v1,v2)
theorem W55 (a0 : List UInt8) (r : Int × Bool) (h : m_spec_ParseInt a0 = some r) : AM.Spec Tryd.prog 54 [.str a0] [] (.tuple [.i r.1,.bool r.2]) [] := by
 refine spec_of (E := E169) Tryd.func54 rfl rfl rfl rfl ?_
 refine Tri.f 1 [] [.keep [0] []] rfl trivial ?_
 obtain ⟨⟨v1,v2⟩,hk1,h⟩ := bind_some h
 refine Tri.f 1 [.v (.tuple [.i v1,.bool v2])] [.keep [2,3] []] rfl ⟨fun _ => W51 a0 (12 : Int) (v1,v2) hk1,trivial⟩ ?_
 cases h
 exact Tri.ret rfl ⟨.inl rfl,rfl,rfl⟩
noncomputable def E170 : Env := ⟨Tryd.prog,tys,(Tryd.f30.body).getD .skip,59,tysOk,mixedOk⟩
abbrev K113 (r : Int × Int × Bool) (σ' : ASt) : Prop := isRes E170.T Tryd.f30 (.tuple [.i r.1,.i r.2.1,.bool r.2.2]) [] σ'
noncomputable def m_spec_l9Line (_a0 : Int) (a1 : List Int) (a2 : List UInt8) (a3 : Int) : Option (Int × Int × Bool) :=
(m_spec_SplitByte a2 (32 : Int)).bind fun v1 =>
bif (v1.length : Int) != 2 then
(some ((0 : Int),(0 : Int),false))
else
(grd ((0 : Int) ≤ (0 : Int) ∧ (0 : Int) < (v1.length : Int)) <|
(m_spec_ParseCoalition (v1.getD ((0 : Int).toNat) [])).bind fun (v2,v3) =>
grd ((0 : Int) ≤ (1 : Int) ∧ (1 : Int) < (v1.length : Int)) <|
(m_spec_ParseInt (v1.getD ((1 : Int).toNat) [])).bind fun (v4,v5) =>
bif v3 then
(bif v5 then
(bif decide (v2 > a3) then
(bif decide (v2 < (a1.length : Int)) then
(bif v4 != 0 then
((m_spec_l1In v4 (-500 : Int) (500 : Int)).bind fun v6 =>
some (v2,v4,v6))
else
(some (v2,v4,false)))
else
(some (v2,v4,false)))
else
(some (v2,v4,false)))
else
(some (v2,v4,false)))
else
(some (v2,v4,false)))
theorem W56 (a0 : Int) (a1 : List Int) (a2 : List UInt8) (a3 : Int) (r : Int × Int × Bool) (h : m_spec_l9Line a0 a1 a2 a3 = some r) : AM.Spec Tryd.prog 30 [.agg [.i a0,.list (.ints a1)],.str a2,.i a3] [] (.tuple [.i r.1,.i r.2.1,.bool r.2.2]) [] := by
 refine spec_of (E := E170) Tryd.func30 rfl rfl rfl rfl ?_
 refine Tri.f 1 [] [.keep [1,2,3] [3]] rfl trivial ?_
 obtain ⟨v1,hk1,h⟩ := bind_some h
 refine Tri.f 2 [.r ⟨[],.sl 1100 0,[(1100,.arr 9 0 0 (.strs v1))]⟩] [.keep [2,3,9,18] [3,1100]] rfl ⟨fun _ => (W50 a2 (32 : Int) v1 hk1).swap 1000 1100,trivial⟩ ?_
 rcases bif_some h with ⟨hd2,h⟩ | ⟨hd2,h⟩
 ·refine Tri.f 2 [.g true] [.keep [6,7,8] []] rfl ⟨hd2,trivial⟩ ?_
  cases h
  exact Tri.ret rfl ⟨.inl rfl,rfl,rfl⟩
 ·obtain ⟨hg3,h⟩ := grd_some h
  obtain ⟨⟨v2,v3⟩,hk4,h⟩ := bind_some h
  refine Tri.f 2 [.g false,.v (.tuple [.i v2,.bool v3])] [.keep [2,3,9,10,11] [3,1100]] rfl ⟨fun _ => W54 (v1.getD ((0 : Int).toNat) []) (v2,v3) hk4,hg3,hd2,trivial⟩ ?_
  obtain ⟨hg5,h⟩ := grd_some h
  obtain ⟨⟨v4,v5⟩,hk6,h⟩ := bind_some h
  rcases bif_some h with ⟨hd7,h⟩ | ⟨hd7,h⟩
  ·rcases bif_some h with ⟨hd8,h⟩ | ⟨hd8,h⟩
   ·rcases bif_some h with ⟨hd9,h⟩ | ⟨hd9,h⟩
    ·rcases bif_some h with ⟨hd10,h⟩ | ⟨hd10,h⟩
     ·rcases bif_some h with ⟨hd11,h⟩ | ⟨hd11,h⟩
      ·obtain ⟨v6,hk12,h⟩ := bind_some h
       refine Tri.f 2 [.v (.tuple [.i v4,.bool v5]),.g true,.g true,.g true,.g true,.g true,.v (.bool v6)] [.keep [6,7,8] []] rfl ⟨fun _ => W5 v4 (-500 : Int) (500 : Int) v6 hk12,hd11,hd10,hd9,hd8,hd7,fun _ => W55 (v1.getD ((1 : Int).toNat) []) (v4,v5) hk6,hg5,trivial⟩ ?_
       cases h
       exact Tri.ret rfl ⟨.inl rfl,rfl,rfl⟩
      ·refine Tri.f 2 [.v (.tuple [.i v4,.bool v5]),.g true,.g true,.g true,.g true,.g false] [.keep [6,7,8] []] rfl ⟨hd11,hd10,hd9,hd8,hd7,fun _ => W55 (v1.getD ((1 : Int).toNat) []) (v4,v5) hk6,hg5,trivial⟩ ?_
       cases h
       exact Tri.ret rfl ⟨.inl rfl,rfl,rfl⟩
     ·refine Tri.f 2 [.v (.tuple [.i v4,.bool v5]),.g true,.g true,.g true,.g false,.g false] [.keep [6,7,8] []] rfl ⟨rfl,hd10,hd9,hd8,hd7,fun _ => W55 (v1.getD ((1 : Int).toNat) []) (v4,v5) hk6,hg5,trivial⟩ ?_
      cases h
      exact Tri.ret rfl ⟨.inl rfl,rfl,rfl⟩
    ·refine Tri.f 2 [.v (.tuple [.i v4,.bool v5]),.g true,.g true,.g false,.g false,.g false] [.keep [6,7,8] []] rfl ⟨rfl,rfl,hd9,hd8,hd7,fun _ => W55 (v1.getD ((1 : Int).toNat) []) (v4,v5) hk6,hg5,trivial⟩ ?_
     cases h
     exact Tri.ret rfl ⟨.inl rfl,rfl,rfl⟩
   ·refine Tri.f 2 [.v (.tuple [.i v4,.bool v5]),.g true,.g false,.g false,.g false,.g false] [.keep [6,7,8] []] rfl ⟨rfl,rfl,rfl,hd8,hd7,fun _ => W55 (v1.getD ((1 : Int).toNat) []) (v4,v5) hk6,hg5,trivial⟩ ?_
    cases h
    exact Tri.ret rfl ⟨.inl rfl,rfl,rfl⟩
  ·refine Tri.f 2 [.v (.tuple [.i v4,.bool v5]),.g false,.g false,.g false,.g false,.g false] [.keep [6,7,8] []] rfl ⟨rfl,rfl,rfl,rfl,hd7,fun _ => W55 (v1.getD ((1 : Int).toNat) []) (v4,v5) hk6,hg5,trivial⟩ ?_
   cases h
   exact Tri.ret rfl ⟨.inl rfl,rfl,rfl⟩
noncomputable def E171 : Env := ⟨Tryd.prog,tys,(Tryd.f11.body).getD .skip,75,tysOk,mixedOk⟩
abbrev K114 (r : Int × Int × (List Int)) (σ' : ASt) : Prop := isRes E171.T Tryd.f11 (.tuple [.agg [.i r.1,.sl 1000 0],.i r.2.1]) [(1000,.arr 3 0 0 (.ints r.2.2))] σ'
noncomputable def l_spec_ParseGame_0 (v1 : List (List UInt8)) (v2 : Int) : (Int × Int × (List Int)) → Option ((Int × Int × (List Int)) ⊕ ((List Int) ⊕ ((Int × Int × (List Int)))))
 | (v5,v6,v7) => (
bif decide (v6 < ((v1.take ((IntKind.i64.wrap ((v1.length : Int) - 1)).toNat)).length : Int)) then
(grd (0 ≤ v6 ∧ v6 < ((v1.take ((IntKind.i64.wrap ((v1.length : Int) - 1)).toNat)).length : Int)) <|
(m_spec_l9Line v2 v7 ((v1.take ((IntKind.i64.wrap ((v1.length : Int) - 1)).toNat)).getD v6.toNat []) v5).bind fun (v8,v9,v10) =>
bif !v10 then
(some (.inr (.inr (0,v6,[]))))
else
(grd (0 ≤ v8 ∧ v8 < (v7.length : Int)) <|
some (.inl (v8,IntKind.i64.wrap (v6 + 1),v7.set v8.toNat v9))))
else
(some (.inr (.inl v7))))
noncomputable def l_spec_ParseGame_1 (v1 : List (List UInt8)) (v13 : Int) : (Int × Int × (List Int)) → Option ((Int × Int × (List Int)) ⊕ ((List Int) ⊕ ((Int × Int × (List Int)))))
 | (v16,v17,v18) => (
bif decide (v17 < (v1.length : Int)) then
(grd (0 ≤ v17 ∧ v17 < (v1.length : Int)) <|
(m_spec_l9Line v13 v18 (v1.getD v17.toNat []) v16).bind fun (v19,v20,v21) =>
bif !v21 then
(some (.inr (.inr (0,v17,[]))))
else
(grd (0 ≤ v19 ∧ v19 < (v18.length : Int)) <|
some (.inl (v19,IntKind.i64.wrap (v17 + 1),v18.set v19.toNat v20))))
else
(some (.inr (.inl v18))))
noncomputable def m_spec_ParseGame (a0 : List UInt8) : Option (Int × Int × (List Int)) :=
(m_spec_SplitByte a0 (10 : Int)).bind fun v1 =>
grd (0 ≤ IntKind.i64.wrap ((v1.length : Int) - 1) ∧ IntKind.i64.wrap ((v1.length : Int) - 1) < (v1.length : Int)) <|
bif (v1.getD ((IntKind.i64.wrap ((v1.length : Int) - 1)).toNat) []) == [] then
(grd (0 ≤ IntKind.i64.wrap ((v1.length : Int) - 1) ∧ IntKind.i64.wrap ((v1.length : Int) - 1) ≤ (v1.length : Int)) <|
bif ((v1.take ((IntKind.i64.wrap ((v1.length : Int) - 1)).toNat)).length : Int) == 0 then
(some (0,(0 : Int),[]))
else
(grd ((0 : Int) ≤ (0 : Int) ∧ (0 : Int) < ((v1.take ((IntKind.i64.wrap ((v1.length : Int) - 1)).toNat)).length : Int)) <|
(m_spec_l9First ((v1.take ((IntKind.i64.wrap ((v1.length : Int) - 1)).toNat)).getD ((0 : Int).toNat) [])).bind fun (v2,v3,v4) =>
bif !v3 then
(some (0,(0 : Int),[]))
else
((iter (l_spec_ParseGame_0 v1 v2) ((0 : Int),(1 : Int),v4)).bind fun
| (.inl v11) => (
(m_spec_FormatGame v2 v11).bind fun v12 =>
bif !(v12 == a0) then
(some (0,((v1.take ((IntKind.i64.wrap ((v1.length : Int) - 1)).toNat)).length : Int),[]))
else
(some (v2,(-1 : Int),v11)))
| (.inr r) => some r)))
else
(bif (v1.length : Int) == 0 then
(some (0,(0 : Int),[]))
else
(grd ((0 : Int) ≤ (0 : Int) ∧ (0 : Int) < (v1.length : Int)) <|
(m_spec_l9First (v1.getD ((0 : Int).toNat) [])).bind fun (v13,v14,v15) =>
bif !v14 then
(some (0,(0 : Int),[]))
else
((iter (l_spec_ParseGame_1 v1 v13) ((0 : Int),(1 : Int),v15)).bind fun
| (.inl v22) => (
(m_spec_FormatGame v13 v22).bind fun v23 =>
bif !(v23 == a0) then
(some (0,(v1.length : Int),[]))
else
(some (v13,(-1 : Int),v22)))
| (.inr r) => some r)))
theorem W57 (a0 : List UInt8) (r : Int × Int × (List Int)) (h : m_spec_ParseGame a0 = some r) : AM.Spec Tryd.prog 11 [.str a0] [] (.tuple [.agg [.i r.1,.sl 1000 0],.i r.2.1]) [(1000,.arr 3 0 0 (.ints r.2.2))] := by
 refine spec_of (E := E171) Tryd.func11 rfl rfl rfl rfl ?_
 refine Tri.f 1 [] [.keep [0,2] [2],.ownc 2 1 1100 3,.keep [0,2] [2,1100]] rfl trivial ?_
 obtain ⟨v1,hk1,h⟩ := bind_some h
 obtain ⟨hg2,h⟩ := grd_some h
 refine Tri.f 2 [.r ⟨[],.sl 1101 0,[(1101,.arr 9 0 0 (.strs v1))]⟩] [.keep [0,2,4,20] [2,1100,1101]] rfl ⟨hg2,fun _ => (W50 a0 (10 : Int) v1 hk1).swap 1000 1101,trivial⟩ ?_
 rcases bif_some h with ⟨hd3,h⟩ | ⟨hd3,h⟩
 ·obtain ⟨hg4,h⟩ := grd_some h
  refine Tri.f 2 [.g true] [.keep [0,2,4] [2,1100,1101],.trunc 4,.keep [0,2,4] [2,1100,1101]] rfl ⟨hg4,hd3,trivial⟩ ?_
  refine Tri.f 1 [] [.keep [0,2,4,28] [2,1100,1101]] rfl trivial ?_
  rcases bif_some h with ⟨hd5,h⟩ | ⟨hd5,h⟩
  ·refine Tri.f 2 [.g true] [.ownc 2 1 1102 3,.swap 1102 1000,.keep [2,3] [2,1000]] rfl ⟨hd5,trivial⟩ ?_
   cases h
   exact Tri.ret rfl ⟨.inl rfl,rfl,rfl⟩
  ·refine Tri.f 1 [.g false] [.keep [0,2,4] [2,1100,1101],.rever 1101,.keep [0,2,4] [2,1100,1101]] rfl ⟨hd5,trivial⟩ ?_
   obtain ⟨hg6,h⟩ := grd_some h
   obtain ⟨⟨v2,v3,v4⟩,hk7,h⟩ := bind_some h
   refine Tri.f 2 [.r ⟨[],.tuple [.agg [.i v2,.sl 1103 0],.bool v3],[(1103,.arr 3 0 0 (.ints v4))]⟩] [.keep [0,2,4,5,38] [2,5,1100,1101,1103]] rfl ⟨fun _ => (W53 ((v1.take ((IntKind.i64.wrap ((v1.length : Int) - 1)).toNat)).getD ((0 : Int).toNat) []) (v2,v3,v4) hk7).swap 1000 1103,hg6,trivial⟩ ?_
   rcases bif_some h with ⟨hd8,h⟩ | ⟨hd8,h⟩
   ·refine Tri.f 2 [.g true] [.ownc 2 1 1104 3,.swap 1104 1000,.keep [2,3] [2,1000]] rfl ⟨hd8,trivial⟩ ?_
    cases h
    exact Tri.ret rfl ⟨.inl rfl,rfl,rfl⟩
   ·refine Tri.f 3 [.g false] [.keep [0,2,4,5,7,8] [2,5,1100,1101,1103]] rfl ⟨hd8,trivial⟩ ?_
    obtain ⟨x1,hk14,h⟩ := bind_some h
    refine Tri.loop (K1 := [.code [(7,0),(1,0),(0,0)] 0]) (K2 := [.blk 0,.code [] 8]) (fun (v5,v6,v7) => ⟨[(0,.str a0),(2,.ptr 2 0),(4,.sl 1101 0),(5,.ptr 5 0),(7,.i v5),(8,.i v6)],[(2,.box [.i 0,.sl 1100 0]),(5,.box [.i v2,.sl 1103 0]),(1100,.arr 3 0 0 (.ints [])),(1101,.arr 9 0 0 (.strs (v1.take ((IntKind.i64.wrap ((v1.length : Int) - 1)).toNat)))),(1103,.arr 3 0 0 (.ints v7))]⟩) (fun x e σ' => match x with | (.inl v11) => e = .exit 0 ∧ σ' = ⟨[(0,.str a0),(2,.ptr 2 0),(4,.sl 1101 0),(5,.ptr 5 0)],[(2,.box [.i 0,.sl 1100 0]),(5,.box [.i v2,.sl 1103 0]),(1100,.arr 3 0 0 (.ints [])),(1101,.arr 9 0 0 (.strs (v1.take ((IntKind.i64.wrap ((v1.length : Int) - 1)).toNat)))),(1103,.arr 3 0 0 (.ints v11))]⟩ | (.inr r) => e = .ret ∧ K114 r σ') hk14 rfl rfl ?_ ?_
    ·intro s x hs
     clear h
     have h := hs
     clear hs
     obtain ⟨v5,v6,v7⟩ := s
     refine Tri.f 1 [] [.keep [0,2,4,5,7,8,43] [2,5,1100,1101,1103]] rfl trivial ?_
     rcases bif_some h with ⟨hd9,h⟩ | ⟨hd9,h⟩
     ·obtain ⟨hg10,h⟩ := grd_some h
      obtain ⟨⟨v8,v9,v10⟩,hk11,h⟩ := bind_some h
      refine Tri.f 3 [.g true,.v (.tuple [.i v8,.i v9,.bool v10])] [.keep [0,2,4,5,8,9,10,58] [2,5,1100,1101,1103]] rfl ⟨fun _ => W56 v2 v7 ((v1.take ((IntKind.i64.wrap ((v1.length : Int) - 1)).toNat)).getD v6.toNat []) v5 (v8,v9,v10) hk11,hg10,hd9,trivial⟩ ?_
      rcases bif_some h with ⟨hd12,h⟩ | ⟨hd12,h⟩
      ·refine Tri.f 2 [.g true] [.ownc 2 1 1105 3,.swap 1105 1000,.keep [2,3] [2,1000]] rfl ⟨hd12,trivial⟩ ?_
       cases h
       exact Tri.ret rfl ⟨nofun,rfl,rfl,rfl⟩
      ·obtain ⟨hg13,h⟩ := grd_some h
       refine Tri.f 3 [.g false] [.keep [0,2,4,5,7,8] [2,5,1100,1101,1103]] rfl ⟨hg13,hd12,trivial⟩ ?_
       refine Tri.f 1 [] [.keep [0,2,4,5,7,8] [2,5,1100,1101,1103]] rfl trivial ?_
       cases h
       exact Tri.nil ⟨rfl,rfl⟩
     ·refine Tri.f 1 [.g false] [.keep [0,2,4,5] [2,5,1100,1101,1103]] rfl ⟨hd9,trivial⟩ ?_
      cases h
      exact Tri.out 0 rfl ⟨nofun,rfl,rfl⟩
    ·intro e σ' hne hq
     rcases x1 with v11 | r
     ·obtain ⟨rfl,rfl⟩ := hq
      refine TriX.exit (K' := [.code [] 8]) rfl ?_
      obtain ⟨v12,hk15,h⟩ := bind_some h
      refine Tri.f 1 [.v (.str v12)] [.keep [2,4,5,70] [2,5,1100,1101,1103]] rfl ⟨fun _ => W44 v2 v11 v12 hk15,trivial⟩ ?_
      rcases bif_some h with ⟨hd16,h⟩ | ⟨hd16,h⟩
      ·refine Tri.f 2 [.g true] [.ownc 2 1 1106 3,.swap 1106 1000,.keep [2,3] [2,1000]] rfl ⟨hd16,trivial⟩ ?_
       cases h
       exact Tri.ret rfl ⟨.inl rfl,rfl,rfl⟩
      ·refine Tri.f 2 [.g false] [.swap 1103 1000,.keep [2,3] [2,1000]] rfl ⟨hd16,trivial⟩ ?_
       cases h
       exact Tri.ret rfl ⟨.inl rfl,rfl,rfl⟩
     ·obtain ⟨rfl,hq⟩ := hq
      cases h
      exact TriX.ret ⟨.inl rfl,hq⟩
 ·refine Tri.f 2 [.g false] [.keep [0,2,4,28] [2,1100,1101]] rfl ⟨hd3,trivial⟩ ?_
  rcases bif_some h with ⟨hd17,h⟩ | ⟨hd17,h⟩
  ·refine Tri.f 2 [.g true] [.ownc 2 1 1107 3,.swap 1107 1000,.keep [2,3] [2,1000]] rfl ⟨hd17,trivial⟩ ?_
   cases h
   exact Tri.ret rfl ⟨.inl rfl,rfl,rfl⟩
  ·obtain ⟨hg18,h⟩ := grd_some h
   obtain ⟨⟨v13,v14,v15⟩,hk19,h⟩ := bind_some h
   refine Tri.f 3 [.g false,.r ⟨[],.tuple [.agg [.i v13,.sl 1108 0],.bool v14],[(1108,.arr 3 0 0 (.ints v15))]⟩] [.keep [0,2,4,5,38] [2,5,1100,1101,1108]] rfl ⟨fun _ => (W53 (v1.getD ((0 : Int).toNat) []) (v13,v14,v15) hk19).swap 1000 1108,hg18,hd17,trivial⟩ ?_
   rcases bif_some h with ⟨hd20,h⟩ | ⟨hd20,h⟩
   ·refine Tri.f 2 [.g true] [.ownc 2 1 1109 3,.swap 1109 1000,.keep [2,3] [2,1000]] rfl ⟨hd20,trivial⟩ ?_
    cases h
    exact Tri.ret rfl ⟨.inl rfl,rfl,rfl⟩
   ·refine Tri.f 3 [.g false] [.keep [0,2,4,5,7,8] [2,5,1100,1101,1108]] rfl ⟨hd20,trivial⟩ ?_
    obtain ⟨x2,hk26,h⟩ := bind_some h
    refine Tri.loop (K1 := [.code [(7,0),(1,0),(0,0)] 0]) (K2 := [.blk 0,.code [] 8]) (fun (v16,v17,v18) => ⟨[(0,.str a0),(2,.ptr 2 0),(4,.sl 1101 0),(5,.ptr 5 0),(7,.i v16),(8,.i v17)],[(2,.box [.i 0,.sl 1100 0]),(5,.box [.i v13,.sl 1108 0]),(1100,.arr 3 0 0 (.ints [])),(1101,.arr 9 0 0 (.strs v1)),(1108,.arr 3 0 0 (.ints v18))]⟩) (fun x e σ' => match x with | (.inl v22) => e = .exit 0 ∧ σ' = ⟨[(0,.str a0),(2,.ptr 2 0),(4,.sl 1101 0),(5,.ptr 5 0)],[(2,.box [.i 0,.sl 1100 0]),(5,.box [.i v13,.sl 1108 0]),(1100,.arr 3 0 0 (.ints [])),(1101,.arr 9 0 0 (.strs v1)),(1108,.arr 3 0 0 (.ints v22))]⟩ | (.inr r) => e = .ret ∧ K114 r σ') hk26 rfl rfl ?_ ?_
    ·intro s x hs
     clear h
     have h := hs
     clear hs
     obtain ⟨v16,v17,v18⟩ := s
     refine Tri.f 1 [] [.keep [0,2,4,5,7,8,43] [2,5,1100,1101,1108]] rfl trivial ?_
     rcases bif_some h with ⟨hd21,h⟩ | ⟨hd21,h⟩
     ·obtain ⟨hg22,h⟩ := grd_some h
      obtain ⟨⟨v19,v20,v21⟩,hk23,h⟩ := bind_some h
      refine Tri.f 3 [.g true,.v (.tuple [.i v19,.i v20,.bool v21])] [.keep [0,2,4,5,8,9,10,58] [2,5,1100,1101,1108]] rfl ⟨fun _ => W56 v13 v18 (v1.getD v17.toNat []) v16 (v19,v20,v21) hk23,hg22,hd21,trivial⟩ ?_
      rcases bif_some h with ⟨hd24,h⟩ | ⟨hd24,h⟩
      ·refine Tri.f 2 [.g true] [.ownc 2 1 1110 3,.swap 1110 1000,.keep [2,3] [2,1000]] rfl ⟨hd24,trivial⟩ ?_
       cases h
       exact Tri.ret rfl ⟨nofun,rfl,rfl,rfl⟩
      ·obtain ⟨hg25,h⟩ := grd_some h
       refine Tri.f 3 [.g false] [.keep [0,2,4,5,7,8] [2,5,1100,1101,1108]] rfl ⟨hg25,hd24,trivial⟩ ?_
       refine Tri.f 1 [] [.keep [0,2,4,5,7,8] [2,5,1100,1101,1108]] rfl trivial ?_
       cases h
       exact Tri.nil ⟨rfl,rfl⟩
     ·refine Tri.f 1 [.g false] [.keep [0,2,4,5] [2,5,1100,1101,1108]] rfl ⟨hd21,trivial⟩ ?_
      cases h
      exact Tri.out 0 rfl ⟨nofun,rfl,rfl⟩
    ·intro e σ' hne hq
     rcases x2 with v22 | r
     ·obtain ⟨rfl,rfl⟩ := hq
      refine TriX.exit (K' := [.code [] 8]) rfl ?_
      obtain ⟨v23,hk27,h⟩ := bind_some h
      refine Tri.f 1 [.v (.str v23)] [.keep [2,4,5,70] [2,5,1100,1101,1108]] rfl ⟨fun _ => W44 v13 v22 v23 hk27,trivial⟩ ?_
      rcases bif_some h with ⟨hd28,h⟩ | ⟨hd28,h⟩
      ·refine Tri.f 2 [.g true] [.ownc 2 1 1111 3,.swap 1111 1000,.keep [2,3] [2,1000]] rfl ⟨hd28,trivial⟩ ?_
       cases h
       exact Tri.ret rfl ⟨.inl rfl,rfl,rfl⟩
      ·refine Tri.f 2 [.g false] [.swap 1108 1000,.keep [2,3] [2,1000]] rfl ⟨hd28,trivial⟩ ?_
       cases h
       exact Tri.ret rfl ⟨.inl rfl,rfl,rfl⟩
     ·obtain ⟨rfl,hq⟩ := hq
      cases h
      exact TriX.ret ⟨.inl rfl,hq⟩
noncomputable def E172 : Env := ⟨Tryd.prog,tys,(Tryd.f5.body).getD .skip,69,tysOk,mixedOk⟩
abbrev K115 (r : Bool) (σ' : ASt) : Prop := isRes E172.T Tryd.f5 (.bool r) [] σ'
noncomputable def m_laws_FnGameText (a0 : List UInt8) : Option Bool :=
(m_laws_big a0).bind fun v1 =>
bif v1 then
(some true)
else
((m_spec_DrawFormatGame a0).bind fun (v2,v3) =>
(m_impl_FormatGame v2 v3).bind fun v4 =>
(m_impl_ParseGame v4).bind fun (v5,v6,v7) =>
(m_spec_FormatGame v2 v3).bind fun v8 =>
bif !(v4 == v8) then
(some false)
else
((m_spec_IsValidGame v2 v3).bind fun v9 =>
bif (v6 == (-1)) != v9 then
(some false)
else
(bif v6 == (-1) then
((m_spec_EqualGame v5 v7 v2 v3).bind fun v10 =>
bif !v10 then
(some false)
else
((m_spec_DrawParseGame a0).bind fun v11 =>
(m_impl_ParseGame v11).bind fun (v12,v13,v14) =>
(m_spec_ParseGame v11).bind fun (_,v16,_) =>
bif v13 == v16 then
(bif decide (v13 ≥ 0) then
(some true)
else
((m_impl_FormatGame v12 v14).bind fun v18 =>
some (v18 == v11)))
else
(some false)))
else
((m_spec_DrawParseGame a0).bind fun v19 =>
(m_impl_ParseGame v19).bind fun (v20,v21,v22) =>
(m_spec_ParseGame v19).bind fun (_,v24,_) =>
bif v21 == v24 then
(bif decide (v21 ≥ 0) then
(some true)
else
((m_impl_FormatGame v20 v22).bind fun v26 =>
some (v26 == v19)))
else
(some false)))))
theorem w_laws_FnGameText (a0 : List UInt8) (r : Bool) (h : m_laws_FnGameText a0 = some r) : AM.Spec Tryd.prog 5 [.list (.bytes a0)] [] (.bool r) [] := by
 refine spec_of (E := E172) Tryd.func5 rfl rfl rfl rfl ?_
 refine Tri.f 1 [] [.keep [0] []] rfl trivial ?_
 obtain ⟨v1,hk1,h⟩ := bind_some h
 refine Tri.f 1 [.v (.bool v1)] [.keep [0,13] []] rfl ⟨fun _ => W0 a0 v1 hk1,trivial⟩ ?_
 rcases bif_some h with ⟨hd2,h⟩ | ⟨hd2,h⟩
 ·refine Tri.f 2 [.g true] [.keep [2] []] rfl ⟨hd2,trivial⟩ ?_
  cases h
  exact Tri.ret rfl ⟨.inl rfl,rfl,rfl⟩
 ·obtain ⟨⟨v2,v3⟩,hk3,h⟩ := bind_some h
  refine Tri.f 2 [.g false,.r ⟨[],.agg [.i v2,.sl 1100 0],[(1100,.arr 3 0 0 (.ints v3))]⟩] [.keep [0,3] [3,1100]] rfl ⟨fun _ => (W15 a0 (v2,v3) hk3).swap 1000 1100,hd2,trivial⟩ ?_
  obtain ⟨v4,hk4,h⟩ := bind_some h
  obtain ⟨⟨v5,v6,v7⟩,hk5,h⟩ := bind_some h
  refine Tri.f 2 [.v (.str v4),.r ⟨[],.tuple [.agg [.i v5,.sl 1101 0],.i v6],[(1101,.arr 3 0 0 (.ints v7))]⟩] [.keep [0,3,4,5,6] [3,5,1100,1101]] rfl ⟨fun _ => (W39 v4 (v5,v6,v7) hk5).swap 1000 1101,fun _ => W26 v2 v3 v4 hk4,trivial⟩ ?_
  obtain ⟨v8,hk6,h⟩ := bind_some h
  rcases bif_some h with ⟨hd7,h⟩ | ⟨hd7,h⟩
  ·refine Tri.f 1 [.v (.str v8),.g true,.g true] [.keep [0,43] []] rfl ⟨rfl,hd7,fun _ => W44 v2 v3 v8 hk6,trivial⟩ ?_
   refine Tri.f 2 [.g true] [.keep [2] []] rfl ⟨rfl,trivial⟩ ?_
   cases h
   exact Tri.ret rfl ⟨.inl rfl,rfl,rfl⟩
  ·obtain ⟨v9,hk8,h⟩ := bind_some h
   rcases bif_some h with ⟨hd9,h⟩ | ⟨hd9,h⟩
   ·refine Tri.f 1 [.v (.str v8),.g false,.v (.bool v9),.g true] [.keep [0,43] []] rfl ⟨hd9,fun _ => W40 v2 v3 v9 hk8,hd7,fun _ => W44 v2 v3 v8 hk6,trivial⟩ ?_
    refine Tri.f 2 [.g true] [.keep [2] []] rfl ⟨rfl,trivial⟩ ?_
    cases h
    exact Tri.ret rfl ⟨.inl rfl,rfl,rfl⟩
   ·rcases bif_some h with ⟨hd10,h⟩ | ⟨hd10,h⟩
    ·obtain ⟨v10,hk11,h⟩ := bind_some h
     refine Tri.f 1 [.v (.str v8),.g false,.v (.bool v9),.g false,.g true,.v (.bool v10)] [.keep [0,43] []] rfl ⟨fun _ => W46 v5 v7 v2 v3 v10 hk11,hd10,hd9,fun _ => W40 v2 v3 v9 hk8,hd7,fun _ => W44 v2 v3 v8 hk6,trivial⟩ ?_
     rcases bif_some h with ⟨hd12,h⟩ | ⟨hd12,h⟩
     ·refine Tri.f 2 [.g true] [.keep [2] []] rfl ⟨hd12,trivial⟩ ?_
      cases h
      exact Tri.ret rfl ⟨.inl rfl,rfl,rfl⟩
     ·obtain ⟨v11,hk13,h⟩ := bind_some h
      refine Tri.f 2 [.g false,.v (.str v11)] [.keep [7] []] rfl ⟨fun _ => W49 a0 v11 hk13,hd12,trivial⟩ ?_
      obtain ⟨⟨v12,v13,v14⟩,hk14,h⟩ := bind_some h
      obtain ⟨⟨v15,v16,v17⟩,hk15,h⟩ := bind_some h
      refine Tri.f 2 [.r ⟨[],.tuple [.agg [.i v12,.sl 1102 0],.i v13],[(1102,.arr 3 0 0 (.ints v14))]⟩,.r ⟨[],.tuple [.agg [.i v15,.sl 1103 0],.i v16],[(1103,.arr 3 0 0 (.ints v17))]⟩] [.keep [7,8,9,11] [8,1102]] rfl ⟨fun _ => (W57 v11 (v15,v16,v17) hk15).swap 1000 1103,fun _ => (W39 v11 (v12,v13,v14) hk14).swap 1000 1102,trivial⟩ ?_
      rcases bif_some h with ⟨hd16,h⟩ | ⟨hd16,h⟩
      ·rcases bif_some h with ⟨hd17,h⟩ | ⟨hd17,h⟩
       ·refine Tri.f 1 [.g true,.g true] [.keep [2] []] rfl ⟨hd17,hd16,trivial⟩ ?_
        cases h
        exact Tri.ret rfl ⟨.inl rfl,rfl,rfl⟩
       ·obtain ⟨v18,hk18,h⟩ := bind_some h
        refine Tri.f 1 [.g true,.g false,.v (.str v18)] [.keep [2] []] rfl ⟨fun _ => W26 v12 v14 v18 hk18,hd17,hd16,trivial⟩ ?_
        cases h
        exact Tri.ret rfl ⟨.inl rfl,rfl,rfl⟩
      ·refine Tri.f 1 [.g false] [.keep [2] []] rfl ⟨hd16,trivial⟩ ?_
       cases h
       exact Tri.ret rfl ⟨.inl rfl,rfl,rfl⟩
    ·refine Tri.f 1 [.v (.str v8),.g false,.v (.bool v9),.g false,.g false] [.keep [0,43] []] rfl ⟨hd10,hd9,fun _ => W40 v2 v3 v9 hk8,hd7,fun _ => W44 v2 v3 v8 hk6,trivial⟩ ?_
     obtain ⟨v19,hk19,h⟩ := bind_some h
     refine Tri.f 2 [.g false,.v (.str v19)] [.keep [7] []] rfl ⟨fun _ => W49 a0 v19 hk19,rfl,trivial⟩ ?_
     obtain ⟨⟨v20,v21,v22⟩,hk20,h⟩ := bind_some h
     obtain ⟨⟨v23,v24,v25⟩,hk21,h⟩ := bind_some h
     refine Tri.f 2 [.r ⟨[],.tuple [.agg [.i v20,.sl 1104 0],.i v21],[(1104,.arr 3 0 0 (.ints v22))]⟩,.r ⟨[],.tuple [.agg [.i v23,.sl 1105 0],.i v24],[(1105,.arr 3 0 0 (.ints v25))]⟩] [.keep [7,8,9,11] [8,1104]] rfl ⟨fun _ => (W57 v19 (v23,v24,v25) hk21).swap 1000 1105,fun _ => (W39 v19 (v20,v21,v22) hk20).swap 1000 1104,trivial⟩ ?_
     rcases bif_some h with ⟨hd22,h⟩ | ⟨hd22,h⟩
     ·rcases bif_some h with ⟨hd23,h⟩ | ⟨hd23,h⟩
      ·refine Tri.f 1 [.g true,.g true] [.keep [2] []] rfl ⟨hd23,hd22,trivial⟩ ?_
       cases h
       exact Tri.ret rfl ⟨.inl rfl,rfl,rfl⟩
      ·obtain ⟨v26,hk24,h⟩ := bind_some h
       refine Tri.f 1 [.g true,.g false,.v (.str v26)] [.keep [2] []] rfl ⟨fun _ => W26 v20 v22 v26 hk24,hd23,hd22,trivial⟩ ?_
       cases h
       exact Tri.ret rfl ⟨.inl rfl,rfl,rfl⟩
     ·refine Tri.f 1 [.g false] [.keep [2] []] rfl ⟨hd22,trivial⟩ ?_
      cases h
      exact Tri.ret rfl ⟨.inl rfl,rfl,rfl⟩
end Go.Proofs.YtdaoggmpohnjhaaDoor
