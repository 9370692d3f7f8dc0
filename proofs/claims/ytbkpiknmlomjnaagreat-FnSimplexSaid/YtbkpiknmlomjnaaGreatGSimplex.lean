/- models and walks -/
import Derived.Test.YtbkpiknmlomjnaaGreatProg
import Derived.Test.YtbkpiknmlomjnaaGreatAmB
namespace Go.Proofs.YtbkpiknmlomjnaaGreat
open Go.AM
set_option maxRecDepth 100000
set_option maxHeartbeats 4000000
noncomputable def tys : TEnv := [(3,.int .i64),
 (4,.bool),
 (5,.int .u8),
 (22,.slice 5 (.bytes [])),
 (24,.slice 25 (.intss [])),
 (25,.slice 3 (.ints [])),
 (26,.slice 31 (.rats [])),
 (28,.struct [(0,24),(1,25),(2,26)] [.nil (.intss []),.nil (.ints []),.nil (.rats [])] false),
 (31,.struct [(0,3),(1,3)] [.i 0,.i 0] true),
 (33,.struct [(0,3),(1,26),(2,26),(3,26),(4,31),(6,3)] [.i 0,.nil (.rats []),.nil (.rats []),.nil (.rats []),.i 0,.i 0,.i 0] false),
 (37,.slice 26 (.ratss [])),
 (39,.struct [(0,37),(1,25),(2,3)] [.nil (.ratss []),.nil (.ints []),.i 0] false),
 (56,.struct [(0,28),(3,39),(6,3),(7,4)] [.nil (.intss []),.nil (.ints []),.nil (.rats []),.nil (.ratss []),.nil (.ints []),.i 0,.i 0,.bool false] false),
 (85,.struct [(0,22),(1,3),(2,3)] [.nil (.bytes []),.i 0,.i 0] false),
 (88,.struct [(0,39),(3,3),(4,4)] [.nil (.ratss []),.nil (.ints []),.i 0,.i 0,.bool false] false)]
theorem tysOk : TOk Tryz.prog tys := tok_of (by kernel_rfl)
theorem mixedOk : Tryz.prog.follows .mixedOrders = true := by kernel_rfl
noncomputable def E237 : Env := ⟨Tryz.prog,tys,(Tryz.f4.body).getD .skip,6,tysOk,mixedOk⟩
abbrev K118 (r : Bool) (σ' : ASt) : Prop := isRes E237.T Tryz.f4 (.bool r) [] σ'
noncomputable def m_laws_big (a0 : List UInt8) : Option Bool :=
some (decide ((a0.length : Int) > 1048576))
theorem W0 (a0 : List UInt8) (r : Bool) (h : m_laws_big a0 = some r) : AM.Spec Tryz.prog 4 [.list (.bytes a0)] [] (.bool r) [] := by
 refine spec_of (E := E237) Tryz.func4 rfl rfl rfl rfl ?_
 refine Tri.f 2 [] [.keep [2] []] rfl trivial ?_
 cases h
 exact Tri.ret rfl ⟨.inl rfl,rfl,rfl⟩
noncomputable def E238 : Env := ⟨Tryz.prog,tys,(Tryz.f19.body).getD .skip,32,tysOk,mixedOk⟩
abbrev K119 (r : (List UInt8) × Int × Int × (List (List Int)) × (List Int) × (List Q)) (σ' : ASt) : Prop := isRes E238.T Tryz.f19 (.ptr 1000 0) [(1000,.box [.list (.bytes r.1),.i r.2.1,.i r.2.2.1]),(1001,.arr 25 0 0 (.intss r.2.2.2.1)),(1002,.arr 3 0 0 (.ints r.2.2.2.2.1)),(1003,.arr 31 0 0 (.rats r.2.2.2.2.2)),(2000,.box [.sl 1001 0,.sl 1002 0,.sl 1003 0])] σ'
noncomputable def l_spec_l1New_io4_0 (a3 : List UInt8) : (Int × Int) → Option ((Int × Int) ⊕ Int)
 | (v1,v2) => (
bif decide (v2 < (a3.length : Int)) then
(bif decide (v2 < 4000) then
(grd (0 ≤ v2 ∧ v2 < (a3.length : Int)) <|
some (.inl (bitsOf .and .i64 (IntKind.i64.wrap ((IntKind.i64.wrap ((IntKind.i64.wrap (v1 * 131)) + (IntKind.i64.wrap (((a3.getD v2.toNat 0).toNat : Int))))) + 7)) (1073741823 : Int),IntKind.i64.wrap (v2 + 1))))
else
(some (.inr v1)))
else
(some (.inr v1)))
noncomputable def m_spec_l1New_io4 (a0 : List (List Int)) (a1 : List Int) (a2 : List Q) (a3 : List UInt8) : Option ((List UInt8) × Int × Int × (List (List Int)) × (List Int) × (List Q)) :=
(iter (l_spec_l1New_io4_0 a3) (IntKind.i64.wrap ((26583 : Int) + (a3.length : Int)),(0 : Int))).bind fun
| v3 => (
some (a3,0,v3,a0,a1,a2))
theorem W1 (a0 : List (List Int)) (a1 : List Int) (a2 : List Q) (a3 : List UInt8) (r : (List UInt8) × Int × Int × (List (List Int)) × (List Int) × (List Q)) (h : m_spec_l1New_io4 a0 a1 a2 a3 = some r) : AM.Spec Tryz.prog 19 [.list (.bytes a3)] [(2000,.box [.sl 2001 0,.sl 2002 0,.sl 2003 0]),(2001,.arr 25 0 0 (.intss a0)),(2002,.arr 3 0 0 (.ints a1)),(2003,.arr 31 0 0 (.rats a2))] (.ptr 1000 0) [(1000,.box [.list (.bytes r.1),.i r.2.1,.i r.2.2.1]),(1001,.arr 25 0 0 (.intss r.2.2.2.1)),(1002,.arr 3 0 0 (.ints r.2.2.2.2.1)),(1003,.arr 31 0 0 (.rats r.2.2.2.2.2)),(2000,.box [.sl 1001 0,.sl 1002 0,.sl 1003 0])] := by
 refine spec_of (E := E238) Tryz.func19 rfl rfl rfl rfl ?_
 refine Tri.f 3 [] [.swap 2001 1100,.swap 2002 1101,.swap 2003 1102,.keep [0,3,4] [1100,1101,1102,2000]] rfl trivial ?_
 obtain ⟨v3,hk4,h⟩ := bind_some h
 refine Tri.loop (K1 := [.code [(2,0),(1,0),(0,0)] 0]) (K2 := [.blk 0,.code [] 3]) (fun (v1,v2) => ⟨[(0,.list (.bytes a3)),(3,.i v1),(4,.i v2)],[(1100,.arr 25 0 0 (.intss a0)),(1101,.arr 3 0 0 (.ints a1)),(1102,.arr 31 0 0 (.rats a2)),(2000,.box [.sl 1100 0,.sl 1101 0,.sl 1102 0])]⟩) (fun x e σ' => match x with | v3 => e = .exit 0 ∧ σ' = ⟨[(0,.list (.bytes a3)),(3,.i v3)],[(1100,.arr 25 0 0 (.intss a0)),(1101,.arr 3 0 0 (.ints a1)),(1102,.arr 31 0 0 (.rats a2)),(2000,.box [.sl 1100 0,.sl 1101 0,.sl 1102 0])]⟩) hk4 rfl rfl ?_ ?_
 ·intro s x hs
  clear h
  have h := hs
  clear hs
  obtain ⟨v1,v2⟩ := s
  rcases bif_some h with ⟨hd1,h⟩ | ⟨hd1,h⟩
  ·refine Tri.f 1 [.g true] [.keep [0,3,4,15] [1100,1101,1102,2000]] rfl ⟨hd1,trivial⟩ ?_
   rcases bif_some h with ⟨hd2,h⟩ | ⟨hd2,h⟩
   ·obtain ⟨hg3,h⟩ := grd_some h
    refine Tri.f 3 [.g true] [.keep [0,3,4] [1100,1101,1102,2000]] rfl ⟨hg3,hd2,trivial⟩ ?_
    cases h
    exact Tri.nil ⟨rfl,rfl⟩
   ·refine Tri.f 1 [.g false] [.keep [0,3] [1100,1101,1102,2000]] rfl ⟨hd2,trivial⟩ ?_
    cases h
    exact Tri.out 0 rfl ⟨nofun,rfl,rfl⟩
  ·refine Tri.f 1 [.g false] [.keep [0,3,4,15] [1100,1101,1102,2000]] rfl ⟨hd1,trivial⟩ ?_
   refine Tri.f 1 [.g false] [.keep [0,3] [1100,1101,1102,2000]] rfl ⟨rfl,trivial⟩ ?_
   cases h
   exact Tri.out 0 rfl ⟨nofun,rfl,rfl⟩
 ·intro e σ' hne hq
  obtain ⟨rfl,rfl⟩ := hq
  refine TriX.exit (K' := [.code [] 3]) rfl ?_
  refine Tri.f 1 [] [.swap 31 1000,.swap 1100 1001,.swap 1101 1002,.swap 1102 1003,.keep [2] [1000,1001,1002,1003,2000]] rfl trivial ?_
  cases h
  exact Tri.ret rfl ⟨.inl rfl,rfl,rfl⟩
noncomputable def E239 : Env := ⟨Tryz.prog,tys,(Tryz.f85.body).getD .skip,58,tysOk,mixedOk⟩
abbrev K120 (u0 : Value) (a0 : List UInt8) (r : Int × Int × Int) (σ' : ASt) : Prop := isRes E239.T Tryz.f85 (.i r.1) [(2080,.box [.lst u0 (.bytes a0),.i r.2.1,.i r.2.2])] σ'
noncomputable def m_spec_l1Byte_io1 (a0 : List UInt8) (a1 a2 : Int) : Option (Int × Int × Int) :=
grd ((0 : Int) ≤ (33 : Int)) <|
grd ((0 : Int) ≤ (45 : Int)) <|
((some (bitsOf .and .i64 (bitsOf .xor .i64 ((IntKind.i64.wrap ((IntKind.i64.wrap (a2 * 6364136223846793005)) + 1442695040888963407)).fdiv (2 ^ (min (33 : Int).toNat 64))) ((IntKind.i64.wrap ((IntKind.i64.wrap (a2 * 6364136223846793005)) + 1442695040888963407)).fdiv (2 ^ (min (45 : Int).toNat 64)))) (255 : Int) : Int)).bind fun v1 =>
bif decide (a1 < (a0.length : Int)) then
(grd (0 ≤ a1 ∧ a1 < (a0.length : Int)) <|
some (bitsOf .and .i64 (IntKind.i64.wrap (v1 + (IntKind.i64.wrap (((a0.getD a1.toNat 0).toNat : Int))))) (255 : Int),IntKind.i64.wrap (a1 + 1),IntKind.i64.wrap ((IntKind.i64.wrap (a2 * 6364136223846793005)) + 1442695040888963407)))
else
(some (v1,a1,IntKind.i64.wrap ((IntKind.i64.wrap (a2 * 6364136223846793005)) + 1442695040888963407))))
theorem W2 (u0 : Value) (a0 : List UInt8) (a1 a2 : Int) (r : Int × Int × Int) (h : m_spec_l1Byte_io1 a0 a1 a2 = some r) : AM.Spec Tryz.prog 85 [.ptr 2080 0] [(2080,.box [.lst u0 (.bytes a0),.i a1,.i a2])] (.i r.1) [(2080,.box [.lst u0 (.bytes a0),.i r.2.1,.i r.2.2])] := by
 refine spec_of (E := E239) Tryz.func85 rfl rfl rfl rfl ?_
 obtain ⟨hg1,h⟩ := grd_some h
 obtain ⟨hg2,h⟩ := grd_some h
 refine Tri.u 3 [] [.keep [0,3] [2080]] [.code [(3,0),(0,0)] 0,.code [(3,0)] 1,.code [] 4] ⟨[(0,.ptr 2080 0),(3,.i (bitsOf .and .i64 (bitsOf .xor .i64 ((IntKind.i64.wrap ((IntKind.i64.wrap (a2 * 6364136223846793005)) + 1442695040888963407)).fdiv (2 ^ (min (33 : Int).toNat 64))) ((IntKind.i64.wrap ((IntKind.i64.wrap (a2 * 6364136223846793005)) + 1442695040888963407)).fdiv (2 ^ (min (45 : Int).toNat 64)))) (255 : Int)))],[(2080,.box [.lst u0 (.bytes a0),.i a1,.i (IntKind.i64.wrap ((IntKind.i64.wrap (a2 * 6364136223846793005)) + 1442695040888963407))])]⟩ rfl ⟨hg2,hg1,trivial⟩ rfl ?_
 obtain ⟨v1,hk3,h⟩ := bind_some h
 have hk3 := Option.some.inj hk3
 rw [hk3]
 refine Tri.f 1 [] [.keep [0,3,34] [2080]] rfl trivial ?_
 rcases bif_some h with ⟨hd4,h⟩ | ⟨hd4,h⟩
 ·obtain ⟨hg5,h⟩ := grd_some h
  refine Tri.f 3 [.g true] [.keep [3] [2080]] rfl ⟨hg5,hd4,trivial⟩ ?_
  refine Tri.f 1 [] [.keep [2] [2080]] rfl trivial ?_
  cases h
  exact Tri.ret rfl ⟨.inl rfl,rfl,rfl⟩
 ·refine Tri.f 2 [.g false] [.keep [2] [2080]] rfl ⟨hd4,trivial⟩ ?_
  cases h
  exact Tri.ret rfl ⟨.inl rfl,rfl,rfl⟩
noncomputable def E240 : Env := ⟨Tryz.prog,tys,(Tryz.f34.body).getD .skip,37,tysOk,mixedOk⟩
abbrev K121 (u0 : Value) (a0 : List UInt8) (r : Int × Int × Int) (σ' : ASt) : Prop := isRes E240.T Tryz.f34 (.i r.1) [(2060,.box [.lst u0 (.bytes a0),.i r.2.1,.i r.2.2])] σ'
noncomputable def m_spec_l1Below_io1 (a0 : List UInt8) (a1 a2 a3 : Int) : Option (Int × Int × Int) :=
bif decide (a3 ≤ 0) then
(some ((0 : Int),a1,a2))
else
(bif decide (a3 ≤ 256) then
((m_spec_l1Byte_io1 a0 a1 a2).bind fun (v1,v2,v3) =>
grd (a3 ≠ 0) <|
some (v1.tmod a3,v2,v3))
else
((m_spec_l1Byte_io1 a0 a1 a2).bind fun (v4,v5,v6) =>
(m_spec_l1Byte_io1 a0 v5 v6).bind fun (v7,v8,v9) =>
(m_spec_l1Byte_io1 a0 v8 v9).bind fun (v10,v11,v12) =>
(m_spec_l1Byte_io1 a0 v11 v12).bind fun (v13,v14,v15) =>
grd (a3 ≠ 0) <|
some ((IntKind.i64.wrap ((IntKind.i64.wrap ((IntKind.i64.wrap ((IntKind.i64.wrap (v4 * 16777216)) + (IntKind.i64.wrap (v7 * 65536)))) + (IntKind.i64.wrap (v10 * 256)))) + v13)).tmod a3,v14,v15)))
theorem W3 (u0 : Value) (a0 : List UInt8) (a1 a2 a3 : Int) (r : Int × Int × Int) (h : m_spec_l1Below_io1 a0 a1 a2 a3 = some r) : AM.Spec Tryz.prog 34 [.ptr 2060 0,.i a3] [(2060,.box [.lst u0 (.bytes a0),.i a1,.i a2])] (.i r.1) [(2060,.box [.lst u0 (.bytes a0),.i r.2.1,.i r.2.2])] := by
 refine spec_of (E := E240) Tryz.func34 rfl rfl rfl rfl ?_
 refine Tri.f 2 [] [.keep [0,1,10] [2060]] rfl trivial ?_
 rcases bif_some h with ⟨hd1,h⟩ | ⟨hd1,h⟩
 ·refine Tri.f 2 [.g true] [.keep [4] [2060]] rfl ⟨hd1,trivial⟩ ?_
  cases h
  exact Tri.ret rfl ⟨.inl rfl,rfl,rfl⟩
 ·refine Tri.f 2 [.g false] [.keep [0,1,12] [2060]] rfl ⟨hd1,trivial⟩ ?_
  rcases bif_some h with ⟨hd2,h⟩ | ⟨hd2,h⟩
  ·obtain ⟨⟨v1,v2,v3⟩,hk3,h⟩ := bind_some h
   obtain ⟨hg4,h⟩ := grd_some h
   refine Tri.f 2 [.g true,.r ⟨[2060],.i v1,[(2060,.box [.undf,.i v2,.i v3])]⟩] [.keep [4] [2060]] rfl ⟨hg4,(fun vf => ((W2 (vf 2060 0) a0 a1 a2 (v1,v2,v3) hk3).swap 2080 2060)),hd2,trivial⟩ ?_
   cases h
   exact Tri.ret rfl ⟨.inl rfl,rfl,rfl⟩
  ·obtain ⟨⟨v4,v5,v6⟩,hk5,h⟩ := bind_some h
   refine Tri.f 2 [.g false,.r ⟨[2060],.i v4,[(2060,.box [.undf,.i v5,.i v6])]⟩] [.keep [0,1,5] [2060]] rfl ⟨(fun vf => ((W2 (vf 2060 0) a0 a1 a2 (v4,v5,v6) hk5).swap 2080 2060)),hd2,trivial⟩ ?_
   obtain ⟨⟨v7,v8,v9⟩,hk6,h⟩ := bind_some h
   obtain ⟨⟨v10,v11,v12⟩,hk7,h⟩ := bind_some h
   refine Tri.f 2 [.r ⟨[2060],.i v7,[(2060,.box [.undf,.i v8,.i v9])]⟩,.r ⟨[2060],.i v10,[(2060,.box [.undf,.i v11,.i v12])]⟩] [.keep [0,1,5,6,7] [2060]] rfl ⟨(fun vf => ((W2 (vf 2060 0) a0 v8 v9 (v10,v11,v12) hk7).swap 2080 2060)),(fun vf => ((W2 (vf 2060 0) a0 v5 v6 (v7,v8,v9) hk6).swap 2080 2060)),trivial⟩ ?_
   obtain ⟨⟨v13,v14,v15⟩,hk8,h⟩ := bind_some h
   obtain ⟨hg9,h⟩ := grd_some h
   refine Tri.f 2 [.r ⟨[2060],.i v13,[(2060,.box [.undf,.i v14,.i v15])]⟩] [.keep [4] [2060]] rfl ⟨hg9,(fun vf => ((W2 (vf 2060 0) a0 v11 v12 (v13,v14,v15) hk8).swap 2080 2060)),trivial⟩ ?_
   cases h
   exact Tri.ret rfl ⟨.inl rfl,rfl,rfl⟩
noncomputable def E241 : Env := ⟨Tryz.prog,tys,(Tryz.f100.body).getD .skip,9,tysOk,mixedOk⟩
abbrev K122 (u0 : Value) (a0 : List UInt8) (r : Bool × Int × Int) (σ' : ASt) : Prop := isRes E241.T Tryz.f100 (.bool r.1) [(2100,.box [.lst u0 (.bytes a0),.i r.2.1,.i r.2.2])] σ'
noncomputable def m_spec_l1Once_io1 (a0 : List UInt8) (a1 a2 a3 : Int) : Option (Bool × Int × Int) :=
(m_spec_l1Below_io1 a0 a1 a2 a3).bind fun (v1,v2,v3) =>
some (v1 == 0,v2,v3)
theorem W4 (u0 : Value) (a0 : List UInt8) (a1 a2 a3 : Int) (r : Bool × Int × Int) (h : m_spec_l1Once_io1 a0 a1 a2 a3 = some r) : AM.Spec Tryz.prog 100 [.ptr 2100 0,.i a3] [(2100,.box [.lst u0 (.bytes a0),.i a1,.i a2])] (.bool r.1) [(2100,.box [.lst u0 (.bytes a0),.i r.2.1,.i r.2.2])] := by
 refine spec_of (E := E241) Tryz.func100 rfl rfl rfl rfl ?_
 refine Tri.f 1 [] [.keep [0,1] [2100]] rfl trivial ?_
 obtain ⟨⟨v1,v2,v3⟩,hk1,h⟩ := bind_some h
 refine Tri.f 1 [.r ⟨[2100],.i v1,[(2100,.box [.undf,.i v2,.i v3])]⟩] [.keep [4] [2100]] rfl ⟨(fun vf => ((W3 (vf 2100 0) a0 a1 a2 a3 (v1,v2,v3) hk1).swap 2060 2100)),trivial⟩ ?_
 cases h
 exact Tri.ret rfl ⟨.inl rfl,rfl,rfl⟩
noncomputable def E242 : Env := ⟨Tryz.prog,tys,(Tryz.f32.body).getD .skip,12,tysOk,mixedOk⟩
abbrev K123 (u0 : Value) (a0 : List UInt8) (r : Int × Int × Int) (σ' : ASt) : Prop := isRes E242.T Tryz.f32 (.i r.1) [(2140,.box [.lst u0 (.bytes a0),.i r.2.1,.i r.2.2])] σ'
noncomputable def m_spec_l1PickInt_io1 (a0 : List UInt8) (a1 a2 : Int) (a3 : List Int) : Option (Int × Int × Int) :=
(m_spec_l1Below_io1 a0 a1 a2 (a3.length : Int)).bind fun (v1,v2,v3) =>
grd (0 ≤ v1 ∧ v1 < (a3.length : Int)) <|
some (a3.getD v1.toNat 0,v2,v3)
theorem W5 (u0 : Value) (a0 : List UInt8) (a1 a2 : Int) (a3 : List Int) (r : Int × Int × Int) (h : m_spec_l1PickInt_io1 a0 a1 a2 a3 = some r) : AM.Spec Tryz.prog 32 [.ptr 2140 0,.list (.ints a3)] [(2140,.box [.lst u0 (.bytes a0),.i a1,.i a2])] (.i r.1) [(2140,.box [.lst u0 (.bytes a0),.i r.2.1,.i r.2.2])] := by
 refine spec_of (E := E242) Tryz.func32 rfl rfl rfl rfl ?_
 refine Tri.f 1 [] [.keep [0,1] [2140]] rfl trivial ?_
 obtain ⟨⟨v1,v2,v3⟩,hk1,h⟩ := bind_some h
 obtain ⟨hg2,h⟩ := grd_some h
 refine Tri.f 1 [.r ⟨[2140],.i v1,[(2140,.box [.undf,.i v2,.i v3])]⟩] [.keep [4] [2140]] rfl ⟨hg2,(fun vf => ((W3 (vf 2140 0) a0 a1 a2 (a3.length : Int) (v1,v2,v3) hk1).swap 2060 2140)),trivial⟩ ?_
 cases h
 exact Tri.ret rfl ⟨.inl rfl,rfl,rfl⟩
noncomputable def E243 : Env := ⟨Tryz.prog,tys,(Tryz.f82.body).getD .skip,6,tysOk,mixedOk⟩
abbrev K124 (u0 : Value) (a0 : List UInt8) (r : Int × Int × Int) (σ' : ASt) : Prop := isRes E243.T Tryz.f82 (.i r.1) [(2120,.box [.lst u0 (.bytes a0),.i r.2.1,.i r.2.2])] σ'
noncomputable def m_spec_l5Number_io1 (a0 : List UInt8) (a1 a2 : Int) : Option (Int × Int × Int) :=
(m_spec_l1PickInt_io1 a0 a1 a2 [(0 : Int),(0 : Int),(1 : Int),(1 : Int),(2 : Int),(-1 : Int),(-2 : Int),(3 : Int),(5 : Int),(-4 : Int)]).bind fun (v1,v2,v3) =>
some (v1,v2,v3)
theorem W6 (u0 : Value) (a0 : List UInt8) (a1 a2 : Int) (r : Int × Int × Int) (h : m_spec_l5Number_io1 a0 a1 a2 = some r) : AM.Spec Tryz.prog 82 [.ptr 2120 0] [(2120,.box [.lst u0 (.bytes a0),.i a1,.i a2])] (.i r.1) [(2120,.box [.lst u0 (.bytes a0),.i r.2.1,.i r.2.2])] := by
 refine spec_of (E := E243) Tryz.func82 rfl rfl rfl rfl ?_
 refine Tri.f 1 [] [.keep [0] [2120]] rfl trivial ?_
 obtain ⟨⟨v1,v2,v3⟩,hk1,h⟩ := bind_some h
 refine Tri.f 1 [.r ⟨[2120],.i v1,[(2120,.box [.undf,.i v2,.i v3])]⟩] [.keep [2] [2120]] rfl ⟨(fun vf => ((W5 (vf 2120 0) a0 a1 a2 [(0 : Int),(0 : Int),(1 : Int),(1 : Int),(2 : Int),(-1 : Int),(-2 : Int),(3 : Int),(5 : Int),(-4 : Int)] (v1,v2,v3) hk1).swap 2140 2120)),trivial⟩ ?_
 cases h
 exact Tri.ret rfl ⟨.inl rfl,rfl,rfl⟩
noncomputable def E244 : Env := ⟨Tryz.prog,tys,(Tryz.f41.body).getD .skip,15,tysOk,mixedOk⟩
abbrev K125 (r : Bool) (σ' : ASt) : Prop := isRes E244.T Tryz.f41 (.bool r) [] σ'
noncomputable def m_spec_l1In (a0 a1 a2 : Int) : Option Bool :=
bif decide (a0 ≥ a1) then
(some (decide (a0 ≤ a2)))
else
(some false)
theorem W7 (a0 a1 a2 : Int) (r : Bool) (h : m_spec_l1In a0 a1 a2 = some r) : AM.Spec Tryz.prog 41 [.i a0,.i a1,.i a2] [] (.bool r) [] := by
 refine spec_of (E := E244) Tryz.func41 rfl rfl rfl rfl ?_
 refine Tri.f 1 [] [.keep [0,1,2] []] rfl trivial ?_
 rcases bif_some h with ⟨hd1,h⟩ | ⟨hd1,h⟩
 ·refine Tri.f 1 [.g true] [.keep [6] []] rfl ⟨hd1,trivial⟩ ?_
  cases h
  exact Tri.ret rfl ⟨.inl rfl,rfl,rfl⟩
 ·refine Tri.f 1 [.g false] [.keep [6] []] rfl ⟨hd1,trivial⟩ ?_
  cases h
  exact Tri.ret rfl ⟨.inl rfl,rfl,rfl⟩
noncomputable def E245 : Env := ⟨Tryz.prog,tys,(Tryz.f110.body).getD .skip,22,tysOk,mixedOk⟩
abbrev K126 (r : Int) (σ' : ASt) : Prop := isRes E245.T Tryz.f110 (.i r) [] σ'
noncomputable def l_spec_l3Gcd_0 : (Int × Int) → Option ((Int × Int) ⊕ Int)
 | (v1,v2) => (
bif decide (v2 > 0) then
(grd (v2 ≠ 0) <|
some (.inl (v2,v1.tmod v2)))
else
(some (.inr v1)))
noncomputable def l_spec_l3Gcd_1 : (Int × Int) → Option ((Int × Int) ⊕ Int)
 | (v4,v5) => (
bif decide (v5 > 0) then
(grd (v5 ≠ 0) <|
some (.inl (v5,v4.tmod v5)))
else
(some (.inr v4)))
noncomputable def l_spec_l3Gcd_2 : (Int × Int) → Option ((Int × Int) ⊕ Int)
 | (v7,v8) => (
bif decide (v8 > 0) then
(grd (v8 ≠ 0) <|
some (.inl (v8,v7.tmod v8)))
else
(some (.inr v7)))
noncomputable def l_spec_l3Gcd_3 : (Int × Int) → Option ((Int × Int) ⊕ Int)
 | (v10,v11) => (
bif decide (v11 > 0) then
(grd (v11 ≠ 0) <|
some (.inl (v11,v10.tmod v11)))
else
(some (.inr v10)))
noncomputable def m_spec_l3Gcd (a0 a1 : Int) : Option Int :=
bif decide (a0 < 0) then
(bif decide (a1 < 0) then
((iter (l_spec_l3Gcd_0) (IntKind.i64.wrap (0 - a0),IntKind.i64.wrap (0 - a1))).bind fun
| v3 => (
some v3))
else
((iter (l_spec_l3Gcd_1) (IntKind.i64.wrap (0 - a0),a1)).bind fun
| v6 => (
some v6)))
else
(bif decide (a1 < 0) then
((iter (l_spec_l3Gcd_2) (a0,IntKind.i64.wrap (0 - a1))).bind fun
| v9 => (
some v9))
else
((iter (l_spec_l3Gcd_3) (a0,a1)).bind fun
| v12 => (
some v12)))
theorem W8 (a0 a1 r : Int) (h : m_spec_l3Gcd a0 a1 = some r) : AM.Spec Tryz.prog 110 [.i a0,.i a1] [] (.i r) [] := by
 refine spec_of (E := E245) Tryz.func110 rfl rfl rfl rfl ?_
 refine Tri.f 2 [] [.keep [0,1,7] []] rfl trivial ?_
 rcases bif_some h with ⟨hd1,h⟩ | ⟨hd1,h⟩
 ·refine Tri.f 3 [.g true] [.keep [0,1,11] []] rfl ⟨hd1,trivial⟩ ?_
  rcases bif_some h with ⟨hd2,h⟩ | ⟨hd2,h⟩
  ·refine Tri.f 2 [.g true] [.keep [0,1] []] rfl ⟨hd2,trivial⟩ ?_
   obtain ⟨v3,hk5,h⟩ := bind_some h
   refine Tri.loop (K1 := [.code [(3,0),(0,0),(0,0)] 0]) (K2 := [.blk 0,.code [] 4]) (fun (v1,v2) => ⟨[(0,.i v1),(1,.i v2)],[]⟩) (fun x e σ' => match x with | v3 => e = .exit 0 ∧ σ' = ⟨[(0,.i v3)],[]⟩) hk5 rfl rfl ?_ ?_
   ·intro s x hs
    clear h
    have h := hs
    clear hs
    obtain ⟨v1,v2⟩ := s
    refine Tri.f 1 [] [.keep [0,1,15] []] rfl trivial ?_
    rcases bif_some h with ⟨hd3,h⟩ | ⟨hd3,h⟩
    ·obtain ⟨hg4,h⟩ := grd_some h
     refine Tri.f 3 [.g true] [.keep [0,5] []] rfl ⟨hg4,hd3,trivial⟩ ?_
     refine Tri.f 1 [] [.keep [0,1] []] rfl trivial ?_
     cases h
     exact Tri.nil ⟨rfl,rfl⟩
    ·refine Tri.f 1 [.g false] [.keep [0] []] rfl ⟨hd3,trivial⟩ ?_
     cases h
     exact Tri.out 0 rfl ⟨nofun,rfl,rfl⟩
   ·intro e σ' hne hq
    obtain ⟨rfl,rfl⟩ := hq
    refine TriX.exit (K' := [.code [] 4]) rfl ?_
    refine Tri.f 1 [] [.keep [4] []] rfl trivial ?_
    cases h
    exact Tri.ret rfl ⟨.inl rfl,rfl,rfl⟩
  ·refine Tri.f 1 [.g false] [.keep [0,1] []] rfl ⟨hd2,trivial⟩ ?_
   obtain ⟨v6,hk8,h⟩ := bind_some h
   refine Tri.loop (K1 := [.code [(3,0),(0,0),(0,0)] 0]) (K2 := [.blk 0,.code [] 4]) (fun (v4,v5) => ⟨[(0,.i v4),(1,.i v5)],[]⟩) (fun x e σ' => match x with | v6 => e = .exit 0 ∧ σ' = ⟨[(0,.i v6)],[]⟩) hk8 rfl rfl ?_ ?_
   ·intro s x hs
    clear h
    have h := hs
    clear hs
    obtain ⟨v4,v5⟩ := s
    refine Tri.f 1 [] [.keep [0,1,15] []] rfl trivial ?_
    rcases bif_some h with ⟨hd6,h⟩ | ⟨hd6,h⟩
    ·obtain ⟨hg7,h⟩ := grd_some h
     refine Tri.f 3 [.g true] [.keep [0,5] []] rfl ⟨hg7,hd6,trivial⟩ ?_
     refine Tri.f 1 [] [.keep [0,1] []] rfl trivial ?_
     cases h
     exact Tri.nil ⟨rfl,rfl⟩
    ·refine Tri.f 1 [.g false] [.keep [0] []] rfl ⟨hd6,trivial⟩ ?_
     cases h
     exact Tri.out 0 rfl ⟨nofun,rfl,rfl⟩
   ·intro e σ' hne hq
    obtain ⟨rfl,rfl⟩ := hq
    refine TriX.exit (K' := [.code [] 4]) rfl ?_
    refine Tri.f 1 [] [.keep [4] []] rfl trivial ?_
    cases h
    exact Tri.ret rfl ⟨.inl rfl,rfl,rfl⟩
 ·refine Tri.f 2 [.g false] [.keep [0,1,11] []] rfl ⟨hd1,trivial⟩ ?_
  rcases bif_some h with ⟨hd9,h⟩ | ⟨hd9,h⟩
  ·refine Tri.f 2 [.g true] [.keep [0,1] []] rfl ⟨hd9,trivial⟩ ?_
   obtain ⟨v9,hk12,h⟩ := bind_some h
   refine Tri.loop (K1 := [.code [(3,0),(0,0),(0,0)] 0]) (K2 := [.blk 0,.code [] 4]) (fun (v7,v8) => ⟨[(0,.i v7),(1,.i v8)],[]⟩) (fun x e σ' => match x with | v9 => e = .exit 0 ∧ σ' = ⟨[(0,.i v9)],[]⟩) hk12 rfl rfl ?_ ?_
   ·intro s x hs
    clear h
    have h := hs
    clear hs
    obtain ⟨v7,v8⟩ := s
    refine Tri.f 1 [] [.keep [0,1,15] []] rfl trivial ?_
    rcases bif_some h with ⟨hd10,h⟩ | ⟨hd10,h⟩
    ·obtain ⟨hg11,h⟩ := grd_some h
     refine Tri.f 3 [.g true] [.keep [0,5] []] rfl ⟨hg11,hd10,trivial⟩ ?_
     refine Tri.f 1 [] [.keep [0,1] []] rfl trivial ?_
     cases h
     exact Tri.nil ⟨rfl,rfl⟩
    ·refine Tri.f 1 [.g false] [.keep [0] []] rfl ⟨hd10,trivial⟩ ?_
     cases h
     exact Tri.out 0 rfl ⟨nofun,rfl,rfl⟩
   ·intro e σ' hne hq
    obtain ⟨rfl,rfl⟩ := hq
    refine TriX.exit (K' := [.code [] 4]) rfl ?_
    refine Tri.f 1 [] [.keep [4] []] rfl trivial ?_
    cases h
    exact Tri.ret rfl ⟨.inl rfl,rfl,rfl⟩
  ·refine Tri.f 1 [.g false] [.keep [0,1] []] rfl ⟨hd9,trivial⟩ ?_
   obtain ⟨v12,hk15,h⟩ := bind_some h
   refine Tri.loop (K1 := [.code [(3,0),(0,0),(0,0)] 0]) (K2 := [.blk 0,.code [] 4]) (fun (v10,v11) => ⟨[(0,.i v10),(1,.i v11)],[]⟩) (fun x e σ' => match x with | v12 => e = .exit 0 ∧ σ' = ⟨[(0,.i v12)],[]⟩) hk15 rfl rfl ?_ ?_
   ·intro s x hs
    clear h
    have h := hs
    clear hs
    obtain ⟨v10,v11⟩ := s
    refine Tri.f 1 [] [.keep [0,1,15] []] rfl trivial ?_
    rcases bif_some h with ⟨hd13,h⟩ | ⟨hd13,h⟩
    ·obtain ⟨hg14,h⟩ := grd_some h
     refine Tri.f 3 [.g true] [.keep [0,5] []] rfl ⟨hg14,hd13,trivial⟩ ?_
     refine Tri.f 1 [] [.keep [0,1] []] rfl trivial ?_
     cases h
     exact Tri.nil ⟨rfl,rfl⟩
    ·refine Tri.f 1 [.g false] [.keep [0] []] rfl ⟨hd13,trivial⟩ ?_
     cases h
     exact Tri.out 0 rfl ⟨nofun,rfl,rfl⟩
   ·intro e σ' hne hq
    obtain ⟨rfl,rfl⟩ := hq
    refine TriX.exit (K' := [.code [] 4]) rfl ?_
    refine Tri.f 1 [] [.keep [4] []] rfl trivial ?_
    cases h
    exact Tri.ret rfl ⟨.inl rfl,rfl,rfl⟩
noncomputable def E246 : Env := ⟨Tryz.prog,tys,(Tryz.f90.body).getD .skip,19,tysOk,mixedOk⟩
abbrev K127 (r : Bool) (σ' : ASt) : Prop := isRes E246.T Tryz.f90 (.bool r) [] σ'
noncomputable def m_spec_IsValidRat (a0 a1 : Int) : Option Bool :=
(m_spec_l1In a1 (1 : Int) (1000000000 : Int)).bind fun v1 =>
bif v1 then
((m_spec_l1In a0 (-1000000000 : Int) (1000000000 : Int)).bind fun v2 =>
bif v2 then
((m_spec_l3Gcd a0 a1).bind fun v3 =>
some (v3 == 1))
else
(some false))
else
(some false)
theorem W9 (a0 a1 : Int) (r : Bool) (h : m_spec_IsValidRat a0 a1 = some r) : AM.Spec Tryz.prog 90 [.agg [.i a0,.i a1]] [] (.bool r) [] := by
 refine spec_of (E := E246) Tryz.func90 rfl rfl rfl rfl ?_
 refine Tri.f 1 [] [.keep [1] [1]] rfl trivial ?_
 obtain ⟨v1,hk1,h⟩ := bind_some h
 rcases bif_some h with ⟨hd2,h⟩ | ⟨hd2,h⟩
 ·obtain ⟨v2,hk3,h⟩ := bind_some h
  rcases bif_some h with ⟨hd4,h⟩ | ⟨hd4,h⟩
  ·obtain ⟨v3,hk5,h⟩ := bind_some h
   refine Tri.f 1 [.v (.bool v1),.g true,.v (.bool v2),.g true,.v (.i v3)] [.keep [2] []] rfl ⟨fun _ => W8 a0 a1 v3 hk5,hd4,fun _ => W7 a0 (-1000000000 : Int) (1000000000 : Int) v2 hk3,hd2,fun _ => W7 a1 (1 : Int) (1000000000 : Int) v1 hk1,trivial⟩ ?_
   cases h
   exact Tri.ret rfl ⟨.inl rfl,rfl,rfl⟩
  ·refine Tri.f 1 [.v (.bool v1),.g true,.v (.bool v2),.g false] [.keep [2] []] rfl ⟨hd4,fun _ => W7 a0 (-1000000000 : Int) (1000000000 : Int) v2 hk3,hd2,fun _ => W7 a1 (1 : Int) (1000000000 : Int) v1 hk1,trivial⟩ ?_
   cases h
   exact Tri.ret rfl ⟨.inl rfl,rfl,rfl⟩
 ·refine Tri.f 1 [.v (.bool v1),.g false,.g false] [.keep [2] []] rfl ⟨rfl,hd2,fun _ => W7 a1 (1 : Int) (1000000000 : Int) v1 hk1,trivial⟩ ?_
  cases h
  exact Tri.ret rfl ⟨.inl rfl,rfl,rfl⟩
noncomputable def E247 : Env := ⟨Tryz.prog,tys,(Tryz.f91.body).getD .skip,42,tysOk,mixedOk⟩
abbrev K128 (r : Int × Int × Bool) (σ' : ASt) : Prop := isRes E247.T Tryz.f91 (.tuple [.agg [.i r.1,.i r.2.1],.bool r.2.2]) [] σ'
noncomputable def m_spec_RatOf (a0 a1 : Int) : Option (Int × Int × Bool) :=
bif a1 == 0 then
(some (0,0,false))
else
((m_spec_l1In a0 (-1000000000000000000 : Int) (1000000000000000000 : Int)).bind fun v1 =>
bif !v1 then
(some (0,0,false))
else
((m_spec_l1In a1 (-1000000000000000000 : Int) (1000000000000000000 : Int)).bind fun v2 =>
bif !v2 then
(some (0,0,false))
else
(bif decide (a1 < 0) then
((m_spec_l3Gcd (IntKind.i64.wrap (0 - a0)) (IntKind.i64.wrap (0 - a1))).bind fun v3 =>
grd (v3 ≠ 0) <|
grd (v3 ≠ 0) <|
(m_spec_IsValidRat (IntKind.i64.wrap ((IntKind.i64.wrap (0 - a0)).tdiv v3)) (IntKind.i64.wrap ((IntKind.i64.wrap (0 - a1)).tdiv v3))).bind fun v4 =>
bif !v4 then
(some (0,0,false))
else
(some (IntKind.i64.wrap ((IntKind.i64.wrap (0 - a0)).tdiv v3),IntKind.i64.wrap ((IntKind.i64.wrap (0 - a1)).tdiv v3),true)))
else
((m_spec_l3Gcd a0 a1).bind fun v5 =>
grd (v5 ≠ 0) <|
grd (v5 ≠ 0) <|
(m_spec_IsValidRat (IntKind.i64.wrap (a0.tdiv v5)) (IntKind.i64.wrap (a1.tdiv v5))).bind fun v6 =>
bif !v6 then
(some (0,0,false))
else
(some (IntKind.i64.wrap (a0.tdiv v5),IntKind.i64.wrap (a1.tdiv v5),true))))))
theorem W10 (a0 a1 : Int) (r : Int × Int × Bool) (h : m_spec_RatOf a0 a1 = some r) : AM.Spec Tryz.prog 91 [.i a0,.i a1] [] (.tuple [.agg [.i r.1,.i r.2.1],.bool r.2.2]) [] := by
 refine spec_of (E := E247) Tryz.func91 rfl rfl rfl rfl ?_
 refine Tri.f 1 [] [.keep [0,1,4] [4]] rfl trivial ?_
 rcases bif_some h with ⟨hd1,h⟩ | ⟨hd1,h⟩
 ·refine Tri.f 1 [.g true,.g true] [.keep [0,1,4,19] [4]] rfl ⟨rfl,hd1,trivial⟩ ?_
  refine Tri.f 2 [.g true] [.keep [4,5] [4]] rfl ⟨rfl,trivial⟩ ?_
  cases h
  exact Tri.ret rfl ⟨.inl rfl,rfl,rfl⟩
 ·obtain ⟨v1,hk2,h⟩ := bind_some h
  rcases bif_some h with ⟨hd3,h⟩ | ⟨hd3,h⟩
  ·refine Tri.f 1 [.g false,.v (.bool v1),.g true] [.keep [0,1,4,19] [4]] rfl ⟨hd3,fun _ => W7 a0 (-1000000000000000000 : Int) (1000000000000000000 : Int) v1 hk2,hd1,trivial⟩ ?_
   refine Tri.f 2 [.g true] [.keep [4,5] [4]] rfl ⟨rfl,trivial⟩ ?_
   cases h
   exact Tri.ret rfl ⟨.inl rfl,rfl,rfl⟩
  ·obtain ⟨v2,hk4,h⟩ := bind_some h
   refine Tri.f 1 [.g false,.v (.bool v1),.g false,.v (.bool v2)] [.keep [0,1,4,19] [4]] rfl ⟨fun _ => W7 a1 (-1000000000000000000 : Int) (1000000000000000000 : Int) v2 hk4,hd3,fun _ => W7 a0 (-1000000000000000000 : Int) (1000000000000000000 : Int) v1 hk2,hd1,trivial⟩ ?_
   rcases bif_some h with ⟨hd5,h⟩ | ⟨hd5,h⟩
   ·refine Tri.f 2 [.g true] [.keep [4,5] [4]] rfl ⟨hd5,trivial⟩ ?_
    cases h
    exact Tri.ret rfl ⟨.inl rfl,rfl,rfl⟩
   ·refine Tri.f 2 [.g false] [.keep [0,1,4,22] [4]] rfl ⟨hd5,trivial⟩ ?_
    rcases bif_some h with ⟨hd6,h⟩ | ⟨hd6,h⟩
    ·refine Tri.f 3 [.g true] [.keep [0,1,4] [4]] rfl ⟨hd6,trivial⟩ ?_
     obtain ⟨v3,hk7,h⟩ := bind_some h
     obtain ⟨hg8,h⟩ := grd_some h
     obtain ⟨hg9,h⟩ := grd_some h
     refine Tri.f 2 [.v (.i v3)] [.keep [4,7] [4,7]] rfl ⟨hg9,hg8,fun _ => W8 (IntKind.i64.wrap (0 - a0)) (IntKind.i64.wrap (0 - a1)) v3 hk7,trivial⟩ ?_
     obtain ⟨v4,hk10,h⟩ := bind_some h
     refine Tri.f 1 [.v (.bool v4)] [.keep [4,7,39] [4,7]] rfl ⟨fun _ => W9 (IntKind.i64.wrap ((IntKind.i64.wrap (0 - a0)).tdiv v3)) (IntKind.i64.wrap ((IntKind.i64.wrap (0 - a1)).tdiv v3)) v4 hk10,trivial⟩ ?_
     rcases bif_some h with ⟨hd11,h⟩ | ⟨hd11,h⟩
     ·refine Tri.f 2 [.g true] [.keep [4,5] [4]] rfl ⟨hd11,trivial⟩ ?_
      cases h
      exact Tri.ret rfl ⟨.inl rfl,rfl,rfl⟩
     ·refine Tri.f 2 [.g false] [.keep [4,5] [4]] rfl ⟨hd11,trivial⟩ ?_
      cases h
      exact Tri.ret rfl ⟨.inl rfl,rfl,rfl⟩
    ·obtain ⟨v5,hk12,h⟩ := bind_some h
     obtain ⟨hg13,h⟩ := grd_some h
     obtain ⟨hg14,h⟩ := grd_some h
     refine Tri.f 3 [.g false,.v (.i v5)] [.keep [4,7] [4,7]] rfl ⟨hg14,hg13,fun _ => W8 a0 a1 v5 hk12,hd6,trivial⟩ ?_
     obtain ⟨v6,hk15,h⟩ := bind_some h
     refine Tri.f 1 [.v (.bool v6)] [.keep [4,7,39] [4,7]] rfl ⟨fun _ => W9 (IntKind.i64.wrap (a0.tdiv v5)) (IntKind.i64.wrap (a1.tdiv v5)) v6 hk15,trivial⟩ ?_
     rcases bif_some h with ⟨hd16,h⟩ | ⟨hd16,h⟩
     ·refine Tri.f 2 [.g true] [.keep [4,5] [4]] rfl ⟨hd16,trivial⟩ ?_
      cases h
      exact Tri.ret rfl ⟨.inl rfl,rfl,rfl⟩
     ·refine Tri.f 2 [.g false] [.keep [4,5] [4]] rfl ⟨hd16,trivial⟩ ?_
      cases h
      exact Tri.ret rfl ⟨.inl rfl,rfl,rfl⟩
noncomputable def E248 : Env := ⟨Tryz.prog,tys,(Tryz.f70.body).getD .skip,4,tysOk,mixedOk⟩
abbrev K129 (r : Int) (σ' : ASt) : Prop := isRes E248.T Tryz.f70 (.i r) [] σ'
noncomputable def m_spec_l1Bit (a0 : Bool) : Option Int :=
bif a0 then
(some (1 : Int))
else
(some (0 : Int))
theorem W11 (a0 : Bool) (r : Int) (h : m_spec_l1Bit a0 = some r) : AM.Spec Tryz.prog 70 [.bool a0] [] (.i r) [] := by
 refine spec_of (E := E248) Tryz.func70 rfl rfl rfl rfl ?_
 refine Tri.f 2 [] [.keep [3] []] rfl trivial ?_
 rcases bif_some h with ⟨hd1,h⟩ | ⟨hd1,h⟩
 ·refine Tri.f 2 [.g true] [.keep [2] []] rfl ⟨hd1,trivial⟩ ?_
  cases h
  exact Tri.ret rfl ⟨.inl rfl,rfl,rfl⟩
 ·refine Tri.f 2 [.g false] [.keep [2] []] rfl ⟨hd1,trivial⟩ ?_
  cases h
  exact Tri.ret rfl ⟨.inl rfl,rfl,rfl⟩
noncomputable def E249 : Env := ⟨Tryz.prog,tys,(Tryz.f69.body).getD .skip,5,tysOk,mixedOk⟩
abbrev K130 (r : Int × Int) (σ' : ASt) : Prop := isRes E249.T Tryz.f69 (.agg [.i r.1,.i r.2]) [] σ'
noncomputable def m_spec_l3Int (a0 : Int) : Option (Int × Int) :=
some (a0,(1 : Int))
theorem W12 (a0 : Int) (r : Int × Int) (h : m_spec_l3Int a0 = some r) : AM.Spec Tryz.prog 69 [.i a0] [] (.agg [.i r.1,.i r.2]) [] := by
 refine spec_of (E := E249) Tryz.func69 rfl rfl rfl rfl ?_
 refine Tri.f 2 [] [.keep [2] [2]] rfl trivial ?_
 cases h
 exact Tri.ret rfl ⟨.inl rfl,rfl,rfl⟩
noncomputable def E250 : Env := ⟨Tryz.prog,tys,(Tryz.f59.body).getD .skip,109,tysOk,mixedOk⟩
abbrev K131 (u0 : Value) (a0 : List UInt8) (r : (List (List Int)) × (List Int) × (List Q) × Int × Int) (σ' : ASt) : Prop := isRes E250.T Tryz.f59 (.agg [.sl 1000 0,.sl 1001 0,.sl 1002 0]) [(1000,.arr 25 0 0 (.intss r.1)),(1001,.arr 3 0 0 (.ints r.2.1)),(1002,.arr 31 0 0 (.rats r.2.2.1)),(2040,.box [.lst u0 (.bytes a0),.i r.2.2.2.1,.i r.2.2.2.2])] σ'
noncomputable def l_spec_l5Draw_io1_0 (a0 : List UInt8) (v1 : Int) : (Int × (List Q) × Int × Int) → Option ((Int × (List Q) × Int × Int) ⊕ (((List Q) × Int × Int)))
 | (v10,v11,v12,v13) => (
bif decide (v10 < (IntKind.i64.wrap ((1 : Int) + v1))) then
((m_spec_l5Number_io1 a0 v12 v13).bind fun (v14,v15,v16) =>
(m_spec_l1PickInt_io1 a0 v15 v16 [(1 : Int),(1 : Int),(1 : Int),(2 : Int)]).bind fun (v17,v18,v19) =>
(m_spec_RatOf v14 v17).bind fun (v20,v21,_) =>
grd (v11.length + ([⟨v20,v21⟩] : List Q).length ≤ room) <|
some (.inl (IntKind.i64.wrap (v10 + 1),v11 ++ [⟨v20,v21⟩],v18,v19)))
else
(some (.inr (v11,v12,v13))))
noncomputable def l_spec_l5Draw_io1_2 (a0 : List UInt8) (v1 : Int) : (Int × (List Int) × Int × Int) → Option ((Int × (List Int) × Int × Int) ⊕ (((List Int) × Int × Int)))
 | (v31,v32,v33,v34) => (
bif decide (v31 < (IntKind.i64.wrap ((1 : Int) + v1))) then
((m_spec_l5Number_io1 a0 v33 v34).bind fun (v35,v36,v37) =>
grd (v32.length + ([v35] : List Int).length ≤ room) <|
some (.inl (IntKind.i64.wrap (v31 + 1),v32 ++ [v35],v36,v37)))
else
(some (.inr (v32,v33,v34))))
noncomputable def l_spec_l5Draw_io1_1 (a0 : List UInt8) (v1 v4 : Int) : (Int × (List (List Int)) × (List Int) × Int × Int) → Option ((Int × (List (List Int)) × (List Int) × Int × Int) ⊕ (((List (List Int)) × (List Int) × Int × Int)))
 | (v26,v27,v28,v29,v30) => (
bif decide (v26 < (IntKind.i64.wrap ((1 : Int) + v4))) then
((iter (l_spec_l5Draw_io1_2 a0 v1) ((0 : Int),[],v29,v30)).bind fun
| (v38,v39,v40) => (
grd (v27.length + ([v38] : List (List Int)).length ≤ room) <|
(m_spec_l1PickInt_io1 a0 v39 v40 [(0 : Int),(1 : Int),(4 : Int),(6 : Int),(7 : Int),(-2 : Int),(10 : Int)]).bind fun (v41,v42,v43) =>
grd (v28.length + ([v41] : List Int).length ≤ room) <|
some (.inl (IntKind.i64.wrap (v26 + 1),v27 ++ [v38],v28 ++ [v41],v42,v43))))
else
(some (.inr (v27,v28,v29,v30))))
noncomputable def l_spec_l5Draw_io1_4 (v4 v48 : Int) : (Int × (List (List Int))) → Option ((Int × (List (List Int))) ⊕ ((List (List Int))))
 | (v51,v52) => (
bif decide (v51 < (IntKind.i64.wrap ((1 : Int) + v4))) then
(grd (0 ≤ v51 ∧ v51 < (v52.length : Int)) <|
(m_spec_l1Bit (v51 == v48)).bind fun v53 =>
grd ((v52.getD v51.toNat []).length + ([v53] : List Int).length ≤ room) <|
grd (0 ≤ v51 ∧ v51 < ((v52.set v51.toNat ((v52.getD v51.toNat []) ++ [v53])).length : Int)) <|
some (.inl (IntKind.i64.wrap (v51 + 1),v52.set v51.toNat ((v52.getD v51.toNat []) ++ [v53]))))
else
(some (.inr v52)))
noncomputable def l_spec_l5Draw_io1_3 (v4 : Int) (v7 : Bool) : (Int × (List (List Int)) × (List Q)) → Option ((Int × (List (List Int)) × (List Q)) ⊕ (((List (List Int)) × (List Q))))
 | (v48,v49,v50) => (
bif decide (v48 < (IntKind.i64.wrap ((1 : Int) + v4))) then
(bif v7 then
((iter (l_spec_l5Draw_io1_4 v4 v48) ((0 : Int),v49)).bind fun
| v54 => (
(m_spec_l3Int (0 : Int)).bind fun (v55,v56) =>
grd (v50.length + ([⟨v55,v56⟩] : List Q).length ≤ room) <|
some (.inl (IntKind.i64.wrap (v48 + 1),v54,v50 ++ [⟨v55,v56⟩]))))
else
(some (.inr (v49,v50))))
else
(some (.inr (v49,v50))))
noncomputable def m_spec_l5Draw_io1 (a0 : List UInt8) (a1 a2 : Int) : Option ((List (List Int)) × (List Int) × (List Q) × Int × Int) :=
(m_spec_l1Below_io1 a0 a1 a2 (3 : Int)).bind fun (v1,v2,v3) =>
(m_spec_l1Below_io1 a0 v2 v3 (3 : Int)).bind fun (v4,v5,v6) =>
(m_spec_l1Once_io1 a0 v5 v6 (2 : Int)).bind fun (v7,v8,v9) =>
(iter (l_spec_l5Draw_io1_0 a0 v1) ((0 : Int),[],v8,v9)).bind fun
| (v23,v24,v25) => (
(iter (l_spec_l5Draw_io1_1 a0 v1 v4) ((0 : Int),[],[],v24,v25)).bind fun
| (v44,v45,v46,v47) => (
(iter (l_spec_l5Draw_io1_3 v4 v7) ((0 : Int),v44,v23)).bind fun
| (v57,v58) => (
some (v57,v45,v58,v46,v47))))
theorem W13 (u0 : Value) (a0 : List UInt8) (a1 a2 : Int) (r : (List (List Int)) × (List Int) × (List Q) × Int × Int) (h : m_spec_l5Draw_io1 a0 a1 a2 = some r) : AM.Spec Tryz.prog 59 [.ptr 2040 0] [(2040,.box [.lst u0 (.bytes a0),.i a1,.i a2])] (.agg [.sl 1000 0,.sl 1001 0,.sl 1002 0]) [(1000,.arr 25 0 0 (.intss r.1)),(1001,.arr 3 0 0 (.ints r.2.1)),(1002,.arr 31 0 0 (.rats r.2.2.1)),(2040,.box [.lst u0 (.bytes a0),.i r.2.2.2.1,.i r.2.2.2.2])] := by
 refine spec_of (E := E250) Tryz.func59 rfl rfl rfl rfl ?_
 refine Tri.f 1 [] [.keep [0,2] [2,2040],.ownc 2 0 1100 25,.ownc 2 1 1101 3,.ownc 2 2 1102 31,.keep [0,2] [2,1100,1101,1102,2040]] rfl trivial ?_
 obtain ⟨⟨v1,v2,v3⟩,hk1,h⟩ := bind_some h
 obtain ⟨⟨v4,v5,v6⟩,hk2,h⟩ := bind_some h
 refine Tri.f 2 [.r ⟨[2040],.i v1,[(2040,.box [.undf,.i v2,.i v3])]⟩,.r ⟨[2040],.i v4,[(2040,.box [.undf,.i v5,.i v6])]⟩] [.keep [0,2,3,4] [2,1100,1101,1102,2040]] rfl ⟨(fun vf => ((W3 (vf 2040 0) a0 v2 v3 (3 : Int) (v4,v5,v6) hk2).swap 2060 2040)),(fun vf => ((W3 (vf 2040 0) a0 a1 a2 (3 : Int) (v1,v2,v3) hk1).swap 2060 2040)),trivial⟩ ?_
 obtain ⟨⟨v7,v8,v9⟩,hk3,h⟩ := bind_some h
 refine Tri.f 3 [.r ⟨[2040],.bool v7,[(2040,.box [.undf,.i v8,.i v9])]⟩] [.ownc 6 0 1103 25,.ownc 6 1 1104 3,.ownc 6 2 1105 31,.keep [0,2,3,4,5,6,7] [2,6,1100,1101,1102,1103,1104,1105,2040]] rfl ⟨(fun vf => ((W4 (vf 2040 0) a0 v5 v6 (2 : Int) (v7,v8,v9) hk3).swap 2100 2040)),trivial⟩ ?_
 obtain ⟨x1,hk9,h⟩ := bind_some h
 refine Tri.loop (K1 := [.code [(5,0),(1,0),(0,0)] 0]) (K2 := [.blk 0,.code [] 6]) (fun (v10,v11,v12,v13) => ⟨[(0,.ptr 2040 0),(2,.ptr 2 0),(3,.i (IntKind.i64.wrap ((1 : Int) + v1))),(4,.i (IntKind.i64.wrap ((1 : Int) + v4))),(5,.bool v7),(6,.ptr 6 0),(7,.i v10)],[(2,.box [.sl 1100 0,.sl 1101 0,.sl 1102 0]),(6,.box [.sl 1103 0,.sl 1104 0,.sl 1105 0]),(1100,.arr 25 0 0 (.intss [])),(1101,.arr 3 0 0 (.ints [])),(1102,.arr 31 0 0 (.rats [])),(1103,.arr 25 0 0 (.intss [])),(1104,.arr 3 0 0 (.ints [])),(1105,.arr 31 0 0 (.rats v11)),(2040,.box [.lst u0 (.bytes a0),.i v12,.i v13])]⟩) (fun x e σ' => match x with | (v23,v24,v25) => e = .exit 0 ∧ σ' = ⟨[(0,.ptr 2040 0),(2,.ptr 2 0),(3,.i (IntKind.i64.wrap ((1 : Int) + v1))),(4,.i (IntKind.i64.wrap ((1 : Int) + v4))),(5,.bool v7),(6,.ptr 6 0)],[(2,.box [.sl 1100 0,.sl 1101 0,.sl 1102 0]),(6,.box [.sl 1103 0,.sl 1104 0,.sl 1105 0]),(1100,.arr 25 0 0 (.intss [])),(1101,.arr 3 0 0 (.ints [])),(1102,.arr 31 0 0 (.rats [])),(1103,.arr 25 0 0 (.intss [])),(1104,.arr 3 0 0 (.ints [])),(1105,.arr 31 0 0 (.rats v23)),(2040,.box [.lst u0 (.bytes a0),.i v24,.i v25])]⟩) hk9 rfl rfl ?_ ?_
 ·intro s x hs
  clear h
  have h := hs
  clear hs
  obtain ⟨v10,v11,v12,v13⟩ := s
  refine Tri.f 1 [] [.keep [0,2,3,4,5,6,7,26] [2,6,1100,1101,1102,1103,1104,1105,2040]] rfl trivial ?_
  rcases bif_some h with ⟨hd4,h⟩ | ⟨hd4,h⟩
  ·obtain ⟨⟨v14,v15,v16⟩,hk5,h⟩ := bind_some h
   obtain ⟨⟨v17,v18,v19⟩,hk6,h⟩ := bind_some h
   obtain ⟨⟨v20,v21,v22⟩,hk7,h⟩ := bind_some h
   obtain ⟨hg8,h⟩ := grd_some h
   refine Tri.f 3 [.g true,.r ⟨[2040],.i v14,[(2040,.box [.undf,.i v15,.i v16])]⟩,.r ⟨[2040],.i v17,[(2040,.box [.undf,.i v18,.i v19])]⟩,.v (.tuple [.agg [.i v20,.i v21],.bool v22])] [.keep [0,2,3,4,5,6,7] [2,6,1100,1101,1102,1103,1104,1105,2040]] rfl ⟨hg8,fun _ => W10 v14 v17 (v20,v21,v22) hk7,(fun vf => ((W5 (vf 2040 0) a0 v15 v16 [(1 : Int),(1 : Int),(1 : Int),(2 : Int)] (v17,v18,v19) hk6).swap 2140 2040)),(fun vf => ((W6 (vf 2040 0) a0 v12 v13 (v14,v15,v16) hk5).swap 2120 2040)),hd4,trivial⟩ ?_
   refine Tri.f 1 [] [.rever 1105,.keep [0,2,3,4,5,6,7] [2,6,1100,1101,1102,1103,1104,1105,2040]] rfl trivial ?_
   cases h
   exact Tri.nil ⟨rfl,rfl⟩
  ·refine Tri.f 1 [.g false] [.keep [0,2,3,4,5,6] [2,6,1100,1101,1102,1103,1104,1105,2040]] rfl ⟨hd4,trivial⟩ ?_
   cases h
   exact Tri.out 0 rfl ⟨nofun,rfl,rfl⟩
 ·intro e σ' hne hq
  obtain ⟨v23,v24,v25⟩ := x1
  obtain ⟨rfl,rfl⟩ := hq
  refine TriX.exit (K' := [.code [] 6]) rfl ?_
  refine Tri.f 1 [] [.keep [0,2,3,4,5,6,10] [2,6,1100,1101,1102,1103,1104,1105,2040]] rfl trivial ?_
  obtain ⟨x3,hk18,h⟩ := bind_some h
  refine Tri.loop (K1 := [.code [(6,0),(1,0),(0,0)] 0]) (K2 := [.blk 2,.code [] 7]) (fun (v26,v27,v28,v29,v30) => ⟨[(0,.ptr 2040 0),(2,.ptr 2 0),(3,.i (IntKind.i64.wrap ((1 : Int) + v1))),(4,.i (IntKind.i64.wrap ((1 : Int) + v4))),(5,.bool v7),(6,.ptr 6 0),(10,.i v26)],[(2,.box [.sl 1100 0,.sl 1101 0,.sl 1102 0]),(6,.box [.sl 1103 0,.sl 1104 0,.sl 1105 0]),(1100,.arr 25 0 0 (.intss [])),(1101,.arr 3 0 0 (.ints [])),(1102,.arr 31 0 0 (.rats [])),(1103,.arr 25 0 0 (.intss v27)),(1104,.arr 3 0 0 (.ints v28)),(1105,.arr 31 0 0 (.rats v23)),(2040,.box [.lst u0 (.bytes a0),.i v29,.i v30])]⟩) (fun x e σ' => match x with | (v44,v45,v46,v47) => e = .exit 2 ∧ σ' = ⟨[(2,.ptr 2 0),(4,.i (IntKind.i64.wrap ((1 : Int) + v4))),(5,.bool v7),(6,.ptr 6 0)],[(2,.box [.sl 1100 0,.sl 1101 0,.sl 1102 0]),(6,.box [.sl 1103 0,.sl 1104 0,.sl 1105 0]),(1100,.arr 25 0 0 (.intss [])),(1101,.arr 3 0 0 (.ints [])),(1102,.arr 31 0 0 (.rats [])),(1103,.arr 25 0 0 (.intss v44)),(1104,.arr 3 0 0 (.ints v45)),(1105,.arr 31 0 0 (.rats v23)),(2040,.box [.lst u0 (.bytes a0),.i v46,.i v47])]⟩) hk18 rfl rfl ?_ ?_
  ·intro s x hs
   clear h
   have h := hs
   clear hs
   obtain ⟨v26,v27,v28,v29,v30⟩ := s
   refine Tri.f 1 [] [.keep [0,2,3,4,5,6,10,46] [2,6,1100,1101,1102,1103,1104,1105,2040]] rfl trivial ?_
   rcases bif_some h with ⟨hd10,h⟩ | ⟨hd10,h⟩
   ·refine Tri.f 3 [.g true] [.keep [0,2,3,4,5,6,10,11,12] [2,6,49,1100,1101,1102,1103,1104,1105,2040]] rfl ⟨hd10,trivial⟩ ?_
    obtain ⟨x3,hk14,h⟩ := bind_some h
    refine Tri.loop (K1 := [.code [(6,0),(1,0),(0,0),(1,0),(0,0),(1,0),(1,0),(0,0)] 0]) (K2 := [.blk 4,.code [(6,0),(1,0),(0,0),(1,0),(0,0)] 2,.blk 3,.code [(6,0),(1,0),(0,0)] 2]) (fun (v31,v32,v33,v34) => ⟨[(0,.ptr 2040 0),(2,.ptr 2 0),(3,.i (IntKind.i64.wrap ((1 : Int) + v1))),(4,.i (IntKind.i64.wrap ((1 : Int) + v4))),(5,.bool v7),(6,.ptr 6 0),(10,.i v26),(11,.sl 49 0),(12,.i v31)],[(2,.box [.sl 1100 0,.sl 1101 0,.sl 1102 0]),(6,.box [.sl 1103 0,.sl 1104 0,.sl 1105 0]),(49,.arr 3 0 0 (.ints v32)),(1100,.arr 25 0 0 (.intss [])),(1101,.arr 3 0 0 (.ints [])),(1102,.arr 31 0 0 (.rats [])),(1103,.arr 25 0 0 (.intss v27)),(1104,.arr 3 0 0 (.ints v28)),(1105,.arr 31 0 0 (.rats v23)),(2040,.box [.lst u0 (.bytes a0),.i v33,.i v34])]⟩) (fun x e σ' => match x with | (v38,v39,v40) => e = .exit 4 ∧ σ' = ⟨[(0,.ptr 2040 0),(2,.ptr 2 0),(3,.i (IntKind.i64.wrap ((1 : Int) + v1))),(4,.i (IntKind.i64.wrap ((1 : Int) + v4))),(5,.bool v7),(6,.ptr 6 0),(10,.i v26),(11,.sl 49 0)],[(2,.box [.sl 1100 0,.sl 1101 0,.sl 1102 0]),(6,.box [.sl 1103 0,.sl 1104 0,.sl 1105 0]),(49,.arr 3 0 0 (.ints v38)),(1100,.arr 25 0 0 (.intss [])),(1101,.arr 3 0 0 (.ints [])),(1102,.arr 31 0 0 (.rats [])),(1103,.arr 25 0 0 (.intss v27)),(1104,.arr 3 0 0 (.ints v28)),(1105,.arr 31 0 0 (.rats v23)),(2040,.box [.lst u0 (.bytes a0),.i v39,.i v40])]⟩) hk14 rfl rfl ?_ ?_
    ·intro s x hs
     clear h
     have h := hs
     clear hs
     obtain ⟨v31,v32,v33,v34⟩ := s
     refine Tri.f 1 [] [.keep [0,2,3,4,5,6,10,11,12,52] [2,6,49,1100,1101,1102,1103,1104,1105,2040]] rfl trivial ?_
     rcases bif_some h with ⟨hd11,h⟩ | ⟨hd11,h⟩
     ·obtain ⟨⟨v35,v36,v37⟩,hk12,h⟩ := bind_some h
      obtain ⟨hg13,h⟩ := grd_some h
      refine Tri.f 3 [.g true,.r ⟨[2040],.i v35,[(2040,.box [.undf,.i v36,.i v37])]⟩] [.rever 49,.keep [0,2,3,4,5,6,10,11,12] [2,6,49,1100,1101,1102,1103,1104,1105,2040]] rfl ⟨hg13,(fun vf => ((W6 (vf 2040 0) a0 v33 v34 (v35,v36,v37) hk12).swap 2120 2040)),hd11,trivial⟩ ?_
      cases h
      exact Tri.nil ⟨rfl,rfl⟩
     ·refine Tri.f 1 [.g false] [.keep [0,2,3,4,5,6,10,11] [2,6,49,1100,1101,1102,1103,1104,1105,2040]] rfl ⟨hd11,trivial⟩ ?_
      cases h
      exact Tri.out 4 rfl ⟨nofun,rfl,rfl⟩
    ·intro e σ' hne hq
     obtain ⟨v38,v39,v40⟩ := x3
     obtain ⟨rfl,rfl⟩ := hq
     refine TriX.exit (K' := [.code [(6,0),(1,0),(0,0),(1,0),(0,0)] 2,.blk 3,.code [(6,0),(1,0),(0,0)] 2]) rfl ?_
     obtain ⟨hg15,h⟩ := grd_some h
     refine Tri.f 1 [] [.keep [0,2,3,4,5,6,10] [2,6,1100,1101,1102,1103,1104,1105,2040],.rever 1103,.keep [0,2,3,4,5,6,10] [2,6,1100,1101,1102,1103,1104,1105,2040]] rfl ⟨hg15,trivial⟩ ?_
     obtain ⟨⟨v41,v42,v43⟩,hk16,h⟩ := bind_some h
     obtain ⟨hg17,h⟩ := grd_some h
     refine Tri.f 2 [.r ⟨[2040],.i v41,[(2040,.box [.undf,.i v42,.i v43])]⟩] [.rever 1104,.keep [0,2,3,4,5,6,10] [2,6,1100,1101,1102,1103,1104,1105,2040]] rfl ⟨hg17,(fun vf => ((W5 (vf 2040 0) a0 v39 v40 [(0 : Int),(1 : Int),(4 : Int),(6 : Int),(7 : Int),(-2 : Int),(10 : Int)] (v41,v42,v43) hk16).swap 2140 2040)),trivial⟩ ?_
     cases h
     exact Tri.nil ⟨rfl,rfl⟩
   ·refine Tri.f 1 [.g false] [.keep [2,4,5,6] [2,6,1100,1101,1102,1103,1104,1105,2040]] rfl ⟨hd10,trivial⟩ ?_
    cases h
    exact Tri.out 2 rfl ⟨nofun,rfl,rfl⟩
  ·intro e σ' hne hq
   obtain ⟨v44,v45,v46,v47⟩ := x3
   obtain ⟨rfl,rfl⟩ := hq
   refine TriX.exit (K' := [.code [] 7]) rfl ?_
   refine Tri.f 1 [] [.keep [2,4,5,6,13] [2,6,1100,1101,1102,1103,1104,1105,2040]] rfl trivial ?_
   obtain ⟨x5,hk29,h⟩ := bind_some h
   refine Tri.loop (K1 := [.code [(7,0),(1,0),(0,0)] 0]) (K2 := [.blk 6,.code [] 8]) (fun (v48,v49,v50) => ⟨[(2,.ptr 2 0),(4,.i (IntKind.i64.wrap ((1 : Int) + v4))),(5,.bool v7),(6,.ptr 6 0),(13,.i v48)],[(2,.box [.sl 1100 0,.sl 1101 0,.sl 1102 0]),(6,.box [.sl 1103 0,.sl 1104 0,.sl 1105 0]),(1100,.arr 25 0 0 (.intss [])),(1101,.arr 3 0 0 (.ints [])),(1102,.arr 31 0 0 (.rats [])),(1103,.arr 25 0 0 (.intss v49)),(1104,.arr 3 0 0 (.ints v45)),(1105,.arr 31 0 0 (.rats v50)),(2040,.box [.lst u0 (.bytes a0),.i v46,.i v47])]⟩) (fun x e σ' => match x with | (v57,v58) => e = .exit 6 ∧ σ' = ⟨[(2,.ptr 2 0),(6,.ptr 6 0)],[(2,.box [.sl 1100 0,.sl 1101 0,.sl 1102 0]),(6,.box [.sl 1103 0,.sl 1104 0,.sl 1105 0]),(1100,.arr 25 0 0 (.intss [])),(1101,.arr 3 0 0 (.ints [])),(1102,.arr 31 0 0 (.rats [])),(1103,.arr 25 0 0 (.intss v57)),(1104,.arr 3 0 0 (.ints v45)),(1105,.arr 31 0 0 (.rats v58)),(2040,.box [.lst u0 (.bytes a0),.i v46,.i v47])]⟩) hk29 rfl rfl ?_ ?_
   ·intro s x hs
    clear h
    have h := hs
    clear hs
    obtain ⟨v48,v49,v50⟩ := s
    rcases bif_some h with ⟨hd19,h⟩ | ⟨hd19,h⟩
    ·refine Tri.f 1 [.g true] [.keep [2,4,5,6,13,79] [2,6,1100,1101,1102,1103,1104,1105,2040]] rfl ⟨hd19,trivial⟩ ?_
     rcases bif_some h with ⟨hd20,h⟩ | ⟨hd20,h⟩
     ·refine Tri.f 2 [.g true] [.keep [2,4,5,6,13,14] [2,6,1100,1101,1102,1103,1104,1105,2040]] rfl ⟨hd20,trivial⟩ ?_
      obtain ⟨v54,hk26,h⟩ := bind_some h
      refine Tri.loop (K1 := [.code [(7,0),(1,0),(0,0),(1,0),(0,0),(0,0),(1,0),(0,0)] 0]) (K2 := [.blk 8,.code [(7,0),(1,0),(0,0),(1,0),(0,0)] 1,.blk 7,.code [(7,0),(1,0),(0,0)] 2]) (fun (v51,v52) => ⟨[(2,.ptr 2 0),(4,.i (IntKind.i64.wrap ((1 : Int) + v4))),(5,.bool v7),(6,.ptr 6 0),(13,.i v48),(14,.i v51)],[(2,.box [.sl 1100 0,.sl 1101 0,.sl 1102 0]),(6,.box [.sl 1103 0,.sl 1104 0,.sl 1105 0]),(1100,.arr 25 0 0 (.intss [])),(1101,.arr 3 0 0 (.ints [])),(1102,.arr 31 0 0 (.rats [])),(1103,.arr 25 0 0 (.intss v52)),(1104,.arr 3 0 0 (.ints v45)),(1105,.arr 31 0 0 (.rats v50)),(2040,.box [.lst u0 (.bytes a0),.i v46,.i v47])]⟩) (fun x e σ' => match x with | v54 => e = .exit 8 ∧ σ' = ⟨[(2,.ptr 2 0),(4,.i (IntKind.i64.wrap ((1 : Int) + v4))),(5,.bool v7),(6,.ptr 6 0),(13,.i v48)],[(2,.box [.sl 1100 0,.sl 1101 0,.sl 1102 0]),(6,.box [.sl 1103 0,.sl 1104 0,.sl 1105 0]),(1100,.arr 25 0 0 (.intss [])),(1101,.arr 3 0 0 (.ints [])),(1102,.arr 31 0 0 (.rats [])),(1103,.arr 25 0 0 (.intss v54)),(1104,.arr 3 0 0 (.ints v45)),(1105,.arr 31 0 0 (.rats v50)),(2040,.box [.lst u0 (.bytes a0),.i v46,.i v47])]⟩) hk26 rfl rfl ?_ ?_
      ·intro s x hs
       clear h
       have h := hs
       clear hs
       obtain ⟨v51,v52⟩ := s
       refine Tri.f 1 [] [.keep [2,4,5,6,13,14,84] [2,6,1100,1101,1102,1103,1104,1105,2040]] rfl trivial ?_
       rcases bif_some h with ⟨hd21,h⟩ | ⟨hd21,h⟩
       ·obtain ⟨hg22,h⟩ := grd_some h
        obtain ⟨v53,hk23,h⟩ := bind_some h
        obtain ⟨hg24,h⟩ := grd_some h
        obtain ⟨hg25,h⟩ := grd_some h
        refine Tri.f 3 [.g true,.v (.i v53)] [.rever 1103,.keep [2,4,5,6,13,14] [2,6,1100,1101,1102,1103,1104,1105,2040]] rfl ⟨rfl,rfl,hg25,hg24,fun _ => W11 (v51 == v48) v53 hk23,hg22,hd21,trivial⟩ ?_
        cases h
        exact Tri.nil ⟨rfl,rfl⟩
       ·refine Tri.f 1 [.g false] [.keep [2,4,5,6,13] [2,6,1100,1101,1102,1103,1104,1105,2040]] rfl ⟨hd21,trivial⟩ ?_
        cases h
        exact Tri.out 8 rfl ⟨nofun,rfl,rfl⟩
      ·intro e σ' hne hq
       obtain ⟨rfl,rfl⟩ := hq
       refine TriX.exit (K' := [.code [(7,0),(1,0),(0,0),(1,0),(0,0)] 1,.blk 7,.code [(7,0),(1,0),(0,0)] 2]) rfl ?_
       obtain ⟨⟨v55,v56⟩,hk27,h⟩ := bind_some h
       obtain ⟨hg28,h⟩ := grd_some h
       refine Tri.f 2 [.v (.agg [.i v55,.i v56])] [.rever 1105,.keep [2,4,5,6,13] [2,6,1100,1101,1102,1103,1104,1105,2040]] rfl ⟨hg28,fun _ => W12 (0 : Int) (v55,v56) hk27,trivial⟩ ?_
       cases h
       exact Tri.nil ⟨rfl,rfl⟩
     ·refine Tri.f 1 [.g false] [.keep [2,6] [2,6,1100,1101,1102,1103,1104,1105,2040]] rfl ⟨hd20,trivial⟩ ?_
      cases h
      exact Tri.out 6 rfl ⟨nofun,rfl,rfl⟩
    ·refine Tri.f 1 [.g false] [.keep [2,4,5,6,13,79] [2,6,1100,1101,1102,1103,1104,1105,2040]] rfl ⟨hd19,trivial⟩ ?_
     refine Tri.f 1 [.g false] [.keep [2,6] [2,6,1100,1101,1102,1103,1104,1105,2040]] rfl ⟨rfl,trivial⟩ ?_
     cases h
     exact Tri.out 6 rfl ⟨nofun,rfl,rfl⟩
   ·intro e σ' hne hq
    obtain ⟨v57,v58⟩ := x5
    obtain ⟨rfl,rfl⟩ := hq
    refine TriX.exit (K' := [.code [] 8]) rfl ?_
    refine Tri.f 1 [] [.swap 1103 1000,.swap 1104 1001,.swap 1105 1002,.keep [2] [2,1000,1001,1002,2040]] rfl trivial ?_
    cases h
    exact Tri.ret rfl ⟨.inl rfl,rfl,rfl⟩
noncomputable def E251 : Env := ⟨Tryz.prog,tys,(Tryz.f18.body).getD .skip,37,tysOk,mixedOk⟩
abbrev K132 (u0 : Value) (a0 : List UInt8) (r : (List (List Int)) × (List Int) × (List Q) × Int × Int) (σ' : ASt) : Prop := isRes E251.T Tryz.f18 (.agg [.sl 1000 0,.sl 1001 0,.sl 1002 0]) [(1000,.arr 25 0 0 (.intss r.1)),(1001,.arr 3 0 0 (.ints r.2.1)),(1002,.arr 31 0 0 (.rats r.2.2.1)),(2020,.box [.lst u0 (.bytes a0),.i r.2.2.2.1,.i r.2.2.2.2])] σ'
noncomputable def m_spec_l5Bent_io1 (a0 : List UInt8) (a1 a2 : Int) : Option ((List (List Int)) × (List Int) × (List Q) × Int × Int) :=
(m_spec_l5Draw_io1 a0 a1 a2).bind fun (v1,v2,v3,v4,v5) =>
(m_spec_l1Below_io1 a0 v4 v5 (12 : Int)).bind fun (v6,v7,v8) =>
bif v6 == 0 then
(grd (v2.length + ([(1 : Int)] : List Int).length ≤ room) <|
some (v1,v2 ++ [(1 : Int)],v3,v7,v8))
else
(bif v6 == 1 then
(grd ((0 : Int) ≤ (0 : Int) ∧ (0 : Int) < (v1.length : Int)) <|
grd ((v1.getD ((0 : Int).toNat) []).length + ([(1 : Int)] : List Int).length ≤ room) <|
grd ((0 : Int) ≤ (0 : Int) ∧ (0 : Int) < ((v1.set ((0 : Int).toNat) ((v1.getD ((0 : Int).toNat) []) ++ [(1 : Int)])).length : Int)) <|
some (v1.set ((0 : Int).toNat) ((v1.getD ((0 : Int).toNat) []) ++ [(1 : Int)]),v2,v3,v7,v8))
else
(bif v6 == 2 then
(grd ((0 : Int) ≤ (0 : Int) ∧ (0 : Int) < (v1.length : Int)) <|
(m_spec_l1PickInt_io1 a0 v7 v8 [(5000 : Int),(5001 : Int),(-5001 : Int)]).bind fun (v9,v10,v11) =>
grd ((0 : Int) ≤ (0 : Int) ∧ (0 : Int) < ((v1.getD ((0 : Int).toNat) []).length : Int)) <|
some (v1.set ((0 : Int).toNat) ((v1.getD ((0 : Int).toNat) []).set ((0 : Int).toNat) v9),v2,v3,v10,v11))
else
(some (v1,v2,v3,v7,v8))))
theorem W14 (u0 : Value) (a0 : List UInt8) (a1 a2 : Int) (r : (List (List Int)) × (List Int) × (List Q) × Int × Int) (h : m_spec_l5Bent_io1 a0 a1 a2 = some r) : AM.Spec Tryz.prog 18 [.ptr 2020 0] [(2020,.box [.lst u0 (.bytes a0),.i a1,.i a2])] (.agg [.sl 1000 0,.sl 1001 0,.sl 1002 0]) [(1000,.arr 25 0 0 (.intss r.1)),(1001,.arr 3 0 0 (.ints r.2.1)),(1002,.arr 31 0 0 (.rats r.2.2.1)),(2020,.box [.lst u0 (.bytes a0),.i r.2.2.2.1,.i r.2.2.2.2])] := by
 refine spec_of (E := E251) Tryz.func18 rfl rfl rfl rfl ?_
 refine Tri.f 1 [] [.keep [0,2] [2,2020],.ownc 2 0 1100 25,.ownc 2 1 1101 3,.ownc 2 2 1102 31,.keep [0,2] [2,1100,1101,1102,2020]] rfl trivial ?_
 obtain ⟨⟨v1,v2,v3,v4,v5⟩,hk1,h⟩ := bind_some h
 obtain ⟨⟨v6,v7,v8⟩,hk2,h⟩ := bind_some h
 refine Tri.f 3 [.r ⟨[2020],.agg [.sl 1103 0,.sl 1104 0,.sl 1105 0],[(1103,.arr 25 0 0 (.intss v1)),(1104,.arr 3 0 0 (.ints v2)),(1105,.arr 31 0 0 (.rats v3)),(2020,.box [.undf,.i v4,.i v5])]⟩,.r ⟨[2020],.i v6,[(2020,.box [.undf,.i v7,.i v8])]⟩] [.keep [0,2,3,7,8] [2,3,1100,1101,1102,1103,1104,1105,2020]] rfl ⟨(fun vf => ((W3 (vf 2020 0) a0 v4 v5 (12 : Int) (v6,v7,v8) hk2).swap 2060 2020)),(fun vf => (((((W13 (vf 2020 0) a0 a1 a2 (v1,v2,v3,v4,v5) hk1).swap 1000 1103).swap 1001 1104).swap 1002 1105).swap 2040 2020)),trivial⟩ ?_
 rcases bif_some h with ⟨hd3,h⟩ | ⟨hd3,h⟩
 ·obtain ⟨hg4,h⟩ := grd_some h
  refine Tri.f 3 [.g true] [.rever 1104,.swap 1103 1000,.swap 1104 1001,.swap 1105 1002,.keep [2] [2,1000,1001,1002,2020]] rfl ⟨hg4,hd3,trivial⟩ ?_
  cases h
  exact Tri.ret rfl ⟨.inl rfl,rfl,rfl⟩
 ·refine Tri.f 2 [.g false] [.keep [0,2,3,7,15] [2,3,1100,1101,1102,1103,1104,1105,2020]] rfl ⟨hd3,trivial⟩ ?_
  rcases bif_some h with ⟨hd5,h⟩ | ⟨hd5,h⟩
  ·obtain ⟨hg6,h⟩ := grd_some h
   obtain ⟨hg7,h⟩ := grd_some h
   obtain ⟨hg8,h⟩ := grd_some h
   refine Tri.f 3 [.g true] [.rever 1103,.swap 1103 1000,.swap 1104 1001,.swap 1105 1002,.keep [2] [2,1000,1001,1002,2020]] rfl ⟨rfl,rfl,hg8,hg7,hg6,hd5,trivial⟩ ?_
   cases h
   exact Tri.ret rfl ⟨.inl rfl,rfl,rfl⟩
  ·refine Tri.f 2 [.g false] [.keep [0,2,3,26] [2,3,1100,1101,1102,1103,1104,1105,2020]] rfl ⟨hd5,trivial⟩ ?_
   rcases bif_some h with ⟨hd9,h⟩ | ⟨hd9,h⟩
   ·obtain ⟨hg10,h⟩ := grd_some h
    obtain ⟨⟨v9,v10,v11⟩,hk11,h⟩ := bind_some h
    obtain ⟨hg12,h⟩ := grd_some h
    refine Tri.f 3 [.g true,.r ⟨[2020],.i v9,[(2020,.box [.undf,.i v10,.i v11])]⟩] [.swap 1103 1000,.swap 1104 1001,.swap 1105 1002,.keep [2] [2,1000,1001,1002,2020]] rfl ⟨hg12,(fun vf => ((W5 (vf 2020 0) a0 v7 v8 [(5000 : Int),(5001 : Int),(-5001 : Int)] (v9,v10,v11) hk11).swap 2140 2020)),hg10,hd9,trivial⟩ ?_
    cases h
    exact Tri.ret rfl ⟨.inl rfl,rfl,rfl⟩
   ·refine Tri.f 2 [.g false] [.swap 1103 1000,.swap 1104 1001,.swap 1105 1002,.keep [2] [2,1000,1001,1002,2020]] rfl ⟨hd9,trivial⟩ ?_
    cases h
    exact Tri.ret rfl ⟨.inl rfl,rfl,rfl⟩
noncomputable def E252 : Env := ⟨Tryz.prog,tys,(Tryz.f5.body).getD .skip,6,tysOk,mixedOk⟩
abbrev K133 (r : (List (List Int)) × (List Int) × (List Q)) (σ' : ASt) : Prop := isRes E252.T Tryz.f5 (.agg [.sl 1000 0,.sl 1001 0,.sl 1002 0]) [(1000,.arr 25 0 0 (.intss r.1)),(1001,.arr 3 0 0 (.ints r.2.1)),(1002,.arr 31 0 0 (.rats r.2.2))] σ'
noncomputable def m_spec_DrawSolveLP (a0 : List UInt8) : Option ((List (List Int)) × (List Int) × (List Q)) :=
(m_spec_l1New_io4 [] [] [] a0).bind fun (v1,v2,v3,_,_,_) =>
(m_spec_l5Bent_io1 v1 v2 v3).bind fun (v7,v8,v9,_,_) =>
some (v7,v8,v9)
theorem W15 (a0 : List UInt8) (r : (List (List Int)) × (List Int) × (List Q)) (h : m_spec_DrawSolveLP a0 = some r) : AM.Spec Tryz.prog 5 [.list (.bytes a0)] [] (.agg [.sl 1000 0,.sl 1001 0,.sl 1002 0]) [(1000,.arr 25 0 0 (.intss r.1)),(1001,.arr 3 0 0 (.ints r.2.1)),(1002,.arr 31 0 0 (.rats r.2.2))] := by
 refine spec_of (E := E252) Tryz.func5 rfl rfl rfl rfl ?_
 refine Tri.f 1 [] [.keep [0,2] [2],.ownc 2 0 1100 25,.ownc 2 1 1101 3,.ownc 2 2 1102 31,.keep [0,2] [2,1100,1101,1102]] rfl trivial ?_
 obtain ⟨⟨v1,v2,v3,v4,v5,v6⟩,hk1,h⟩ := bind_some h
 obtain ⟨⟨v7,v8,v9,v10,v11⟩,hk2,h⟩ := bind_some h
 refine Tri.f 1 [.r ⟨[2,1100,1101,1102],.ptr 1103 0,[(1103,.box [.list (.bytes v1),.i v2,.i v3]),(1104,.arr 25 0 0 (.intss v4)),(1105,.arr 3 0 0 (.ints v5)),(1106,.arr 31 0 0 (.rats v6)),(2,.box [.sl 1104 0,.sl 1105 0,.sl 1106 0])]⟩,.r ⟨[1103],.agg [.sl 1107 0,.sl 1108 0,.sl 1109 0],[(1107,.arr 25 0 0 (.intss v7)),(1108,.arr 3 0 0 (.ints v8)),(1109,.arr 31 0 0 (.rats v9)),(1103,.box [.undf,.i v10,.i v11])]⟩] [.swap 1107 1000,.swap 1108 1001,.swap 1109 1002,.keep [2] [2,1000,1001,1002]] rfl ⟨(fun vf => (((((W14 (vf 1103 0) v1 v2 v3 (v7,v8,v9,v10,v11) hk2).swap 1000 1107).swap 1001 1108).swap 1002 1109).swap 2020 1103)),fun _ => ((((((((W1 [] [] [] a0 (v1,v2,v3,v4,v5,v6) hk1).swap 1000 1103).swap 1001 1104).swap 1002 1105).swap 1003 1106).swap 2000 2).swap 2001 1100).swap 2002 1101).swap 2003 1102,trivial⟩ ?_
 cases h
 exact Tri.ret rfl ⟨.inl rfl,rfl,rfl⟩
noncomputable def E253 : Env := ⟨Tryz.prog,tys,(Tryz.f28.body).getD .skip,15,tysOk,mixedOk⟩
abbrev K134 (r : Bool) (σ' : ASt) : Prop := isRes E253.T Tryz.f28 (.bool r) [] σ'
noncomputable def m_impl_within (a0 a1 a2 : Int) : Option Bool :=
bif decide (a0 ≥ a1) then
(some (decide (a0 ≤ a2)))
else
(some false)
theorem W16 (a0 a1 a2 : Int) (r : Bool) (h : m_impl_within a0 a1 a2 = some r) : AM.Spec Tryz.prog 28 [.i a0,.i a1,.i a2] [] (.bool r) [] := by
 refine spec_of (E := E253) Tryz.func28 rfl rfl rfl rfl ?_
 refine Tri.f 1 [] [.keep [0,1,2] []] rfl trivial ?_
 rcases bif_some h with ⟨hd1,h⟩ | ⟨hd1,h⟩
 ·refine Tri.f 1 [.g true] [.keep [6] []] rfl ⟨hd1,trivial⟩ ?_
  cases h
  exact Tri.ret rfl ⟨.inl rfl,rfl,rfl⟩
 ·refine Tri.f 1 [.g false] [.keep [6] []] rfl ⟨hd1,trivial⟩ ?_
  cases h
  exact Tri.ret rfl ⟨.inl rfl,rfl,rfl⟩
noncomputable def E254 : Env := ⟨Tryz.prog,tys,(Tryz.f106.body).getD .skip,15,tysOk,mixedOk⟩
abbrev K135 (r : Int) (σ' : ASt) : Prop := isRes E254.T Tryz.f106 (.i r) [] σ'
noncomputable def l_impl_common_0 : (Int × Int) → Option ((Int × Int) ⊕ Int)
 | (v1,v2) => (
bif v2 != 0 then
(grd (v2 ≠ 0) <|
some (.inl (v2,v1.tmod v2)))
else
(some (.inr v1)))
noncomputable def m_impl_common (a0 a1 : Int) : Option Int :=
(iter (l_impl_common_0) (a0,a1)).bind fun
| v3 => (
some (if IntKind.i64.wrap (0 - v3) > v3 then IntKind.i64.wrap (0 - v3) else v3))
theorem W17 (a0 a1 r : Int) (h : m_impl_common a0 a1 = some r) : AM.Spec Tryz.prog 106 [.i a0,.i a1] [] (.i r) [] := by
 refine spec_of (E := E254) Tryz.func106 rfl rfl rfl rfl ?_
 refine Tri.f 1 [] [.keep [0,1] []] rfl trivial ?_
 obtain ⟨v3,hk3,h⟩ := bind_some h
 refine Tri.loop (K1 := [.code [(1,0),(0,0),(0,0)] 0]) (K2 := [.blk 0,.code [] 2]) (fun (v1,v2) => ⟨[(0,.i v1),(1,.i v2)],[]⟩) (fun x e σ' => match x with | v3 => e = .exit 0 ∧ σ' = ⟨[(0,.i v3)],[]⟩) hk3 rfl rfl ?_ ?_
 ·intro s x hs
  clear h
  have h := hs
  clear hs
  obtain ⟨v1,v2⟩ := s
  refine Tri.f 1 [] [.keep [0,1,6] []] rfl trivial ?_
  rcases bif_some h with ⟨hd1,h⟩ | ⟨hd1,h⟩
  ·obtain ⟨hg2,h⟩ := grd_some h
   refine Tri.f 2 [.g true] [.keep [0,1] []] rfl ⟨hg2,hd1,trivial⟩ ?_
   cases h
   exact Tri.nil ⟨rfl,rfl⟩
  ·refine Tri.f 1 [.g false] [.keep [0] []] rfl ⟨hd1,trivial⟩ ?_
   cases h
   exact Tri.out 0 rfl ⟨nofun,rfl,rfl⟩
 ·intro e σ' hne hq
  obtain ⟨rfl,rfl⟩ := hq
  refine TriX.exit (K' := [.code [] 2]) rfl ?_
  refine Tri.f 1 [] [.keep [4] []] rfl trivial ?_
  cases h
  exact Tri.ret rfl ⟨.inl rfl,rfl,rfl⟩
noncomputable def E255 : Env := ⟨Tryz.prog,tys,(Tryz.f80.body).getD .skip,19,tysOk,mixedOk⟩
abbrev K136 (r : Bool) (σ' : ASt) : Prop := isRes E255.T Tryz.f80 (.bool r) [] σ'
noncomputable def m_impl_IsValidRat (a0 a1 : Int) : Option Bool :=
(m_impl_within a1 (1 : Int) (1000000000 : Int)).bind fun v1 =>
bif v1 then
((m_impl_within a0 (-1000000000 : Int) (1000000000 : Int)).bind fun v2 =>
bif v2 then
((m_impl_common a0 a1).bind fun v3 =>
some (v3 == 1))
else
(some false))
else
(some false)
theorem W18 (a0 a1 : Int) (r : Bool) (h : m_impl_IsValidRat a0 a1 = some r) : AM.Spec Tryz.prog 80 [.agg [.i a0,.i a1]] [] (.bool r) [] := by
 refine spec_of (E := E255) Tryz.func80 rfl rfl rfl rfl ?_
 refine Tri.f 1 [] [.keep [1] [1]] rfl trivial ?_
 obtain ⟨v1,hk1,h⟩ := bind_some h
 rcases bif_some h with ⟨hd2,h⟩ | ⟨hd2,h⟩
 ·obtain ⟨v2,hk3,h⟩ := bind_some h
  rcases bif_some h with ⟨hd4,h⟩ | ⟨hd4,h⟩
  ·obtain ⟨v3,hk5,h⟩ := bind_some h
   refine Tri.f 1 [.v (.bool v1),.g true,.v (.bool v2),.g true,.v (.i v3)] [.keep [2] []] rfl ⟨fun _ => W17 a0 a1 v3 hk5,hd4,fun _ => W16 a0 (-1000000000 : Int) (1000000000 : Int) v2 hk3,hd2,fun _ => W16 a1 (1 : Int) (1000000000 : Int) v1 hk1,trivial⟩ ?_
   cases h
   exact Tri.ret rfl ⟨.inl rfl,rfl,rfl⟩
  ·refine Tri.f 1 [.v (.bool v1),.g true,.v (.bool v2),.g false] [.keep [2] []] rfl ⟨hd4,fun _ => W16 a0 (-1000000000 : Int) (1000000000 : Int) v2 hk3,hd2,fun _ => W16 a1 (1 : Int) (1000000000 : Int) v1 hk1,trivial⟩ ?_
   cases h
   exact Tri.ret rfl ⟨.inl rfl,rfl,rfl⟩
 ·refine Tri.f 1 [.v (.bool v1),.g false,.g false] [.keep [2] []] rfl ⟨rfl,hd2,fun _ => W16 a1 (1 : Int) (1000000000 : Int) v1 hk1,trivial⟩ ?_
  cases h
  exact Tri.ret rfl ⟨.inl rfl,rfl,rfl⟩
noncomputable def E256 : Env := ⟨Tryz.prog,tys,(Tryz.f79.body).getD .skip,6,tysOk,mixedOk⟩
abbrev K137 (r : Bool) (σ' : ASt) : Prop := isRes E256.T Tryz.f79 (.bool r) [] σ'
noncomputable def m_impl_AllValid_1 (a0 a1 : Int) : Option Bool :=
(m_impl_IsValidRat a0 a1).bind fun v1 =>
some (!v1)
theorem W19 (a0 a1 : Int) (r : Bool) (h : m_impl_AllValid_1 a0 a1 = some r) : AM.Spec Tryz.prog 79 [.agg [.i a0,.i a1]] [] (.bool r) [] := by
 refine spec_of (E := E256) Tryz.func79 rfl rfl rfl rfl ?_
 refine Tri.f 1 [] [.keep [1] [1]] rfl trivial ?_
 obtain ⟨v1,hk1,h⟩ := bind_some h
 refine Tri.f 1 [.v (.bool v1)] [.keep [2] []] rfl ⟨fun _ => W18 a0 a1 v1 hk1,trivial⟩ ?_
 cases h
 exact Tri.ret rfl ⟨.inl rfl,rfl,rfl⟩
noncomputable def E257 : Env := ⟨Tryz.prog,tys,(Tryz.f105.body).getD .skip,19,tysOk,mixedOk⟩
abbrev K138 (r : Int) (σ' : ASt) : Prop := isRes E257.T Tryz.f105 (.i r) [] σ'
noncomputable def l_slices_IndexFunc_impl_Rat_impl_Rat_impl_AllValid_1_0 (a0 : List Q) (v1 : Int) : Option (Int ⊕ (Unit ⊕ Int)) :=
bif decide (v1 < (a0.length : Int)) then
(grd (0 ≤ v1 ∧ v1 < (a0.length : Int)) <|
(m_impl_AllValid_1 ((a0.getD v1.toNat ⟨0,0⟩).num) ((a0.getD v1.toNat ⟨0,0⟩).den)).bind fun v2 =>
bif v2 then
(some (.inr (.inr v1)))
else
(some (.inl (IntKind.i64.wrap (v1 + 1)))))
else
(some (.inr (.inl ())))
noncomputable def m_slices_IndexFunc_impl_Rat_impl_Rat_impl_AllValid_1 (a0 : List Q) : Option Int :=
(iter (l_slices_IndexFunc_impl_Rat_impl_Rat_impl_AllValid_1_0 a0) (0 : Int)).bind fun
| (.inl _) => (
some (-1 : Int))
| (.inr r) => some r
theorem W20 (a0 : List Q) (r : Int) (h : m_slices_IndexFunc_impl_Rat_impl_Rat_impl_AllValid_1 a0 = some r) : AM.Spec Tryz.prog 105 [.list (.rats a0),.func 79 [] []] [] (.i r) [] := by
 refine spec_of (E := E257) Tryz.func105 rfl rfl rfl rfl ?_
 refine Tri.f 2 [] [.keep [0,1,7,8] []] rfl trivial ?_
 obtain ⟨x1,hk5,h⟩ := bind_some h
 refine Tri.loop (K1 := [.code [(1,0),(1,0),(0,0)] 0]) (K2 := [.blk 0,.code [] 2]) (fun v1 => ⟨[(0,.list (.rats a0)),(1,.func 79 [] []),(7,.i (a0.length : Int)),(8,.i v1)],[]⟩) (fun x e σ' => match x with | (.inl _) => e = .exit 0 ∧ σ' = ⟨[],[]⟩ | (.inr r) => e = .ret ∧ K138 r σ') hk5 rfl rfl ?_ ?_
 ·intro v1 x hs
  clear h
  have h := hs
  clear hs
  refine Tri.f 1 [] [.keep [0,1,7,8,9] []] rfl trivial ?_
  rcases bif_some h with ⟨hd1,h⟩ | ⟨hd1,h⟩
  ·refine Tri.f 2 [.g true] [.keep [0,1,5,7,8] []] rfl ⟨hd1,trivial⟩ ?_
   obtain ⟨hg2,h⟩ := grd_some h
   obtain ⟨v2,hk3,h⟩ := bind_some h
   refine Tri.f 1 [.v (.bool v2)] [.keep [0,1,5,7,8,16] []] rfl ⟨fun _ => W19 ((a0.getD v1.toNat ⟨0,0⟩).num) ((a0.getD v1.toNat ⟨0,0⟩).den) v2 hk3,hg2,trivial⟩ ?_
   rcases bif_some h with ⟨hd4,h⟩ | ⟨hd4,h⟩
   ·refine Tri.f 2 [.g true] [.keep [4] []] rfl ⟨hd4,trivial⟩ ?_
    cases h
    exact Tri.ret rfl ⟨nofun,rfl,rfl,rfl⟩
   ·refine Tri.f 2 [.g false] [.keep [0,1,7,8] []] rfl ⟨hd4,trivial⟩ ?_
    cases h
    exact Tri.nil ⟨rfl,rfl⟩
  ·refine Tri.f 1 [.g false] [.keep [] []] rfl ⟨hd1,trivial⟩ ?_
   cases h
   exact Tri.out 0 rfl ⟨nofun,rfl,rfl⟩
 ·intro e σ' hne hq
  rcases x1 with _ | r
  ·obtain ⟨rfl,rfl⟩ := hq
   refine TriX.exit (K' := [.code [] 2]) rfl ?_
   refine Tri.f 1 [] [.keep [4] []] rfl trivial ?_
   cases h
   exact Tri.ret rfl ⟨.inl rfl,rfl,rfl⟩
  ·obtain ⟨rfl,hq⟩ := hq
   cases h
   exact TriX.ret ⟨.inl rfl,hq⟩
noncomputable def E258 : Env := ⟨Tryz.prog,tys,(Tryz.f78.body).getD .skip,9,tysOk,mixedOk⟩
abbrev K139 (r : Bool) (σ' : ASt) : Prop := isRes E258.T Tryz.f78 (.bool r) [] σ'
noncomputable def m_slices_ContainsFunc_impl_Rat_impl_Rat_impl_AllValid_1 (a0 : List Q) : Option Bool :=
(m_slices_IndexFunc_impl_Rat_impl_Rat_impl_AllValid_1 a0).bind fun v1 =>
some (decide (v1 ≥ 0))
theorem W21 (a0 : List Q) (r : Bool) (h : m_slices_ContainsFunc_impl_Rat_impl_Rat_impl_AllValid_1 a0 = some r) : AM.Spec Tryz.prog 78 [.list (.rats a0),.func 79 [] []] [] (.bool r) [] := by
 refine spec_of (E := E258) Tryz.func78 rfl rfl rfl rfl ?_
 refine Tri.f 1 [] [.keep [0,1] []] rfl trivial ?_
 obtain ⟨v1,hk1,h⟩ := bind_some h
 refine Tri.f 1 [.v (.i v1)] [.keep [4] []] rfl ⟨fun _ => W20 a0 v1 hk1,trivial⟩ ?_
 cases h
 exact Tri.ret rfl ⟨.inl rfl,rfl,rfl⟩
noncomputable def E259 : Env := ⟨Tryz.prog,tys,(Tryz.f26.body).getD .skip,6,tysOk,mixedOk⟩
abbrev K140 (r : Bool) (σ' : ASt) : Prop := isRes E259.T Tryz.f26 (.bool r) [] σ'
noncomputable def m_impl_AllValid (a0 : List Q) : Option Bool :=
(m_slices_ContainsFunc_impl_Rat_impl_Rat_impl_AllValid_1 a0).bind fun v1 =>
some (!v1)
theorem W22 (a0 : List Q) (r : Bool) (h : m_impl_AllValid a0 = some r) : AM.Spec Tryz.prog 26 [.list (.rats a0)] [] (.bool r) [] := by
 refine spec_of (E := E259) Tryz.func26 rfl rfl rfl rfl ?_
 refine Tri.f 1 [] [.keep [0] []] rfl trivial ?_
 obtain ⟨v1,hk1,h⟩ := bind_some h
 refine Tri.f 1 [.v (.bool v1)] [.keep [2] []] rfl ⟨fun _ => W21 a0 v1 hk1,trivial⟩ ?_
 cases h
 exact Tri.ret rfl ⟨.inl rfl,rfl,rfl⟩
noncomputable def E260 : Env := ⟨Tryz.prog,tys,(Tryz.f27.body).getD .skip,6,tysOk,mixedOk⟩
abbrev K141 (r : Bool) (σ' : ASt) : Prop := isRes E260.T Tryz.f27 (.bool r) [] σ'
noncomputable def m_impl_IsValidLP_1 (a0 : Int) : Option Bool :=
(m_impl_within a0 (-5000 : Int) (5000 : Int)).bind fun v1 =>
some (!v1)
theorem W23 (a0 : Int) (r : Bool) (h : m_impl_IsValidLP_1 a0 = some r) : AM.Spec Tryz.prog 27 [.i a0] [] (.bool r) [] := by
 refine spec_of (E := E260) Tryz.func27 rfl rfl rfl rfl ?_
 refine Tri.f 1 [] [.keep [0] []] rfl trivial ?_
 obtain ⟨v1,hk1,h⟩ := bind_some h
 refine Tri.f 1 [.v (.bool v1)] [.keep [2] []] rfl ⟨fun _ => W16 a0 (-5000 : Int) (5000 : Int) v1 hk1,trivial⟩ ?_
 cases h
 exact Tri.ret rfl ⟨.inl rfl,rfl,rfl⟩
noncomputable def E261 : Env := ⟨Tryz.prog,tys,(Tryz.f81.body).getD .skip,19,tysOk,mixedOk⟩
abbrev K142 (r : Int) (σ' : ASt) : Prop := isRes E261.T Tryz.f81 (.i r) [] σ'
noncomputable def l_slices_IndexFunc_int_int_impl_IsValidLP_1_0 (a0 : List Int) (v1 : Int) : Option (Int ⊕ (Unit ⊕ Int)) :=
bif decide (v1 < (a0.length : Int)) then
(grd (0 ≤ v1 ∧ v1 < (a0.length : Int)) <|
(m_impl_IsValidLP_1 (a0.getD v1.toNat 0)).bind fun v2 =>
bif v2 then
(some (.inr (.inr v1)))
else
(some (.inl (IntKind.i64.wrap (v1 + 1)))))
else
(some (.inr (.inl ())))
noncomputable def m_slices_IndexFunc_int_int_impl_IsValidLP_1 (a0 : List Int) : Option Int :=
(iter (l_slices_IndexFunc_int_int_impl_IsValidLP_1_0 a0) (0 : Int)).bind fun
| (.inl _) => (
some (-1 : Int))
| (.inr r) => some r
theorem W24 (a0 : List Int) (r : Int) (h : m_slices_IndexFunc_int_int_impl_IsValidLP_1 a0 = some r) : AM.Spec Tryz.prog 81 [.list (.ints a0),.func 27 [] []] [] (.i r) [] := by
 refine spec_of (E := E261) Tryz.func81 rfl rfl rfl rfl ?_
 refine Tri.f 2 [] [.keep [0,1,7,8] []] rfl trivial ?_
 obtain ⟨x1,hk5,h⟩ := bind_some h
 refine Tri.loop (K1 := [.code [(1,0),(1,0),(0,0)] 0]) (K2 := [.blk 0,.code [] 2]) (fun v1 => ⟨[(0,.list (.ints a0)),(1,.func 27 [] []),(7,.i (a0.length : Int)),(8,.i v1)],[]⟩) (fun x e σ' => match x with | (.inl _) => e = .exit 0 ∧ σ' = ⟨[],[]⟩ | (.inr r) => e = .ret ∧ K142 r σ') hk5 rfl rfl ?_ ?_
 ·intro v1 x hs
  clear h
  have h := hs
  clear hs
  refine Tri.f 1 [] [.keep [0,1,7,8,9] []] rfl trivial ?_
  rcases bif_some h with ⟨hd1,h⟩ | ⟨hd1,h⟩
  ·refine Tri.f 2 [.g true] [.keep [0,1,5,7,8] []] rfl ⟨hd1,trivial⟩ ?_
   obtain ⟨hg2,h⟩ := grd_some h
   obtain ⟨v2,hk3,h⟩ := bind_some h
   refine Tri.f 1 [.v (.bool v2)] [.keep [0,1,5,7,8,16] []] rfl ⟨fun _ => W23 (a0.getD v1.toNat 0) v2 hk3,hg2,trivial⟩ ?_
   rcases bif_some h with ⟨hd4,h⟩ | ⟨hd4,h⟩
   ·refine Tri.f 2 [.g true] [.keep [4] []] rfl ⟨hd4,trivial⟩ ?_
    cases h
    exact Tri.ret rfl ⟨nofun,rfl,rfl,rfl⟩
   ·refine Tri.f 2 [.g false] [.keep [0,1,7,8] []] rfl ⟨hd4,trivial⟩ ?_
    cases h
    exact Tri.nil ⟨rfl,rfl⟩
  ·refine Tri.f 1 [.g false] [.keep [] []] rfl ⟨hd1,trivial⟩ ?_
   cases h
   exact Tri.out 0 rfl ⟨nofun,rfl,rfl⟩
 ·intro e σ' hne hq
  rcases x1 with _ | r
  ·obtain ⟨rfl,rfl⟩ := hq
   refine TriX.exit (K' := [.code [] 2]) rfl ?_
   refine Tri.f 1 [] [.keep [4] []] rfl trivial ?_
   cases h
   exact Tri.ret rfl ⟨.inl rfl,rfl,rfl⟩
  ·obtain ⟨rfl,hq⟩ := hq
   cases h
   exact TriX.ret ⟨.inl rfl,hq⟩
noncomputable def E262 : Env := ⟨Tryz.prog,tys,(Tryz.f29.body).getD .skip,9,tysOk,mixedOk⟩
abbrev K143 (r : Bool) (σ' : ASt) : Prop := isRes E262.T Tryz.f29 (.bool r) [] σ'
noncomputable def m_slices_ContainsFunc_int_int_impl_IsValidLP_1 (a0 : List Int) : Option Bool :=
(m_slices_IndexFunc_int_int_impl_IsValidLP_1 a0).bind fun v1 =>
some (decide (v1 ≥ 0))
theorem W25 (a0 : List Int) (r : Bool) (h : m_slices_ContainsFunc_int_int_impl_IsValidLP_1 a0 = some r) : AM.Spec Tryz.prog 29 [.list (.ints a0),.func 27 [] []] [] (.bool r) [] := by
 refine spec_of (E := E262) Tryz.func29 rfl rfl rfl rfl ?_
 refine Tri.f 1 [] [.keep [0,1] []] rfl trivial ?_
 obtain ⟨v1,hk1,h⟩ := bind_some h
 refine Tri.f 1 [.v (.i v1)] [.keep [4] []] rfl ⟨fun _ => W24 a0 v1 hk1,trivial⟩ ?_
 cases h
 exact Tri.ret rfl ⟨.inl rfl,rfl,rfl⟩
noncomputable def E263 : Env := ⟨Tryz.prog,tys,(Tryz.f9.body).getD .skip,55,tysOk,mixedOk⟩
abbrev K144 (r : Bool) (σ' : ASt) : Prop := isRes E263.T Tryz.f9 (.bool r) [] σ'
noncomputable def l_impl_IsValidLP_0 (a0 : List (List Int)) (a2 : List Q) (v2 : Int) : Option (Int ⊕ (Unit ⊕ Bool)) :=
bif decide (v2 < (a0.length : Int)) then
(grd (0 ≤ v2 ∧ v2 < (a0.length : Int)) <|
bif ((a0.getD v2.toNat []).length : Int) != (a2.length : Int) then
(some (.inr (.inr false)))
else
((m_slices_ContainsFunc_int_int_impl_IsValidLP_1 (a0.getD v2.toNat [])).bind fun v3 =>
bif v3 then
(some (.inr (.inr false)))
else
(some (.inl (IntKind.i64.wrap (v2 + 1))))))
else
(some (.inr (.inl ())))
noncomputable def m_impl_IsValidLP (a0 : List (List Int)) (a1 : List Int) (a2 : List Q) : Option Bool :=
bif decide ((a2.length : Int) > 70) then
(some false)
else
(bif decide ((a0.length : Int) > 8) then
(some false)
else
(bif (a1.length : Int) != (a0.length : Int) then
(some false)
else
((m_impl_AllValid a2).bind fun v1 =>
bif !v1 then
(some false)
else
((iter (l_impl_IsValidLP_0 a0 a2) (0 : Int)).bind fun
| (.inl _) => (
(m_slices_ContainsFunc_int_int_impl_IsValidLP_1 a1).bind fun v4 =>
some (!v4))
| (.inr r) => some r))))
theorem W26 (a0 : List (List Int)) (a1 : List Int) (a2 : List Q) (r : Bool) (h : m_impl_IsValidLP a0 a1 a2 = some r) : AM.Spec Tryz.prog 9 [.agg [.list (.intss a0),.list (.ints a1),.list (.rats a2)]] [] (.bool r) [] := by
 refine spec_of (E := E263) Tryz.func9 rfl rfl rfl rfl ?_
 refine Tri.f 1 [] [.keep [1] [1]] rfl trivial ?_
 rcases bif_some h with ⟨hd1,h⟩ | ⟨hd1,h⟩
 ·refine Tri.f 1 [.g true,.g true,.g true] [.keep [1,30] [1]] rfl ⟨rfl,rfl,hd1,trivial⟩ ?_
  refine Tri.f 2 [.g true] [.keep [2] []] rfl ⟨rfl,trivial⟩ ?_
  cases h
  exact Tri.ret rfl ⟨.inl rfl,rfl,rfl⟩
 ·rcases bif_some h with ⟨hd2,h⟩ | ⟨hd2,h⟩
  ·refine Tri.f 1 [.g false,.g true,.g true] [.keep [1,30] [1]] rfl ⟨rfl,hd2,hd1,trivial⟩ ?_
   refine Tri.f 2 [.g true] [.keep [2] []] rfl ⟨rfl,trivial⟩ ?_
   cases h
   exact Tri.ret rfl ⟨.inl rfl,rfl,rfl⟩
  ·rcases bif_some h with ⟨hd3,h⟩ | ⟨hd3,h⟩
   ·refine Tri.f 1 [.g false,.g false,.g true] [.keep [1,30] [1]] rfl ⟨hd3,hd2,hd1,trivial⟩ ?_
    refine Tri.f 2 [.g true] [.keep [2] []] rfl ⟨rfl,trivial⟩ ?_
    cases h
    exact Tri.ret rfl ⟨.inl rfl,rfl,rfl⟩
   ·obtain ⟨v1,hk4,h⟩ := bind_some h
    refine Tri.f 1 [.g false,.g false,.g false,.v (.bool v1)] [.keep [1,30] [1]] rfl ⟨fun _ => W22 a2 v1 hk4,hd3,hd2,hd1,trivial⟩ ?_
    rcases bif_some h with ⟨hd5,h⟩ | ⟨hd5,h⟩
    ·refine Tri.f 2 [.g true] [.keep [2] []] rfl ⟨hd5,trivial⟩ ?_
     cases h
     exact Tri.ret rfl ⟨.inl rfl,rfl,rfl⟩
    ·refine Tri.f 3 [.g false] [.keep [1,3,32,33,34] [1]] rfl ⟨hd5,trivial⟩ ?_
     obtain ⟨x1,hk11,h⟩ := bind_some h
     refine Tri.loop (K1 := [.code [(3,0),(1,0),(0,0)] 0]) (K2 := [.blk 0,.code [] 4]) (fun v2 => ⟨[(1,.ptr 1 0),(3,.func 27 [] []),(32,.list (.intss a0)),(33,.i (a0.length : Int)),(34,.i v2)],[(1,.box [.list (.intss a0),.list (.ints a1),.list (.rats a2)])]⟩) (fun x e σ' => match x with | (.inl _) => e = .exit 0 ∧ σ' = ⟨[(1,.ptr 1 0),(3,.func 27 [] [])],[(1,.box [.list (.intss a0),.list (.ints a1),.list (.rats a2)])]⟩ | (.inr r) => e = .ret ∧ K144 r σ') hk11 rfl rfl ?_ ?_
     ·intro v2 x hs
      clear h
      have h := hs
      clear hs
      refine Tri.f 1 [] [.keep [1,3,32,33,34,35] [1]] rfl trivial ?_
      rcases bif_some h with ⟨hd6,h⟩ | ⟨hd6,h⟩
      ·obtain ⟨hg7,h⟩ := grd_some h
       refine Tri.f 2 [.g true] [.keep [1,3,5,32,33,34] [1]] rfl ⟨hg7,hd6,trivial⟩ ?_
       rcases bif_some h with ⟨hd8,h⟩ | ⟨hd8,h⟩
       ·refine Tri.f 1 [.g true] [.keep [1,3,32,33,34,48] [1]] rfl ⟨hd8,trivial⟩ ?_
        refine Tri.f 2 [.g true] [.keep [2] []] rfl ⟨rfl,trivial⟩ ?_
        cases h
        exact Tri.ret rfl ⟨nofun,rfl,rfl,rfl⟩
       ·obtain ⟨v3,hk9,h⟩ := bind_some h
        refine Tri.f 1 [.g false,.v (.bool v3)] [.keep [1,3,32,33,34,48] [1]] rfl ⟨fun _ => W25 (a0.getD v2.toNat []) v3 hk9,hd8,trivial⟩ ?_
        rcases bif_some h with ⟨hd10,h⟩ | ⟨hd10,h⟩
        ·refine Tri.f 2 [.g true] [.keep [2] []] rfl ⟨hd10,trivial⟩ ?_
         cases h
         exact Tri.ret rfl ⟨nofun,rfl,rfl,rfl⟩
        ·refine Tri.f 2 [.g false] [.keep [1,3,32,33,34] [1]] rfl ⟨hd10,trivial⟩ ?_
         cases h
         exact Tri.nil ⟨rfl,rfl⟩
      ·refine Tri.f 1 [.g false] [.keep [1,3] [1]] rfl ⟨hd6,trivial⟩ ?_
       cases h
       exact Tri.out 0 rfl ⟨nofun,rfl,rfl⟩
     ·intro e σ' hne hq
      rcases x1 with _ | r
      ·obtain ⟨rfl,rfl⟩ := hq
       refine TriX.exit (K' := [.code [] 4]) rfl ?_
       obtain ⟨v4,hk12,h⟩ := bind_some h
       refine Tri.f 1 [.v (.bool v4)] [.keep [2] []] rfl ⟨fun _ => W25 a1 v4 hk12,trivial⟩ ?_
       cases h
       exact Tri.ret rfl ⟨.inl rfl,rfl,rfl⟩
      ·obtain ⟨rfl,hq⟩ := hq
       cases h
       exact TriX.ret ⟨.inl rfl,hq⟩
noncomputable def E264 : Env := ⟨Tryz.prog,tys,(Tryz.f63.body).getD .skip,5,tysOk,mixedOk⟩
abbrev K145 (r : Int × Int) (σ' : ASt) : Prop := isRes E264.T Tryz.f63 (.agg [.i r.1,.i r.2]) [] σ'
noncomputable def m_impl_whole (a0 : Int) : Option (Int × Int) :=
some (a0,(1 : Int))
theorem W27 (a0 : Int) (r : Int × Int) (h : m_impl_whole a0 = some r) : AM.Spec Tryz.prog 63 [.i a0] [] (.agg [.i r.1,.i r.2]) [] := by
 refine spec_of (E := E264) Tryz.func63 rfl rfl rfl rfl ?_
 refine Tri.f 2 [] [.keep [2] [2]] rfl trivial ?_
 cases h
 exact Tri.ret rfl ⟨.inl rfl,rfl,rfl⟩
noncomputable def E265 : Env := ⟨Tryz.prog,tys,(Tryz.f60.body).getD .skip,91,tysOk,mixedOk⟩
abbrev K146 (r : Int × (List (List Q)) × (List Int)) (σ' : ASt) : Prop := isRes E265.T Tryz.f60 (.agg [.sl 1000 0,.sl 1001 0,.i r.1]) [(1000,.arr 26 0 0 (.ratss r.2.1)),(1001,.arr 3 0 0 (.ints r.2.2))] σ'
noncomputable def l_impl_StartTableau_1 (a0 : List (List Int)) (v2 : Int) : (Int × (List Q)) → Option ((Int × (List Q)) ⊕ ((List Q)))
 | (v5,v6) => (
bif decide (v5 < ((a0.getD v2.toNat []).length : Int)) then
(grd (0 ≤ v5 ∧ v5 < ((a0.getD v2.toNat []).length : Int)) <|
(m_impl_whole (IntKind.i64.wrap ((-1 : Int) * ((a0.getD v2.toNat []).getD v5.toNat 0)))).bind fun (v7,v8) =>
grd (v6.length + ([⟨v7,v8⟩] : List Q).length ≤ room) <|
some (.inl (IntKind.i64.wrap (v5 + 1),v6 ++ [⟨v7,v8⟩])))
else
(some (.inr v6)))
noncomputable def l_impl_StartTableau_2 (a0 : List (List Int)) (v2 : Int) : (Int × (List Q)) → Option ((Int × (List Q)) ⊕ ((List Q)))
 | (v10,v11) => (
bif decide (v10 < (a0.length : Int)) then
(bif v10 == v2 then
((m_impl_whole (1 : Int)).bind fun (v12,v13) =>
grd (v11.length + ([⟨v12,v13⟩] : List Q).length ≤ room) <|
some (.inl (IntKind.i64.wrap (v10 + 1),v11 ++ [⟨v12,v13⟩])))
else
((m_impl_whole (0 : Int)).bind fun (v14,v15) =>
grd (v11.length + ([⟨v14,v15⟩] : List Q).length ≤ room) <|
some (.inl (IntKind.i64.wrap (v10 + 1),v11 ++ [⟨v14,v15⟩]))))
else
(some (.inr v11)))
noncomputable def l_impl_StartTableau_3 (a0 : List (List Int)) (v2 : Int) : (Int × (List Q)) → Option ((Int × (List Q)) ⊕ ((List Q)))
 | (v19,v20) => (
bif decide (v19 < ((a0.getD v2.toNat []).length : Int)) then
(grd (0 ≤ v19 ∧ v19 < ((a0.getD v2.toNat []).length : Int)) <|
(m_impl_whole (IntKind.i64.wrap ((1 : Int) * ((a0.getD v2.toNat []).getD v19.toNat 0)))).bind fun (v21,v22) =>
grd (v20.length + ([⟨v21,v22⟩] : List Q).length ≤ room) <|
some (.inl (IntKind.i64.wrap (v19 + 1),v20 ++ [⟨v21,v22⟩])))
else
(some (.inr v20)))
noncomputable def l_impl_StartTableau_4 (a0 : List (List Int)) (v2 : Int) : (Int × (List Q)) → Option ((Int × (List Q)) ⊕ ((List Q)))
 | (v24,v25) => (
bif decide (v24 < (a0.length : Int)) then
(bif v24 == v2 then
((m_impl_whole (1 : Int)).bind fun (v26,v27) =>
grd (v25.length + ([⟨v26,v27⟩] : List Q).length ≤ room) <|
some (.inl (IntKind.i64.wrap (v24 + 1),v25 ++ [⟨v26,v27⟩])))
else
((m_impl_whole (0 : Int)).bind fun (v28,v29) =>
grd (v25.length + ([⟨v28,v29⟩] : List Q).length ≤ room) <|
some (.inl (IntKind.i64.wrap (v24 + 1),v25 ++ [⟨v28,v29⟩]))))
else
(some (.inr v25)))
noncomputable def l_impl_StartTableau_0 (a0 : List (List Int)) (a1 : List Int) (a2 : List Q) : (Int × (List (List Q)) × (List Int)) → Option ((Int × (List (List Q)) × (List Int)) ⊕ (((List (List Q)) × (List Int))))
 | (v2,v3,v4) => (
bif decide (v2 < (a0.length : Int)) then
(grd (0 ≤ v2 ∧ v2 < (a0.length : Int)) <|
grd (0 ≤ v2 ∧ v2 < (a1.length : Int)) <|
bif decide ((a1.getD v2.toNat 0) < 0) then
((iter (l_impl_StartTableau_1 a0 v2) ((0 : Int),[])).bind fun
| v9 => (
(iter (l_impl_StartTableau_2 a0 v2) ((0 : Int),v9)).bind fun
| v16 => (
grd (0 ≤ v2 ∧ v2 < (a1.length : Int)) <|
(m_impl_whole (IntKind.i64.wrap ((-1 : Int) * (a1.getD v2.toNat 0)))).bind fun (v17,v18) =>
grd (v16.length + ([⟨v17,v18⟩] : List Q).length ≤ room) <|
grd (v3.length + ([v16 ++ [⟨v17,v18⟩]] : List (List Q)).length ≤ room) <|
grd (v4.length + ([IntKind.i64.wrap ((a2.length : Int) + v2)] : List Int).length ≤ room) <|
some (.inl (IntKind.i64.wrap (v2 + 1),v3 ++ [v16 ++ [⟨v17,v18⟩]],v4 ++ [IntKind.i64.wrap ((a2.length : Int) + v2)])))))
else
((iter (l_impl_StartTableau_3 a0 v2) ((0 : Int),[])).bind fun
| v23 => (
(iter (l_impl_StartTableau_4 a0 v2) ((0 : Int),v23)).bind fun
| v30 => (
grd (0 ≤ v2 ∧ v2 < (a1.length : Int)) <|
(m_impl_whole (IntKind.i64.wrap ((1 : Int) * (a1.getD v2.toNat 0)))).bind fun (v31,v32) =>
grd (v30.length + ([⟨v31,v32⟩] : List Q).length ≤ room) <|
grd (v3.length + ([v30 ++ [⟨v31,v32⟩]] : List (List Q)).length ≤ room) <|
grd (v4.length + ([IntKind.i64.wrap ((a2.length : Int) + v2)] : List Int).length ≤ room) <|
some (.inl (IntKind.i64.wrap (v2 + 1),v3 ++ [v30 ++ [⟨v31,v32⟩]],v4 ++ [IntKind.i64.wrap ((a2.length : Int) + v2)]))))))
else
(some (.inr (v3,v4))))
noncomputable def m_impl_StartTableau (a0 : List (List Int)) (a1 : List Int) (a2 : List Q) : Option (Int × (List (List Q)) × (List Int)) :=
(m_impl_IsValidLP a0 a1 a2).bind fun v1 =>
bif !v1 then
(some (0,[],[]))
else
((iter (l_impl_StartTableau_0 a0 a1 a2) ((0 : Int),[],[])).bind fun
| (v33,v34) => (
some ((a2.length : Int),v33,v34)))
theorem W28 (a0 : List (List Int)) (a1 : List Int) (a2 : List Q) (r : Int × (List (List Q)) × (List Int)) (h : m_impl_StartTableau a0 a1 a2 = some r) : AM.Spec Tryz.prog 60 [.agg [.list (.intss a0),.list (.ints a1),.list (.rats a2)]] [] (.agg [.sl 1000 0,.sl 1001 0,.i r.1]) [(1000,.arr 26 0 0 (.ratss r.2.1)),(1001,.arr 3 0 0 (.ints r.2.2))] := by
 refine spec_of (E := E265) Tryz.func60 rfl rfl rfl rfl ?_
 refine Tri.f 1 [] [.keep [1,2] [1,2],.ownc 2 0 1100 26,.ownc 2 1 1101 3,.keep [1,2] [1,2,1100,1101]] rfl trivial ?_
 obtain ⟨v1,hk1,h⟩ := bind_some h
 refine Tri.f 1 [.v (.bool v1)] [.keep [1,2,14] [1,2,1100,1101]] rfl ⟨fun _ => W26 a0 a1 a2 v1 hk1,trivial⟩ ?_
 rcases bif_some h with ⟨hd2,h⟩ | ⟨hd2,h⟩
 ·refine Tri.f 2 [.g true] [.ownc 2 0 1102 26,.ownc 2 1 1103 3,.swap 1102 1000,.swap 1103 1001,.keep [2] [2,1000,1001]] rfl ⟨hd2,trivial⟩ ?_
  cases h
  exact Tri.ret rfl ⟨.inl rfl,rfl,rfl⟩
 ·refine Tri.f 3 [.g false] [.ownc 3 0 1104 26,.ownc 3 1 1105 3,.keep [1,2,3,21,22,23] [1,2,3,1100,1101,1104,1105]] rfl ⟨hd2,trivial⟩ ?_
  obtain ⟨x5,hk41,h⟩ := bind_some h
  refine Tri.loop (K1 := [.code [(3,0),(1,0),(0,0)] 0]) (K2 := [.blk 0,.code [] 4]) (fun (v2,v3,v4) => ⟨[(1,.ptr 1 0),(2,.ptr 2 0),(3,.ptr 3 0),(21,.list (.intss a0)),(22,.i (a0.length : Int)),(23,.i v2)],[(1,.box [.list (.intss a0),.list (.ints a1),.list (.rats a2)]),(2,.box [.sl 1100 0,.sl 1101 0,.i 0]),(3,.box [.sl 1104 0,.sl 1105 0,.i (a2.length : Int)]),(1100,.arr 26 0 0 (.ratss [])),(1101,.arr 3 0 0 (.ints [])),(1104,.arr 26 0 0 (.ratss v3)),(1105,.arr 3 0 0 (.ints v4))]⟩) (fun x e σ' => match x with | (v33,v34) => e = .exit 0 ∧ σ' = ⟨[(2,.ptr 2 0),(3,.ptr 3 0)],[(2,.box [.sl 1100 0,.sl 1101 0,.i 0]),(3,.box [.sl 1104 0,.sl 1105 0,.i (a2.length : Int)]),(1100,.arr 26 0 0 (.ratss [])),(1101,.arr 3 0 0 (.ints [])),(1104,.arr 26 0 0 (.ratss v33)),(1105,.arr 3 0 0 (.ints v34))]⟩) hk41 rfl rfl ?_ ?_
  ·intro s x hs
   clear h
   have h := hs
   clear hs
   obtain ⟨v2,v3,v4⟩ := s
   refine Tri.f 1 [] [.keep [1,2,3,21,22,23,24] [1,2,3,1100,1101,1104,1105]] rfl trivial ?_
   rcases bif_some h with ⟨hd3,h⟩ | ⟨hd3,h⟩
   ·obtain ⟨hg4,h⟩ := grd_some h
    refine Tri.f 3 [.g true] [.keep [1,2,3,4,5,6,21,22,23] [1,2,3,1100,1101,1104,1105]] rfl ⟨hg4,hd3,trivial⟩ ?_
    obtain ⟨hg5,h⟩ := grd_some h
    refine Tri.f 1 [] [.keep [1,2,3,4,5,6,21,22,23,33] [1,2,3,1100,1101,1104,1105]] rfl ⟨hg5,trivial⟩ ?_
    rcases bif_some h with ⟨hd6,h⟩ | ⟨hd6,h⟩
    ·refine Tri.f 3 [.g true] [.keep [1,2,3,4,5,6,7,21,22,23] [1,2,3,34,1100,1101,1104,1105]] rfl ⟨hd6,trivial⟩ ?_
     refine Tri.f 1 [] [.keep [1,2,3,4,6,7,21,22,23,35,36,37] [1,2,3,34,1100,1101,1104,1105]] rfl trivial ?_
     obtain ⟨v9,hk11,h⟩ := bind_some h
     refine Tri.loop (K1 := [.code [(3,0),(1,0),(0,0),(2,0),(0,0),(4,0),(1,0),(0,0)] 0]) (K2 := [.blk 2,.code [(3,0),(1,0),(0,0),(2,0),(0,0)] 5,.blk 1,.code [(3,0),(1,0),(0,0)] 3]) (fun (v5,v6) => ⟨[(1,.ptr 1 0),(2,.ptr 2 0),(3,.ptr 3 0),(4,.i v2),(6,.i (-1 : Int)),(7,.sl 34 0),(21,.list (.intss a0)),(22,.i (a0.length : Int)),(23,.i v2),(35,.list (.ints (a0.getD v2.toNat []))),(36,.i ((a0.getD v2.toNat []).length : Int)),(37,.i v5)],[(1,.box [.list (.intss a0),.list (.ints a1),.list (.rats a2)]),(2,.box [.sl 1100 0,.sl 1101 0,.i 0]),(3,.box [.sl 1104 0,.sl 1105 0,.i (a2.length : Int)]),(34,.arr 31 0 0 (.rats v6)),(1100,.arr 26 0 0 (.ratss [])),(1101,.arr 3 0 0 (.ints [])),(1104,.arr 26 0 0 (.ratss v3)),(1105,.arr 3 0 0 (.ints v4))]⟩) (fun x e σ' => match x with | v9 => e = .exit 2 ∧ σ' = ⟨[(1,.ptr 1 0),(2,.ptr 2 0),(3,.ptr 3 0),(4,.i v2),(6,.i (-1 : Int)),(7,.sl 34 0),(21,.list (.intss a0)),(22,.i (a0.length : Int)),(23,.i v2)],[(1,.box [.list (.intss a0),.list (.ints a1),.list (.rats a2)]),(2,.box [.sl 1100 0,.sl 1101 0,.i 0]),(3,.box [.sl 1104 0,.sl 1105 0,.i (a2.length : Int)]),(34,.arr 31 0 0 (.rats v9)),(1100,.arr 26 0 0 (.ratss [])),(1101,.arr 3 0 0 (.ints [])),(1104,.arr 26 0 0 (.ratss v3)),(1105,.arr 3 0 0 (.ints v4))]⟩) hk11 rfl rfl ?_ ?_
     ·intro s x hs
      clear h
      have h := hs
      clear hs
      obtain ⟨v5,v6⟩ := s
      refine Tri.f 1 [] [.keep [1,2,3,4,6,7,21,22,23,35,36,37,38] [1,2,3,34,1100,1101,1104,1105]] rfl trivial ?_
      rcases bif_some h with ⟨hd7,h⟩ | ⟨hd7,h⟩
      ·obtain ⟨hg8,h⟩ := grd_some h
       refine Tri.f 2 [.g true] [.keep [1,2,3,4,6,7,9,21,22,23,35,36,37] [1,2,3,34,1100,1101,1104,1105]] rfl ⟨hg8,hd7,trivial⟩ ?_
       obtain ⟨⟨v7,v8⟩,hk9,h⟩ := bind_some h
       obtain ⟨hg10,h⟩ := grd_some h
       refine Tri.f 2 [.v (.agg [.i v7,.i v8])] [.rever 34,.keep [1,2,3,4,6,7,21,22,23,35,36,37] [1,2,3,34,1100,1101,1104,1105]] rfl ⟨hg10,fun _ => W27 (IntKind.i64.wrap ((-1 : Int) * ((a0.getD v2.toNat []).getD v5.toNat 0))) (v7,v8) hk9,trivial⟩ ?_
       cases h
       exact Tri.nil ⟨rfl,rfl⟩
      ·refine Tri.f 1 [.g false] [.keep [1,2,3,4,6,7,21,22,23] [1,2,3,34,1100,1101,1104,1105]] rfl ⟨hd7,trivial⟩ ?_
       cases h
       exact Tri.out 2 rfl ⟨nofun,rfl,rfl⟩
     ·intro e σ' hne hq
      obtain ⟨rfl,rfl⟩ := hq
      refine TriX.exit (K' := [.code [(3,0),(1,0),(0,0),(2,0),(0,0)] 5,.blk 1,.code [(3,0),(1,0),(0,0)] 3]) rfl ?_
      refine Tri.f 1 [] [.keep [1,2,3,4,6,7,21,22,23,51,52] [1,2,3,34,1100,1101,1104,1105]] rfl trivial ?_
      obtain ⟨v16,hk18,h⟩ := bind_some h
      refine Tri.loop (K1 := [.code [(3,0),(1,0),(0,0),(2,0),(0,0),(5,0),(1,0),(0,0)] 0]) (K2 := [.blk 4,.code [(3,0),(1,0),(0,0),(2,0),(0,0)] 6,.blk 1,.code [(3,0),(1,0),(0,0)] 3]) (fun (v10,v11) => ⟨[(1,.ptr 1 0),(2,.ptr 2 0),(3,.ptr 3 0),(4,.i v2),(6,.i (-1 : Int)),(7,.sl 34 0),(21,.list (.intss a0)),(22,.i (a0.length : Int)),(23,.i v2),(51,.i (a0.length : Int)),(52,.i v10)],[(1,.box [.list (.intss a0),.list (.ints a1),.list (.rats a2)]),(2,.box [.sl 1100 0,.sl 1101 0,.i 0]),(3,.box [.sl 1104 0,.sl 1105 0,.i (a2.length : Int)]),(34,.arr 31 0 0 (.rats v11)),(1100,.arr 26 0 0 (.ratss [])),(1101,.arr 3 0 0 (.ints [])),(1104,.arr 26 0 0 (.ratss v3)),(1105,.arr 3 0 0 (.ints v4))]⟩) (fun x e σ' => match x with | v16 => e = .exit 4 ∧ σ' = ⟨[(1,.ptr 1 0),(2,.ptr 2 0),(3,.ptr 3 0),(4,.i v2),(6,.i (-1 : Int)),(7,.sl 34 0),(21,.list (.intss a0)),(22,.i (a0.length : Int)),(23,.i v2)],[(1,.box [.list (.intss a0),.list (.ints a1),.list (.rats a2)]),(2,.box [.sl 1100 0,.sl 1101 0,.i 0]),(3,.box [.sl 1104 0,.sl 1105 0,.i (a2.length : Int)]),(34,.arr 31 0 0 (.rats v16)),(1100,.arr 26 0 0 (.ratss [])),(1101,.arr 3 0 0 (.ints [])),(1104,.arr 26 0 0 (.ratss v3)),(1105,.arr 3 0 0 (.ints v4))]⟩) hk18 rfl rfl ?_ ?_
      ·intro s x hs
       clear h
       have h := hs
       clear hs
       obtain ⟨v10,v11⟩ := s
       refine Tri.f 1 [] [.keep [1,2,3,4,6,7,21,22,23,51,52,53] [1,2,3,34,1100,1101,1104,1105]] rfl trivial ?_
       rcases bif_some h with ⟨hd12,h⟩ | ⟨hd12,h⟩
       ·refine Tri.f 3 [.g true] [.keep [1,2,3,4,6,7,10,11,21,22,23,51,52] [1,2,3,34,1100,1101,1104,1105]] rfl ⟨hd12,trivial⟩ ?_
        refine Tri.f 1 [] [.keep [1,2,3,4,6,7,11,21,22,23,51,52,57] [1,2,3,34,1100,1101,1104,1105]] rfl trivial ?_
        rcases bif_some h with ⟨hd13,h⟩ | ⟨hd13,h⟩
        ·refine Tri.f 2 [.g true] [.keep [1,2,3,4,6,7,11,21,22,23,51,52] [1,2,3,34,1100,1101,1104,1105]] rfl ⟨hd13,trivial⟩ ?_
         obtain ⟨⟨v12,v13⟩,hk14,h⟩ := bind_some h
         obtain ⟨hg15,h⟩ := grd_some h
         refine Tri.f 2 [.v (.agg [.i v12,.i v13])] [.rever 34,.keep [1,2,3,4,6,7,21,22,23,51,52] [1,2,3,34,1100,1101,1104,1105]] rfl ⟨hg15,fun _ => W27 (1 : Int) (v12,v13) hk14,trivial⟩ ?_
         cases h
         exact Tri.nil ⟨rfl,rfl⟩
        ·obtain ⟨⟨v14,v15⟩,hk16,h⟩ := bind_some h
         obtain ⟨hg17,h⟩ := grd_some h
         refine Tri.f 3 [.g false,.v (.agg [.i v14,.i v15])] [.rever 34,.keep [1,2,3,4,6,7,21,22,23,51,52] [1,2,3,34,1100,1101,1104,1105]] rfl ⟨hg17,fun _ => W27 (0 : Int) (v14,v15) hk16,hd13,trivial⟩ ?_
         cases h
         exact Tri.nil ⟨rfl,rfl⟩
       ·refine Tri.f 1 [.g false] [.keep [1,2,3,4,6,7,21,22,23] [1,2,3,34,1100,1101,1104,1105]] rfl ⟨hd12,trivial⟩ ?_
        cases h
        exact Tri.out 4 rfl ⟨nofun,rfl,rfl⟩
      ·intro e σ' hne hq
       obtain ⟨rfl,rfl⟩ := hq
       refine TriX.exit (K' := [.code [(3,0),(1,0),(0,0),(2,0),(0,0)] 6,.blk 1,.code [(3,0),(1,0),(0,0)] 3]) rfl ?_
       obtain ⟨hg19,h⟩ := grd_some h
       obtain ⟨⟨v17,v18⟩,hk20,h⟩ := bind_some h
       obtain ⟨hg21,h⟩ := grd_some h
       obtain ⟨hg22,h⟩ := grd_some h
       obtain ⟨hg23,h⟩ := grd_some h
       refine Tri.f 3 [.v (.agg [.i v17,.i v18])] [.rever 1104,.rever 1105,.keep [1,2,3,21,22,23] [1,2,3,1100,1101,1104,1105]] rfl ⟨hg23,hg22,hg21,fun _ => W27 (IntKind.i64.wrap ((-1 : Int) * (a1.getD v2.toNat 0))) (v17,v18) hk20,hg19,trivial⟩ ?_
       cases h
       exact Tri.nil ⟨rfl,rfl⟩
    ·refine Tri.f 3 [.g false] [.keep [1,2,3,4,6,7,21,22,23,35,36,37] [1,2,3,34,1100,1101,1104,1105]] rfl ⟨hd6,trivial⟩ ?_
     obtain ⟨v23,hk28,h⟩ := bind_some h
     refine Tri.loop (K1 := [.code [(3,0),(1,0),(0,0),(2,0),(0,0),(4,0),(1,0),(0,0)] 0]) (K2 := [.blk 2,.code [(3,0),(1,0),(0,0),(2,0),(0,0)] 5,.blk 1,.code [(3,0),(1,0),(0,0)] 3]) (fun (v19,v20) => ⟨[(1,.ptr 1 0),(2,.ptr 2 0),(3,.ptr 3 0),(4,.i v2),(6,.i (1 : Int)),(7,.sl 34 0),(21,.list (.intss a0)),(22,.i (a0.length : Int)),(23,.i v2),(35,.list (.ints (a0.getD v2.toNat []))),(36,.i ((a0.getD v2.toNat []).length : Int)),(37,.i v19)],[(1,.box [.list (.intss a0),.list (.ints a1),.list (.rats a2)]),(2,.box [.sl 1100 0,.sl 1101 0,.i 0]),(3,.box [.sl 1104 0,.sl 1105 0,.i (a2.length : Int)]),(34,.arr 31 0 0 (.rats v20)),(1100,.arr 26 0 0 (.ratss [])),(1101,.arr 3 0 0 (.ints [])),(1104,.arr 26 0 0 (.ratss v3)),(1105,.arr 3 0 0 (.ints v4))]⟩) (fun x e σ' => match x with | v23 => e = .exit 2 ∧ σ' = ⟨[(1,.ptr 1 0),(2,.ptr 2 0),(3,.ptr 3 0),(4,.i v2),(6,.i (1 : Int)),(7,.sl 34 0),(21,.list (.intss a0)),(22,.i (a0.length : Int)),(23,.i v2)],[(1,.box [.list (.intss a0),.list (.ints a1),.list (.rats a2)]),(2,.box [.sl 1100 0,.sl 1101 0,.i 0]),(3,.box [.sl 1104 0,.sl 1105 0,.i (a2.length : Int)]),(34,.arr 31 0 0 (.rats v23)),(1100,.arr 26 0 0 (.ratss [])),(1101,.arr 3 0 0 (.ints [])),(1104,.arr 26 0 0 (.ratss v3)),(1105,.arr 3 0 0 (.ints v4))]⟩) hk28 rfl rfl ?_ ?_
     ·intro s x hs
      clear h
      have h := hs
      clear hs
      obtain ⟨v19,v20⟩ := s
      refine Tri.f 1 [] [.keep [1,2,3,4,6,7,21,22,23,35,36,37,38] [1,2,3,34,1100,1101,1104,1105]] rfl trivial ?_
      rcases bif_some h with ⟨hd24,h⟩ | ⟨hd24,h⟩
      ·obtain ⟨hg25,h⟩ := grd_some h
       refine Tri.f 2 [.g true] [.keep [1,2,3,4,6,7,9,21,22,23,35,36,37] [1,2,3,34,1100,1101,1104,1105]] rfl ⟨hg25,hd24,trivial⟩ ?_
       obtain ⟨⟨v21,v22⟩,hk26,h⟩ := bind_some h
       obtain ⟨hg27,h⟩ := grd_some h
       refine Tri.f 2 [.v (.agg [.i v21,.i v22])] [.rever 34,.keep [1,2,3,4,6,7,21,22,23,35,36,37] [1,2,3,34,1100,1101,1104,1105]] rfl ⟨hg27,fun _ => W27 (IntKind.i64.wrap ((1 : Int) * ((a0.getD v2.toNat []).getD v19.toNat 0))) (v21,v22) hk26,trivial⟩ ?_
       cases h
       exact Tri.nil ⟨rfl,rfl⟩
      ·refine Tri.f 1 [.g false] [.keep [1,2,3,4,6,7,21,22,23] [1,2,3,34,1100,1101,1104,1105]] rfl ⟨hd24,trivial⟩ ?_
       cases h
       exact Tri.out 2 rfl ⟨nofun,rfl,rfl⟩
     ·intro e σ' hne hq
      obtain ⟨rfl,rfl⟩ := hq
      refine TriX.exit (K' := [.code [(3,0),(1,0),(0,0),(2,0),(0,0)] 5,.blk 1,.code [(3,0),(1,0),(0,0)] 3]) rfl ?_
      refine Tri.f 1 [] [.keep [1,2,3,4,6,7,21,22,23,51,52] [1,2,3,34,1100,1101,1104,1105]] rfl trivial ?_
      obtain ⟨v30,hk35,h⟩ := bind_some h
      refine Tri.loop (K1 := [.code [(3,0),(1,0),(0,0),(2,0),(0,0),(5,0),(1,0),(0,0)] 0]) (K2 := [.blk 4,.code [(3,0),(1,0),(0,0),(2,0),(0,0)] 6,.blk 1,.code [(3,0),(1,0),(0,0)] 3]) (fun (v24,v25) => ⟨[(1,.ptr 1 0),(2,.ptr 2 0),(3,.ptr 3 0),(4,.i v2),(6,.i (1 : Int)),(7,.sl 34 0),(21,.list (.intss a0)),(22,.i (a0.length : Int)),(23,.i v2),(51,.i (a0.length : Int)),(52,.i v24)],[(1,.box [.list (.intss a0),.list (.ints a1),.list (.rats a2)]),(2,.box [.sl 1100 0,.sl 1101 0,.i 0]),(3,.box [.sl 1104 0,.sl 1105 0,.i (a2.length : Int)]),(34,.arr 31 0 0 (.rats v25)),(1100,.arr 26 0 0 (.ratss [])),(1101,.arr 3 0 0 (.ints [])),(1104,.arr 26 0 0 (.ratss v3)),(1105,.arr 3 0 0 (.ints v4))]⟩) (fun x e σ' => match x with | v30 => e = .exit 4 ∧ σ' = ⟨[(1,.ptr 1 0),(2,.ptr 2 0),(3,.ptr 3 0),(4,.i v2),(6,.i (1 : Int)),(7,.sl 34 0),(21,.list (.intss a0)),(22,.i (a0.length : Int)),(23,.i v2)],[(1,.box [.list (.intss a0),.list (.ints a1),.list (.rats a2)]),(2,.box [.sl 1100 0,.sl 1101 0,.i 0]),(3,.box [.sl 1104 0,.sl 1105 0,.i (a2.length : Int)]),(34,.arr 31 0 0 (.rats v30)),(1100,.arr 26 0 0 (.ratss [])),(1101,.arr 3 0 0 (.ints [])),(1104,.arr 26 0 0 (.ratss v3)),(1105,.arr 3 0 0 (.ints v4))]⟩) hk35 rfl rfl ?_ ?_
      ·intro s x hs
       clear h
       have h := hs
       clear hs
       obtain ⟨v24,v25⟩ := s
       refine Tri.f 1 [] [.keep [1,2,3,4,6,7,21,22,23,51,52,53] [1,2,3,34,1100,1101,1104,1105]] rfl trivial ?_
       rcases bif_some h with ⟨hd29,h⟩ | ⟨hd29,h⟩
       ·refine Tri.f 3 [.g true] [.keep [1,2,3,4,6,7,10,11,21,22,23,51,52] [1,2,3,34,1100,1101,1104,1105]] rfl ⟨hd29,trivial⟩ ?_
        refine Tri.f 1 [] [.keep [1,2,3,4,6,7,11,21,22,23,51,52,57] [1,2,3,34,1100,1101,1104,1105]] rfl trivial ?_
        rcases bif_some h with ⟨hd30,h⟩ | ⟨hd30,h⟩
        ·refine Tri.f 2 [.g true] [.keep [1,2,3,4,6,7,11,21,22,23,51,52] [1,2,3,34,1100,1101,1104,1105]] rfl ⟨hd30,trivial⟩ ?_
         obtain ⟨⟨v26,v27⟩,hk31,h⟩ := bind_some h
         obtain ⟨hg32,h⟩ := grd_some h
         refine Tri.f 2 [.v (.agg [.i v26,.i v27])] [.rever 34,.keep [1,2,3,4,6,7,21,22,23,51,52] [1,2,3,34,1100,1101,1104,1105]] rfl ⟨hg32,fun _ => W27 (1 : Int) (v26,v27) hk31,trivial⟩ ?_
         cases h
         exact Tri.nil ⟨rfl,rfl⟩
        ·obtain ⟨⟨v28,v29⟩,hk33,h⟩ := bind_some h
         obtain ⟨hg34,h⟩ := grd_some h
         refine Tri.f 3 [.g false,.v (.agg [.i v28,.i v29])] [.rever 34,.keep [1,2,3,4,6,7,21,22,23,51,52] [1,2,3,34,1100,1101,1104,1105]] rfl ⟨hg34,fun _ => W27 (0 : Int) (v28,v29) hk33,hd30,trivial⟩ ?_
         cases h
         exact Tri.nil ⟨rfl,rfl⟩
       ·refine Tri.f 1 [.g false] [.keep [1,2,3,4,6,7,21,22,23] [1,2,3,34,1100,1101,1104,1105]] rfl ⟨hd29,trivial⟩ ?_
        cases h
        exact Tri.out 4 rfl ⟨nofun,rfl,rfl⟩
      ·intro e σ' hne hq
       obtain ⟨rfl,rfl⟩ := hq
       refine TriX.exit (K' := [.code [(3,0),(1,0),(0,0),(2,0),(0,0)] 6,.blk 1,.code [(3,0),(1,0),(0,0)] 3]) rfl ?_
       obtain ⟨hg36,h⟩ := grd_some h
       obtain ⟨⟨v31,v32⟩,hk37,h⟩ := bind_some h
       obtain ⟨hg38,h⟩ := grd_some h
       obtain ⟨hg39,h⟩ := grd_some h
       obtain ⟨hg40,h⟩ := grd_some h
       refine Tri.f 3 [.v (.agg [.i v31,.i v32])] [.rever 1104,.rever 1105,.keep [1,2,3,21,22,23] [1,2,3,1100,1101,1104,1105]] rfl ⟨hg40,hg39,hg38,fun _ => W27 (IntKind.i64.wrap ((1 : Int) * (a1.getD v2.toNat 0))) (v31,v32) hk37,hg36,trivial⟩ ?_
       cases h
       exact Tri.nil ⟨rfl,rfl⟩
   ·refine Tri.f 1 [.g false] [.keep [2,3] [2,3,1100,1101,1104,1105]] rfl ⟨hd3,trivial⟩ ?_
    cases h
    exact Tri.out 0 rfl ⟨nofun,rfl,rfl⟩
  ·intro e σ' hne hq
   obtain ⟨v33,v34⟩ := x5
   obtain ⟨rfl,rfl⟩ := hq
   refine TriX.exit (K' := [.code [] 4]) rfl ?_
   refine Tri.f 1 [] [.swap 1104 1000,.swap 1105 1001,.keep [2] [2,1000,1001]] rfl trivial ?_
   cases h
   exact Tri.ret rfl ⟨.inl rfl,rfl,rfl⟩
noncomputable def E266 : Env := ⟨Tryz.prog,tys,(Tryz.f94.body).getD .skip,24,tysOk,mixedOk⟩
abbrev K147 (r : Bool × (List Q)) (σ' : ASt) : Prop := isRes E266.T Tryz.f94 (.tuple [.sl 1000 0,.bool r.1]) [(1000,.arr 31 0 0 (.rats r.2))] σ'
noncomputable def l_impl_IntsToRats_0 (a0 : List Int) : (Int × (List Q)) → Option ((Int × (List Q)) ⊕ ((List Q) ⊕ ((Bool × (List Q)))))
 | (v1,v2) => (
bif decide (v1 < (a0.length : Int)) then
(grd (0 ≤ v1 ∧ v1 < (a0.length : Int)) <|
(m_impl_within (a0.getD v1.toNat 0) (-1000000000 : Int) (1000000000 : Int)).bind fun v3 =>
bif !v3 then
(some (.inr (.inr (false,[]))))
else
((m_impl_whole (a0.getD v1.toNat 0)).bind fun (v4,v5) =>
grd (v2.length + ([⟨v4,v5⟩] : List Q).length ≤ room) <|
some (.inl (IntKind.i64.wrap (v1 + 1),v2 ++ [⟨v4,v5⟩]))))
else
(some (.inr (.inl v2))))
noncomputable def m_impl_IntsToRats (a0 : List Int) : Option (Bool × (List Q)) :=
(iter (l_impl_IntsToRats_0 a0) ((0 : Int),[])).bind fun
| (.inl v6) => (
some (true,v6))
| (.inr r) => some r
theorem W29 (a0 : List Int) (r : Bool × (List Q)) (h : m_impl_IntsToRats a0 = some r) : AM.Spec Tryz.prog 94 [.list (.ints a0)] [] (.tuple [.sl 1000 0,.bool r.1]) [(1000,.arr 31 0 0 (.rats r.2))] := by
 refine spec_of (E := E266) Tryz.func94 rfl rfl rfl rfl ?_
 refine Tri.f 3 [] [.keep [4,8,9,10] [7]] rfl trivial ?_
 obtain ⟨x1,hk7,h⟩ := bind_some h
 refine Tri.loop (K1 := [.code [(2,0),(1,0),(0,0)] 0]) (K2 := [.blk 0,.code [] 3]) (fun (v1,v2) => ⟨[(4,.sl 7 0),(8,.list (.ints a0)),(9,.i (a0.length : Int)),(10,.i v1)],[(7,.arr 31 0 0 (.rats v2))]⟩) (fun x e σ' => match x with | (.inl v6) => e = .exit 0 ∧ σ' = ⟨[(4,.sl 7 0)],[(7,.arr 31 0 0 (.rats v6))]⟩ | (.inr r) => e = .ret ∧ K147 r σ') hk7 rfl rfl ?_ ?_
 ·intro s x hs
  clear h
  have h := hs
  clear hs
  obtain ⟨v1,v2⟩ := s
  refine Tri.f 1 [] [.keep [4,8,9,10,11] [7]] rfl trivial ?_
  rcases bif_some h with ⟨hd1,h⟩ | ⟨hd1,h⟩
  ·obtain ⟨hg2,h⟩ := grd_some h
   refine Tri.f 2 [.g true] [.keep [4,6,8,9,10] [7]] rfl ⟨hg2,hd1,trivial⟩ ?_
   obtain ⟨v3,hk3,h⟩ := bind_some h
   refine Tri.f 1 [.v (.bool v3)] [.keep [4,6,8,9,10,16] [7]] rfl ⟨fun _ => W16 (a0.getD v1.toNat 0) (-1000000000 : Int) (1000000000 : Int) v3 hk3,trivial⟩ ?_
   rcases bif_some h with ⟨hd4,h⟩ | ⟨hd4,h⟩
   ·refine Tri.f 2 [.g true] [.own 2 [] 1100 31,.swap 1100 1000,.keep [2,3] [1000]] rfl ⟨hd4,trivial⟩ ?_
    cases h
    exact Tri.ret rfl ⟨nofun,rfl,rfl,rfl⟩
   ·obtain ⟨⟨v4,v5⟩,hk5,h⟩ := bind_some h
    obtain ⟨hg6,h⟩ := grd_some h
    refine Tri.f 3 [.g false,.v (.agg [.i v4,.i v5])] [.rever 7,.keep [4,8,9,10] [7]] rfl ⟨hg6,fun _ => W27 (a0.getD v1.toNat 0) (v4,v5) hk5,hd4,trivial⟩ ?_
    cases h
    exact Tri.nil ⟨rfl,rfl⟩
  ·refine Tri.f 1 [.g false] [.keep [4] [7]] rfl ⟨hd1,trivial⟩ ?_
   cases h
   exact Tri.out 0 rfl ⟨nofun,rfl,rfl⟩
 ·intro e σ' hne hq
  rcases x1 with v6 | r
  ·obtain ⟨rfl,rfl⟩ := hq
   refine TriX.exit (K' := [.code [] 3]) rfl ?_
   refine Tri.f 1 [] [.swap 7 1000,.keep [2,3] [1000]] rfl trivial ?_
   cases h
   exact Tri.ret rfl ⟨.inl rfl,rfl,rfl⟩
  ·obtain ⟨rfl,hq⟩ := hq
   cases h
   exact TriX.ret ⟨.inl rfl,hq⟩
noncomputable def E267 : Env := ⟨Tryz.prog,tys,(Tryz.f46.body).getD .skip,11,tysOk,mixedOk⟩
abbrev K148 (r : List Q) (σ' : ASt) : Prop := isRes E267.T Tryz.f46 (.sl 1000 0) [(1000,.arr 31 0 0 (.rats r))] σ'
noncomputable def m_impl_rats (a0 : List Int) : Option (List Q) :=
(m_impl_IntsToRats a0).bind fun (_,v2) =>
some v2
theorem W30 (a0 : List Int) (r : List Q) (h : m_impl_rats a0 = some r) : AM.Spec Tryz.prog 46 [.list (.ints a0)] [] (.sl 1000 0) [(1000,.arr 31 0 0 (.rats r))] := by
 refine spec_of (E := E267) Tryz.func46 rfl rfl rfl rfl ?_
 refine Tri.f 1 [] [.keep [0] []] rfl trivial ?_
 obtain ⟨⟨v1,v2⟩,hk1,h⟩ := bind_some h
 refine Tri.f 2 [.r ⟨[],.tuple [.sl 1100 0,.bool v1],[(1100,.arr 31 0 0 (.rats v2))]⟩] [.swap 1100 1000,.keep [2] [1000]] rfl ⟨fun _ => (W29 a0 (v1,v2) hk1).swap 1000 1100,trivial⟩ ?_
 cases h
 exact Tri.ret rfl ⟨.inl rfl,rfl,rfl⟩
noncomputable def E268 : Env := ⟨Tryz.prog,tys,(Tryz.f62.body).getD .skip,21,tysOk,mixedOk⟩
abbrev K149 (r : List Q) (σ' : ASt) : Prop := isRes E268.T Tryz.f62 (.sl 1000 0) [(1000,.arr 31 0 0 (.rats r))] σ'
noncomputable def l_impl_costsOf_0 (a1 a2 : Int) : (Int × (List Q)) → Option ((Int × (List Q)) ⊕ ((List Q)))
 | (v1,v2) => (
bif decide (v1 < a2) then
((m_impl_whole a1).bind fun (v3,v4) =>
grd (v2.length + ([⟨v3,v4⟩] : List Q).length ≤ room) <|
some (.inl (IntKind.i64.wrap (v1 + 1),v2 ++ [⟨v3,v4⟩])))
else
(some (.inr v2)))
noncomputable def m_impl_costsOf (a0 : List Q) (a1 a2 : Int) : Option (List Q) :=
grd (([] : List Q).length + a0.length ≤ room) <|
(iter (l_impl_costsOf_0 a1 a2) ((0 : Int),[] ++ a0)).bind fun
| v5 => (
some v5)
theorem W31 (a0 : List Q) (a1 a2 : Int) (r : List Q) (h : m_impl_costsOf a0 a1 a2 = some r) : AM.Spec Tryz.prog 62 [.list (.rats a0),.i a1,.i a2] [] (.sl 1000 0) [(1000,.arr 31 0 0 (.rats r))] := by
 refine spec_of (E := E268) Tryz.func62 rfl rfl rfl rfl ?_
 obtain ⟨hg1,h⟩ := grd_some h
 refine Tri.f 3 [] [.rever 8,.keep [1,7,11,12] [8]] rfl ⟨hg1,trivial⟩ ?_
 obtain ⟨v5,hk5,h⟩ := bind_some h
 refine Tri.loop (K1 := [.code [(2,0),(1,0),(0,0)] 0]) (K2 := [.blk 0,.code [] 3]) (fun (v1,v2) => ⟨[(1,.i a1),(7,.sl 8 0),(11,.i a2),(12,.i v1)],[(8,.arr 31 0 0 (.rats v2))]⟩) (fun x e σ' => match x with | v5 => e = .exit 0 ∧ σ' = ⟨[(7,.sl 8 0)],[(8,.arr 31 0 0 (.rats v5))]⟩) hk5 rfl rfl ?_ ?_
 ·intro s x hs
  clear h
  have h := hs
  clear hs
  obtain ⟨v1,v2⟩ := s
  refine Tri.f 1 [] [.keep [1,7,11,12,13] [8]] rfl trivial ?_
  rcases bif_some h with ⟨hd2,h⟩ | ⟨hd2,h⟩
  ·obtain ⟨⟨v3,v4⟩,hk3,h⟩ := bind_some h
   obtain ⟨hg4,h⟩ := grd_some h
   refine Tri.f 3 [.g true,.v (.agg [.i v3,.i v4])] [.rever 8,.keep [1,7,11,12] [8]] rfl ⟨hg4,fun _ => W27 a1 (v3,v4) hk3,hd2,trivial⟩ ?_
   cases h
   exact Tri.nil ⟨rfl,rfl⟩
  ·refine Tri.f 1 [.g false] [.keep [7] [8]] rfl ⟨hd2,trivial⟩ ?_
   cases h
   exact Tri.out 0 rfl ⟨nofun,rfl,rfl⟩
 ·intro e σ' hne hq
  obtain ⟨rfl,rfl⟩ := hq
  refine TriX.exit (K' := [.code [] 3]) rfl ?_
  refine Tri.f 1 [] [.swap 8 1000,.keep [6] [1000]] rfl trivial ?_
  cases h
  exact Tri.ret rfl ⟨.inl rfl,rfl,rfl⟩
noncomputable def E269 : Env := ⟨Tryz.prog,tys,(Tryz.f86.body).getD .skip,13,tysOk,mixedOk⟩
abbrev K150 (r : Bool) (σ' : ASt) : Prop := isRes E269.T Tryz.f86 (.bool r) [] σ'
noncomputable def m_impl_formed_1 (a0 : Int) (_a1 : List (List Q)) (_a2 : List Int) (a3 a4 : Int) : Option Bool :=
(m_impl_within a0 (0 : Int) (IntKind.i64.wrap ((IntKind.i64.wrap (a3 + a4)) - 1))).bind fun v1 =>
some (!v1)
theorem W32 (a0 : Int) (a1 : List (List Q)) (a2 : List Int) (a3 a4 : Int) (r : Bool) (h : m_impl_formed_1 a0 a1 a2 a3 a4 = some r) : AM.Spec Tryz.prog 86 [.i a0,.pbox [.list (.ratss a1),.list (.ints a2),.i a3] 0,.pbox [.i a4] 0] [] (.bool r) [] := by
 refine spec_of (E := E269) Tryz.func86 rfl rfl rfl rfl ?_
 refine Tri.f 1 [] [.keep [0,1,2] []] rfl trivial ?_
 obtain ⟨v1,hk1,h⟩ := bind_some h
 refine Tri.f 1 [.v (.bool v1)] [.keep [4] []] rfl ⟨fun _ => W16 a0 (0 : Int) (IntKind.i64.wrap ((IntKind.i64.wrap (a3 + a4)) - 1)) v1 hk1,trivial⟩ ?_
 cases h
 exact Tri.ret rfl ⟨.inl rfl,rfl,rfl⟩
abbrev K151 (r : Int) (σ' : ASt) : Prop := isRes E261.T Tryz.f81 (.i r) [] σ'
noncomputable def l_slices_IndexFunc_int_int_impl_formed_1_0 (a0 : List Int) (a1 : List (List Q)) (a2 : List Int) (a3 a4 v1 : Int) : Option (Int ⊕ (Unit ⊕ Int)) :=
bif decide (v1 < (a0.length : Int)) then
(grd (0 ≤ v1 ∧ v1 < (a0.length : Int)) <|
(m_impl_formed_1 (a0.getD v1.toNat 0) a1 a2 a3 a4).bind fun v2 =>
bif v2 then
(some (.inr (.inr v1)))
else
(some (.inl (IntKind.i64.wrap (v1 + 1)))))
else
(some (.inr (.inl ())))
noncomputable def m_slices_IndexFunc_int_int_impl_formed_1 (a0 : List Int) (a1 : List (List Q)) (a2 : List Int) (a3 a4 : Int) : Option Int :=
(iter (l_slices_IndexFunc_int_int_impl_formed_1_0 a0 a1 a2 a3 a4) (0 : Int)).bind fun
| (.inl _) => (
some (-1 : Int))
| (.inr r) => some r
theorem W33 (a0 : List Int) (a1 : List (List Q)) (a2 : List Int) (a3 a4 r : Int) (h : m_slices_IndexFunc_int_int_impl_formed_1 a0 a1 a2 a3 a4 = some r) : AM.Spec Tryz.prog 81 [.list (.ints a0),.func 86 [] [.pbox [.list (.ratss a1),.list (.ints a2),.i a3] 0,.pbox [.i a4] 0]] [] (.i r) [] := by
 refine spec_of (E := E261) Tryz.func81 rfl rfl rfl rfl ?_
 refine Tri.f 2 [] [.keep [0,1,7,8] []] rfl trivial ?_
 obtain ⟨x1,hk5,h⟩ := bind_some h
 refine Tri.loop (K1 := [.code [(1,0),(1,0),(0,0)] 0]) (K2 := [.blk 0,.code [] 2]) (fun v1 => ⟨[(0,.list (.ints a0)),(1,.func 86 [] [.pbox [.list (.ratss a1),.list (.ints a2),.i a3] 0,.pbox [.i a4] 0]),(7,.i (a0.length : Int)),(8,.i v1)],[]⟩) (fun x e σ' => match x with | (.inl _) => e = .exit 0 ∧ σ' = ⟨[],[]⟩ | (.inr r) => e = .ret ∧ K151 r σ') hk5 rfl rfl ?_ ?_
 ·intro v1 x hs
  clear h
  have h := hs
  clear hs
  refine Tri.f 1 [] [.keep [0,1,7,8,9] []] rfl trivial ?_
  rcases bif_some h with ⟨hd1,h⟩ | ⟨hd1,h⟩
  ·refine Tri.f 2 [.g true] [.keep [0,1,5,7,8] []] rfl ⟨hd1,trivial⟩ ?_
   obtain ⟨hg2,h⟩ := grd_some h
   obtain ⟨v2,hk3,h⟩ := bind_some h
   refine Tri.f 1 [.v (.bool v2)] [.keep [0,1,5,7,8,16] []] rfl ⟨fun _ => W32 (a0.getD v1.toNat 0) a1 a2 a3 a4 v2 hk3,hg2,trivial⟩ ?_
   rcases bif_some h with ⟨hd4,h⟩ | ⟨hd4,h⟩
   ·refine Tri.f 2 [.g true] [.keep [4] []] rfl ⟨hd4,trivial⟩ ?_
    cases h
    exact Tri.ret rfl ⟨nofun,rfl,rfl,rfl⟩
   ·refine Tri.f 2 [.g false] [.keep [0,1,7,8] []] rfl ⟨hd4,trivial⟩ ?_
    cases h
    exact Tri.nil ⟨rfl,rfl⟩
  ·refine Tri.f 1 [.g false] [.keep [] []] rfl ⟨hd1,trivial⟩ ?_
   cases h
   exact Tri.out 0 rfl ⟨nofun,rfl,rfl⟩
 ·intro e σ' hne hq
  rcases x1 with _ | r
  ·obtain ⟨rfl,rfl⟩ := hq
   refine TriX.exit (K' := [.code [] 2]) rfl ?_
   refine Tri.f 1 [] [.keep [4] []] rfl trivial ?_
   cases h
   exact Tri.ret rfl ⟨.inl rfl,rfl,rfl⟩
  ·obtain ⟨rfl,hq⟩ := hq
   cases h
   exact TriX.ret ⟨.inl rfl,hq⟩
abbrev K152 (r : Bool) (σ' : ASt) : Prop := isRes E262.T Tryz.f29 (.bool r) [] σ'
noncomputable def m_slices_ContainsFunc_int_int_impl_formed_1 (a0 : List Int) (a1 : List (List Q)) (a2 : List Int) (a3 a4 : Int) : Option Bool :=
(m_slices_IndexFunc_int_int_impl_formed_1 a0 a1 a2 a3 a4).bind fun v1 =>
some (decide (v1 ≥ 0))
theorem W34 (a0 : List Int) (a1 : List (List Q)) (a2 : List Int) (a3 a4 : Int) (r : Bool) (h : m_slices_ContainsFunc_int_int_impl_formed_1 a0 a1 a2 a3 a4 = some r) : AM.Spec Tryz.prog 29 [.list (.ints a0),.func 86 [] [.pbox [.list (.ratss a1),.list (.ints a2),.i a3] 0,.pbox [.i a4] 0]] [] (.bool r) [] := by
 refine spec_of (E := E262) Tryz.func29 rfl rfl rfl rfl ?_
 refine Tri.f 1 [] [.keep [0,1] []] rfl trivial ?_
 obtain ⟨v1,hk1,h⟩ := bind_some h
 refine Tri.f 1 [.v (.i v1)] [.keep [4] []] rfl ⟨fun _ => W33 a0 a1 a2 a3 a4 v1 hk1,trivial⟩ ?_
 cases h
 exact Tri.ret rfl ⟨.inl rfl,rfl,rfl⟩
noncomputable def E270 : Env := ⟨Tryz.prog,tys,(Tryz.f88.body).getD .skip,13,tysOk,mixedOk⟩
abbrev K153 (r : Bool) (σ' : ASt) : Prop := isRes E270.T Tryz.f88 (.bool r) [] σ'
noncomputable def m_impl_formed_2 (a0 : List Q) (_a1 : List (List Q)) (_a2 : List Int) (a3 a4 : Int) : Option Bool :=
some ((a0.length : Int) != (IntKind.i64.wrap ((IntKind.i64.wrap (a3 + a4)) + 1)))
theorem W35 (a0 : List Q) (a1 : List (List Q)) (a2 : List Int) (a3 a4 : Int) (r : Bool) (h : m_impl_formed_2 a0 a1 a2 a3 a4 = some r) : AM.Spec Tryz.prog 88 [.list (.rats a0),.pbox [.list (.ratss a1),.list (.ints a2),.i a3] 0,.pbox [.i a4] 0] [] (.bool r) [] := by
 refine spec_of (E := E270) Tryz.func88 rfl rfl rfl rfl ?_
 refine Tri.f 2 [] [.keep [4] []] rfl trivial ?_
 cases h
 exact Tri.ret rfl ⟨.inl rfl,rfl,rfl⟩
noncomputable def E271 : Env := ⟨Tryz.prog,tys,(Tryz.f109.body).getD .skip,19,tysOk,mixedOk⟩
abbrev K154 (r : Int) (σ' : ASt) : Prop := isRes E271.T Tryz.f109 (.i r) [] σ'
noncomputable def l_slices_IndexFunc_impl_Rat_impl_Rat_impl_formed_2_0 (a0 a1 : List (List Q)) (a2 : List Int) (a3 a4 v1 : Int) : Option (Int ⊕ (Unit ⊕ Int)) :=
bif decide (v1 < (a0.length : Int)) then
(grd (0 ≤ v1 ∧ v1 < (a0.length : Int)) <|
(m_impl_formed_2 (a0.getD v1.toNat []) a1 a2 a3 a4).bind fun v2 =>
bif v2 then
(some (.inr (.inr v1)))
else
(some (.inl (IntKind.i64.wrap (v1 + 1)))))
else
(some (.inr (.inl ())))
noncomputable def m_slices_IndexFunc_impl_Rat_impl_Rat_impl_formed_2 (a0 a1 : List (List Q)) (a2 : List Int) (a3 a4 : Int) : Option Int :=
(iter (l_slices_IndexFunc_impl_Rat_impl_Rat_impl_formed_2_0 a0 a1 a2 a3 a4) (0 : Int)).bind fun
| (.inl _) => (
some (-1 : Int))
| (.inr r) => some r
theorem W36 (a0 a1 : List (List Q)) (a2 : List Int) (a3 a4 r : Int) (h : m_slices_IndexFunc_impl_Rat_impl_Rat_impl_formed_2 a0 a1 a2 a3 a4 = some r) : AM.Spec Tryz.prog 109 [.list (.ratss a0),.func 88 [] [.pbox [.list (.ratss a1),.list (.ints a2),.i a3] 0,.pbox [.i a4] 0]] [] (.i r) [] := by
 refine spec_of (E := E271) Tryz.func109 rfl rfl rfl rfl ?_
 refine Tri.f 2 [] [.keep [0,1,7,8] []] rfl trivial ?_
 obtain ⟨x1,hk5,h⟩ := bind_some h
 refine Tri.loop (K1 := [.code [(1,0),(1,0),(0,0)] 0]) (K2 := [.blk 0,.code [] 2]) (fun v1 => ⟨[(0,.list (.ratss a0)),(1,.func 88 [] [.pbox [.list (.ratss a1),.list (.ints a2),.i a3] 0,.pbox [.i a4] 0]),(7,.i (a0.length : Int)),(8,.i v1)],[]⟩) (fun x e σ' => match x with | (.inl _) => e = .exit 0 ∧ σ' = ⟨[],[]⟩ | (.inr r) => e = .ret ∧ K154 r σ') hk5 rfl rfl ?_ ?_
 ·intro v1 x hs
  clear h
  have h := hs
  clear hs
  refine Tri.f 1 [] [.keep [0,1,7,8,9] []] rfl trivial ?_
  rcases bif_some h with ⟨hd1,h⟩ | ⟨hd1,h⟩
  ·refine Tri.f 2 [.g true] [.keep [0,1,5,7,8] []] rfl ⟨hd1,trivial⟩ ?_
   obtain ⟨hg2,h⟩ := grd_some h
   obtain ⟨v2,hk3,h⟩ := bind_some h
   refine Tri.f 1 [.v (.bool v2)] [.keep [0,1,5,7,8,16] []] rfl ⟨fun _ => W35 (a0.getD v1.toNat []) a1 a2 a3 a4 v2 hk3,hg2,trivial⟩ ?_
   rcases bif_some h with ⟨hd4,h⟩ | ⟨hd4,h⟩
   ·refine Tri.f 2 [.g true] [.keep [4] []] rfl ⟨hd4,trivial⟩ ?_
    cases h
    exact Tri.ret rfl ⟨nofun,rfl,rfl,rfl⟩
   ·refine Tri.f 2 [.g false] [.keep [0,1,7,8] []] rfl ⟨hd4,trivial⟩ ?_
    cases h
    exact Tri.nil ⟨rfl,rfl⟩
  ·refine Tri.f 1 [.g false] [.keep [] []] rfl ⟨hd1,trivial⟩ ?_
   cases h
   exact Tri.out 0 rfl ⟨nofun,rfl,rfl⟩
 ·intro e σ' hne hq
  rcases x1 with _ | r
  ·obtain ⟨rfl,rfl⟩ := hq
   refine TriX.exit (K' := [.code [] 2]) rfl ?_
   refine Tri.f 1 [] [.keep [4] []] rfl trivial ?_
   cases h
   exact Tri.ret rfl ⟨.inl rfl,rfl,rfl⟩
  ·obtain ⟨rfl,hq⟩ := hq
   cases h
   exact TriX.ret ⟨.inl rfl,hq⟩
noncomputable def E272 : Env := ⟨Tryz.prog,tys,(Tryz.f87.body).getD .skip,9,tysOk,mixedOk⟩
abbrev K155 (r : Bool) (σ' : ASt) : Prop := isRes E272.T Tryz.f87 (.bool r) [] σ'
noncomputable def m_slices_ContainsFunc_impl_Rat_impl_Rat_impl_formed_2 (a0 a1 : List (List Q)) (a2 : List Int) (a3 a4 : Int) : Option Bool :=
(m_slices_IndexFunc_impl_Rat_impl_Rat_impl_formed_2 a0 a1 a2 a3 a4).bind fun v1 =>
some (decide (v1 ≥ 0))
theorem W37 (a0 a1 : List (List Q)) (a2 : List Int) (a3 a4 : Int) (r : Bool) (h : m_slices_ContainsFunc_impl_Rat_impl_Rat_impl_formed_2 a0 a1 a2 a3 a4 = some r) : AM.Spec Tryz.prog 87 [.list (.ratss a0),.func 88 [] [.pbox [.list (.ratss a1),.list (.ints a2),.i a3] 0,.pbox [.i a4] 0]] [] (.bool r) [] := by
 refine spec_of (E := E272) Tryz.func87 rfl rfl rfl rfl ?_
 refine Tri.f 1 [] [.keep [0,1] []] rfl trivial ?_
 obtain ⟨v1,hk1,h⟩ := bind_some h
 refine Tri.f 1 [.v (.i v1)] [.keep [4] []] rfl ⟨fun _ => W36 a0 a1 a2 a3 a4 v1 hk1,trivial⟩ ?_
 cases h
 exact Tri.ret rfl ⟨.inl rfl,rfl,rfl⟩
noncomputable def E273 : Env := ⟨Tryz.prog,tys,(Tryz.f37.body).getD .skip,27,tysOk,mixedOk⟩
abbrev K156 (r : Bool) (σ' : ASt) : Prop := isRes E273.T Tryz.f37 (.bool r) [] σ'
noncomputable def m_impl_formed (a0 : List (List Q)) (a1 : List Int) (a2 : Int) : Option Bool :=
(m_impl_within a2 (0 : Int) (1000 : Int)).bind fun v1 =>
bif !v1 then
(some false)
else
(bif (a1.length : Int) != (a0.length : Int) then
(some false)
else
((m_slices_ContainsFunc_int_int_impl_formed_1 a1 a0 a1 a2 (a0.length : Int)).bind fun v2 =>
bif v2 then
(some false)
else
((m_slices_ContainsFunc_impl_Rat_impl_Rat_impl_formed_2 a0 a0 a1 a2 (a0.length : Int)).bind fun v3 =>
some (!v3))))
theorem W38 (a0 : List (List Q)) (a1 : List Int) (a2 : Int) (r : Bool) (h : m_impl_formed a0 a1 a2 = some r) : AM.Spec Tryz.prog 37 [.agg [.list (.ratss a0),.list (.ints a1),.i a2]] [] (.bool r) [] := by
 refine spec_of (E := E273) Tryz.func37 rfl rfl rfl rfl ?_
 refine Tri.f 2 [] [.keep [1,3] [1,3]] rfl trivial ?_
 obtain ⟨v1,hk1,h⟩ := bind_some h
 rcases bif_some h with ⟨hd2,h⟩ | ⟨hd2,h⟩
 ·refine Tri.f 1 [.v (.bool v1),.g true] [.keep [1,3,17] [1,3]] rfl ⟨hd2,fun _ => W16 a2 (0 : Int) (1000 : Int) v1 hk1,trivial⟩ ?_
  refine Tri.f 2 [.g true] [.keep [2] []] rfl ⟨rfl,trivial⟩ ?_
  cases h
  exact Tri.ret rfl ⟨.inl rfl,rfl,rfl⟩
 ·refine Tri.f 1 [.v (.bool v1),.g false] [.keep [1,3,17] [1,3]] rfl ⟨hd2,fun _ => W16 a2 (0 : Int) (1000 : Int) v1 hk1,trivial⟩ ?_
  rcases bif_some h with ⟨hd3,h⟩ | ⟨hd3,h⟩
  ·refine Tri.f 2 [.g true] [.keep [2] []] rfl ⟨hd3,trivial⟩ ?_
   cases h
   exact Tri.ret rfl ⟨.inl rfl,rfl,rfl⟩
  ·obtain ⟨v2,hk4,h⟩ := bind_some h
   refine Tri.f 2 [.g false,.v (.bool v2)] [.keep [1,3,21] [1,3]] rfl ⟨fun _ => W34 a1 a0 a1 a2 (a0.length : Int) v2 hk4,hd3,trivial⟩ ?_
   rcases bif_some h with ⟨hd5,h⟩ | ⟨hd5,h⟩
   ·refine Tri.f 2 [.g true] [.keep [2] []] rfl ⟨hd5,trivial⟩ ?_
    cases h
    exact Tri.ret rfl ⟨.inl rfl,rfl,rfl⟩
   ·obtain ⟨v3,hk6,h⟩ := bind_some h
    refine Tri.f 2 [.g false,.v (.bool v3)] [.keep [2] []] rfl ⟨fun _ => W37 a0 a0 a1 a2 (a0.length : Int) v3 hk6,hd5,trivial⟩ ?_
    cases h
    exact Tri.ret rfl ⟨.inl rfl,rfl,rfl⟩
noncomputable def E274 : Env := ⟨Tryz.prog,tys,(Tryz.f111.body).getD .skip,8,tysOk,mixedOk⟩
abbrev K157 (r : List Q) (σ' : ASt) : Prop := isRes E274.T Tryz.f111 (.sl 1000 0) [(1000,.arr 31 0 0 (.rats r))] σ'
noncomputable def m_slices_Clone_impl_Rat_impl_Rat (a0 : List Q) : Option (List Q) :=
grd (([] : List Q).length + a0.length ≤ room) <|
some ([] ++ a0)
theorem W39 (a0 r : List Q) (h : m_slices_Clone_impl_Rat_impl_Rat a0 = some r) : AM.Spec Tryz.prog 111 [.list (.rats a0)] [] (.sl 1000 0) [(1000,.arr 31 0 0 (.rats r))] := by
 refine spec_of (E := E274) Tryz.func111 rfl rfl rfl rfl ?_
 refine Tri.f 2 [] [.keep [0,4] []] rfl trivial ?_
 refine Tri.any (p := (.rats a0)) (Kt := [.code [(1,0),(1,0)] 0,.code [] 2]) (Kf := [.code [(1,0),(1,1)] 0,.code [] 2]) rfl (fun hnil => ?_) ?_
 ·have hnil := List.eq_nil_of_length_eq_zero hnil
  subst hnil
  have h := (grd_some h).2
  have h : (some []) = some _ := h
  refine Tri.f 1 [] [.own 2 [] 1100 31,.swap 1100 1000,.keep [2] [1000]] rfl trivial ?_
  cases h
  exact Tri.ret rfl ⟨.inl rfl,rfl,rfl⟩
 ·obtain ⟨hg1,h⟩ := grd_some h
  refine Tri.f 1 [] [.rever 5,.swap 5 1000,.keep [2] [1000]] rfl ⟨hg1,trivial⟩ ?_
  cases h
  exact Tri.ret rfl ⟨.inl rfl,rfl,rfl⟩
noncomputable def E275 : Env := ⟨Tryz.prog,tys,(Tryz.f64.body).getD .skip,9,tysOk,mixedOk⟩
abbrev K158 (r : Int × Int) (σ' : ASt) : Prop := isRes E275.T Tryz.f64 (.agg [.i r.1,.i r.2]) [] σ'
noncomputable def m_impl_minus (a0 a1 : Int) : Option (Int × Int) :=
some (IntKind.i64.wrap (0 - a0),a1)
theorem W40 (a0 a1 : Int) (r : Int × Int) (h : m_impl_minus a0 a1 = some r) : AM.Spec Tryz.prog 64 [.agg [.i a0,.i a1]] [] (.agg [.i r.1,.i r.2]) [] := by
 refine spec_of (E := E275) Tryz.func64 rfl rfl rfl rfl ?_
 refine Tri.f 2 [] [.keep [2] [2]] rfl trivial ?_
 cases h
 exact Tri.ret rfl ⟨.inl rfl,rfl,rfl⟩
noncomputable def E276 : Env := ⟨Tryz.prog,tys,(Tryz.f89.body).getD .skip,40,tysOk,mixedOk⟩
abbrev K159 (r : Int × Int × Bool) (σ' : ASt) : Prop := isRes E276.T Tryz.f89 (.tuple [.agg [.i r.1,.i r.2.1],.bool r.2.2]) [] σ'
noncomputable def m_impl_RatOf (a0 a1 : Int) : Option (Int × Int × Bool) :=
bif a1 == 0 then
(some (0,0,false))
else
((m_impl_within a0 (-1000000000000000000 : Int) (1000000000000000000 : Int)).bind fun v1 =>
bif !v1 then
(some (0,0,false))
else
((m_impl_within a1 (-1000000000000000000 : Int) (1000000000000000000 : Int)).bind fun v2 =>
bif !v2 then
(some (0,0,false))
else
((m_impl_common a0 a1).bind fun v3 =>
bif decide (a1 < 0) then
(grd ((IntKind.i64.wrap (0 - v3)) ≠ 0) <|
grd ((IntKind.i64.wrap (0 - v3)) ≠ 0) <|
(m_impl_IsValidRat (IntKind.i64.wrap (a0.tdiv (IntKind.i64.wrap (0 - v3)))) (IntKind.i64.wrap (a1.tdiv (IntKind.i64.wrap (0 - v3))))).bind fun v4 =>
bif !v4 then
(some (0,0,false))
else
(some (IntKind.i64.wrap (a0.tdiv (IntKind.i64.wrap (0 - v3))),IntKind.i64.wrap (a1.tdiv (IntKind.i64.wrap (0 - v3))),true)))
else
(grd (v3 ≠ 0) <|
grd (v3 ≠ 0) <|
(m_impl_IsValidRat (IntKind.i64.wrap (a0.tdiv v3)) (IntKind.i64.wrap (a1.tdiv v3))).bind fun v5 =>
bif !v5 then
(some (0,0,false))
else
(some (IntKind.i64.wrap (a0.tdiv v3),IntKind.i64.wrap (a1.tdiv v3),true))))))
theorem W41 (a0 a1 : Int) (r : Int × Int × Bool) (h : m_impl_RatOf a0 a1 = some r) : AM.Spec Tryz.prog 89 [.i a0,.i a1] [] (.tuple [.agg [.i r.1,.i r.2.1],.bool r.2.2]) [] := by
 refine spec_of (E := E276) Tryz.func89 rfl rfl rfl rfl ?_
 refine Tri.f 1 [] [.keep [0,1,4] [4]] rfl trivial ?_
 rcases bif_some h with ⟨hd1,h⟩ | ⟨hd1,h⟩
 ·refine Tri.f 1 [.g true,.g true] [.keep [0,1,4,19] [4]] rfl ⟨rfl,hd1,trivial⟩ ?_
  refine Tri.f 2 [.g true] [.keep [4,5] [4]] rfl ⟨rfl,trivial⟩ ?_
  cases h
  exact Tri.ret rfl ⟨.inl rfl,rfl,rfl⟩
 ·obtain ⟨v1,hk2,h⟩ := bind_some h
  rcases bif_some h with ⟨hd3,h⟩ | ⟨hd3,h⟩
  ·refine Tri.f 1 [.g false,.v (.bool v1),.g true] [.keep [0,1,4,19] [4]] rfl ⟨hd3,fun _ => W16 a0 (-1000000000000000000 : Int) (1000000000000000000 : Int) v1 hk2,hd1,trivial⟩ ?_
   refine Tri.f 2 [.g true] [.keep [4,5] [4]] rfl ⟨rfl,trivial⟩ ?_
   cases h
   exact Tri.ret rfl ⟨.inl rfl,rfl,rfl⟩
  ·obtain ⟨v2,hk4,h⟩ := bind_some h
   refine Tri.f 1 [.g false,.v (.bool v1),.g false,.v (.bool v2)] [.keep [0,1,4,19] [4]] rfl ⟨fun _ => W16 a1 (-1000000000000000000 : Int) (1000000000000000000 : Int) v2 hk4,hd3,fun _ => W16 a0 (-1000000000000000000 : Int) (1000000000000000000 : Int) v1 hk2,hd1,trivial⟩ ?_
   rcases bif_some h with ⟨hd5,h⟩ | ⟨hd5,h⟩
   ·refine Tri.f 2 [.g true] [.keep [4,5] [4]] rfl ⟨hd5,trivial⟩ ?_
    cases h
    exact Tri.ret rfl ⟨.inl rfl,rfl,rfl⟩
   ·obtain ⟨v3,hk6,h⟩ := bind_some h
    refine Tri.f 3 [.g false,.v (.i v3)] [.keep [0,1,4,6,25] [4]] rfl ⟨fun _ => W17 a0 a1 v3 hk6,hd5,trivial⟩ ?_
    rcases bif_some h with ⟨hd7,h⟩ | ⟨hd7,h⟩
    ·obtain ⟨hg8,h⟩ := grd_some h
     obtain ⟨hg9,h⟩ := grd_some h
     refine Tri.f 3 [.g true] [.keep [4,7] [4,7]] rfl ⟨hg9,hg8,hd7,trivial⟩ ?_
     obtain ⟨v4,hk10,h⟩ := bind_some h
     refine Tri.f 1 [.v (.bool v4)] [.keep [4,7,37] [4,7]] rfl ⟨fun _ => W18 (IntKind.i64.wrap (a0.tdiv (IntKind.i64.wrap (0 - v3)))) (IntKind.i64.wrap (a1.tdiv (IntKind.i64.wrap (0 - v3)))) v4 hk10,trivial⟩ ?_
     rcases bif_some h with ⟨hd11,h⟩ | ⟨hd11,h⟩
     ·refine Tri.f 2 [.g true] [.keep [4,5] [4]] rfl ⟨hd11,trivial⟩ ?_
      cases h
      exact Tri.ret rfl ⟨.inl rfl,rfl,rfl⟩
     ·refine Tri.f 2 [.g false] [.keep [4,5] [4]] rfl ⟨hd11,trivial⟩ ?_
      cases h
      exact Tri.ret rfl ⟨.inl rfl,rfl,rfl⟩
    ·obtain ⟨hg12,h⟩ := grd_some h
     obtain ⟨hg13,h⟩ := grd_some h
     refine Tri.f 2 [.g false] [.keep [4,7] [4,7]] rfl ⟨hg13,hg12,hd7,trivial⟩ ?_
     obtain ⟨v5,hk14,h⟩ := bind_some h
     refine Tri.f 1 [.v (.bool v5)] [.keep [4,7,37] [4,7]] rfl ⟨fun _ => W18 (IntKind.i64.wrap (a0.tdiv v3)) (IntKind.i64.wrap (a1.tdiv v3)) v5 hk14,trivial⟩ ?_
     rcases bif_some h with ⟨hd15,h⟩ | ⟨hd15,h⟩
     ·refine Tri.f 2 [.g true] [.keep [4,5] [4]] rfl ⟨hd15,trivial⟩ ?_
      cases h
      exact Tri.ret rfl ⟨.inl rfl,rfl,rfl⟩
     ·refine Tri.f 2 [.g false] [.keep [4,5] [4]] rfl ⟨hd15,trivial⟩ ?_
      cases h
      exact Tri.ret rfl ⟨.inl rfl,rfl,rfl⟩
noncomputable def E277 : Env := ⟨Tryz.prog,tys,(Tryz.f92.body).getD .skip,28,tysOk,mixedOk⟩
abbrev K160 (r : Int × Int × Bool) (σ' : ASt) : Prop := isRes E277.T Tryz.f92 (.tuple [.agg [.i r.1,.i r.2.1],.bool r.2.2]) [] σ'
noncomputable def m_impl_MulRat (a0 a1 a2 a3 : Int) : Option (Int × Int × Bool) :=
(m_impl_IsValidRat a0 a1).bind fun v1 =>
bif !v1 then
(some (0,0,false))
else
((m_impl_IsValidRat a2 a3).bind fun v2 =>
bif !v2 then
(some (0,0,false))
else
((m_impl_RatOf (IntKind.i64.wrap (a0 * a2)) (IntKind.i64.wrap (a1 * a3))).bind fun (v3,v4,v5) =>
some (v3,v4,v5)))
theorem W42 (a0 a1 a2 a3 : Int) (r : Int × Int × Bool) (h : m_impl_MulRat a0 a1 a2 a3 = some r) : AM.Spec Tryz.prog 92 [.agg [.i a0,.i a1],.agg [.i a2,.i a3]] [] (.tuple [.agg [.i r.1,.i r.2.1],.bool r.2.2]) [] := by
 refine spec_of (E := E277) Tryz.func92 rfl rfl rfl rfl ?_
 refine Tri.f 1 [] [.keep [2,3,4] [2,3,4]] rfl trivial ?_
 obtain ⟨v1,hk1,h⟩ := bind_some h
 rcases bif_some h with ⟨hd2,h⟩ | ⟨hd2,h⟩
 ·refine Tri.f 1 [.v (.bool v1),.g true] [.keep [2,3,4,13] [2,3,4]] rfl ⟨hd2,fun _ => W18 a0 a1 v1 hk1,trivial⟩ ?_
  refine Tri.f 2 [.g true] [.keep [4,5] [4]] rfl ⟨rfl,trivial⟩ ?_
  cases h
  exact Tri.ret rfl ⟨.inl rfl,rfl,rfl⟩
 ·obtain ⟨v2,hk3,h⟩ := bind_some h
  refine Tri.f 1 [.v (.bool v1),.g false,.v (.bool v2)] [.keep [2,3,4,13] [2,3,4]] rfl ⟨fun _ => W18 a2 a3 v2 hk3,hd2,fun _ => W18 a0 a1 v1 hk1,trivial⟩ ?_
  rcases bif_some h with ⟨hd4,h⟩ | ⟨hd4,h⟩
  ·refine Tri.f 2 [.g true] [.keep [4,5] [4]] rfl ⟨hd4,trivial⟩ ?_
   cases h
   exact Tri.ret rfl ⟨.inl rfl,rfl,rfl⟩
  ·obtain ⟨⟨v3,v4,v5⟩,hk5,h⟩ := bind_some h
   refine Tri.f 2 [.g false,.v (.tuple [.agg [.i v3,.i v4],.bool v5])] [.keep [4,5] [4]] rfl ⟨fun _ => W41 (IntKind.i64.wrap (a0 * a2)) (IntKind.i64.wrap (a1 * a3)) (v3,v4,v5) hk5,hd4,trivial⟩ ?_
   cases h
   exact Tri.ret rfl ⟨.inl rfl,rfl,rfl⟩
noncomputable def E278 : Env := ⟨Tryz.prog,tys,(Tryz.f93.body).getD .skip,34,tysOk,mixedOk⟩
abbrev K161 (r : Int × Int × Bool) (σ' : ASt) : Prop := isRes E278.T Tryz.f93 (.tuple [.agg [.i r.1,.i r.2.1],.bool r.2.2]) [] σ'
noncomputable def m_impl_AddRat (a0 a1 a2 a3 : Int) : Option (Int × Int × Bool) :=
(m_impl_IsValidRat a0 a1).bind fun v1 =>
bif !v1 then
(some (0,0,false))
else
((m_impl_IsValidRat a2 a3).bind fun v2 =>
bif !v2 then
(some (0,0,false))
else
((m_impl_RatOf (IntKind.i64.wrap ((IntKind.i64.wrap (a0 * a3)) + (IntKind.i64.wrap (a2 * a1)))) (IntKind.i64.wrap (a1 * a3))).bind fun (v3,v4,v5) =>
some (v3,v4,v5)))
theorem W43 (a0 a1 a2 a3 : Int) (r : Int × Int × Bool) (h : m_impl_AddRat a0 a1 a2 a3 = some r) : AM.Spec Tryz.prog 93 [.agg [.i a0,.i a1],.agg [.i a2,.i a3]] [] (.tuple [.agg [.i r.1,.i r.2.1],.bool r.2.2]) [] := by
 refine spec_of (E := E278) Tryz.func93 rfl rfl rfl rfl ?_
 refine Tri.f 1 [] [.keep [2,3,4] [2,3,4]] rfl trivial ?_
 obtain ⟨v1,hk1,h⟩ := bind_some h
 rcases bif_some h with ⟨hd2,h⟩ | ⟨hd2,h⟩
 ·refine Tri.f 1 [.v (.bool v1),.g true] [.keep [2,3,4,13] [2,3,4]] rfl ⟨hd2,fun _ => W18 a0 a1 v1 hk1,trivial⟩ ?_
  refine Tri.f 2 [.g true] [.keep [4,5] [4]] rfl ⟨rfl,trivial⟩ ?_
  cases h
  exact Tri.ret rfl ⟨.inl rfl,rfl,rfl⟩
 ·obtain ⟨v2,hk3,h⟩ := bind_some h
  refine Tri.f 1 [.v (.bool v1),.g false,.v (.bool v2)] [.keep [2,3,4,13] [2,3,4]] rfl ⟨fun _ => W18 a2 a3 v2 hk3,hd2,fun _ => W18 a0 a1 v1 hk1,trivial⟩ ?_
  rcases bif_some h with ⟨hd4,h⟩ | ⟨hd4,h⟩
  ·refine Tri.f 2 [.g true] [.keep [4,5] [4]] rfl ⟨hd4,trivial⟩ ?_
   cases h
   exact Tri.ret rfl ⟨.inl rfl,rfl,rfl⟩
  ·obtain ⟨⟨v3,v4,v5⟩,hk5,h⟩ := bind_some h
   refine Tri.f 2 [.g false,.v (.tuple [.agg [.i v3,.i v4],.bool v5])] [.keep [4,5] [4]] rfl ⟨fun _ => W41 (IntKind.i64.wrap ((IntKind.i64.wrap (a0 * a3)) + (IntKind.i64.wrap (a2 * a1)))) (IntKind.i64.wrap (a1 * a3)) (v3,v4,v5) hk5,hd4,trivial⟩ ?_
   cases h
   exact Tri.ret rfl ⟨.inl rfl,rfl,rfl⟩
noncomputable def E279 : Env := ⟨Tryz.prog,tys,(Tryz.f112.body).getD .skip,55,tysOk,mixedOk⟩
abbrev K162 (r : Bool × (List Q)) (σ' : ASt) : Prop := isRes E279.T Tryz.f112 (.tuple [.sl 1000 0,.bool r.1]) [(1000,.arr 31 0 0 (.rats r.2))] σ'
noncomputable def l_impl_AddScaled_0 (a0 : List Q) (a1 a2 : Int) (a3 : List Q) : (Int × (List Q)) → Option ((Int × (List Q)) ⊕ ((List Q) ⊕ ((Bool × (List Q)))))
 | (v1,v2) => (
bif decide (v1 < (a0.length : Int)) then
(grd (0 ≤ v1 ∧ v1 < (a3.length : Int)) <|
(m_impl_MulRat a1 a2 ((a3.getD v1.toNat ⟨0,0⟩).num) ((a3.getD v1.toNat ⟨0,0⟩).den)).bind fun (v3,v4,v5) =>
grd (0 ≤ v1 ∧ v1 < (a0.length : Int)) <|
(m_impl_AddRat ((a0.getD v1.toNat ⟨0,0⟩).num) ((a0.getD v1.toNat ⟨0,0⟩).den) v3 v4).bind fun (v6,v7,v8) =>
bif !v5 then
(some (.inr (.inr (false,[]))))
else
(bif !v8 then
(some (.inr (.inr (false,[]))))
else
(grd (v2.length + ([⟨v6,v7⟩] : List Q).length ≤ room) <|
some (.inl (IntKind.i64.wrap (v1 + 1),v2 ++ [⟨v6,v7⟩])))))
else
(some (.inr (.inl v2))))
noncomputable def m_impl_AddScaled (a0 : List Q) (a1 a2 : Int) (a3 : List Q) : Option (Bool × (List Q)) :=
bif (a0.length : Int) != (a3.length : Int) then
(some (false,[]))
else
((iter (l_impl_AddScaled_0 a0 a1 a2 a3) ((0 : Int),[])).bind fun
| (.inl v9) => (
some (true,v9))
| (.inr r) => some r)
theorem W44 (a0 : List Q) (a1 a2 : Int) (a3 : List Q) (r : Bool × (List Q)) (h : m_impl_AddScaled a0 a1 a2 a3 = some r) : AM.Spec Tryz.prog 112 [.list (.rats a0),.agg [.i a1,.i a2],.list (.rats a3)] [] (.tuple [.sl 1000 0,.bool r.1]) [(1000,.arr 31 0 0 (.rats r.2))] := by
 refine spec_of (E := E279) Tryz.func112 rfl rfl rfl rfl ?_
 refine Tri.f 2 [] [.keep [0,2,4,18] [4]] rfl trivial ?_
 rcases bif_some h with ⟨hd1,h⟩ | ⟨hd1,h⟩
 ·refine Tri.f 2 [.g true] [.own 6 [] 1100 31,.swap 1100 1000,.keep [6,7] [1000]] rfl ⟨hd1,trivial⟩ ?_
  cases h
  exact Tri.ret rfl ⟨.inl rfl,rfl,rfl⟩
 ·refine Tri.f 3 [.g false] [.keep [0,2,4,8,21,22] [4,19]] rfl ⟨hd1,trivial⟩ ?_
  obtain ⟨x1,hk10,h⟩ := bind_some h
  refine Tri.loop (K1 := [.code [(3,0),(1,0),(0,0)] 0]) (K2 := [.blk 0,.code [] 4]) (fun (v1,v2) => ⟨[(0,.list (.rats a0)),(2,.list (.rats a3)),(4,.ptr 4 0),(8,.sl 19 0),(21,.i (a0.length : Int)),(22,.i v1)],[(4,.box [.i a1,.i a2]),(19,.arr 31 0 0 (.rats v2))]⟩) (fun x e σ' => match x with | (.inl v9) => e = .exit 0 ∧ σ' = ⟨[(8,.sl 19 0)],[(19,.arr 31 0 0 (.rats v9))]⟩ | (.inr r) => e = .ret ∧ K162 r σ') hk10 rfl rfl ?_ ?_
  ·intro s x hs
   clear h
   have h := hs
   clear hs
   obtain ⟨v1,v2⟩ := s
   refine Tri.f 1 [] [.keep [0,2,4,8,21,22,23] [4,19]] rfl trivial ?_
   rcases bif_some h with ⟨hd2,h⟩ | ⟨hd2,h⟩
   ·refine Tri.f 2 [.g true] [.keep [0,2,4,8,9,21,22] [4,19]] rfl ⟨hd2,trivial⟩ ?_
    obtain ⟨hg3,h⟩ := grd_some h
    obtain ⟨⟨v3,v4,v5⟩,hk4,h⟩ := bind_some h
    obtain ⟨hg5,h⟩ := grd_some h
    obtain ⟨⟨v6,v7,v8⟩,hk6,h⟩ := bind_some h
    refine Tri.f 2 [.v (.tuple [.agg [.i v3,.i v4],.bool v5]),.v (.tuple [.agg [.i v6,.i v7],.bool v8])] [.keep [0,2,4,8,11,12,13,21,22] [4,12,19]] rfl ⟨fun _ => W43 ((a0.getD v1.toNat ⟨0,0⟩).num) ((a0.getD v1.toNat ⟨0,0⟩).den) v3 v4 (v6,v7,v8) hk6,hg5,fun _ => W42 a1 a2 ((a3.getD v1.toNat ⟨0,0⟩).num) ((a3.getD v1.toNat ⟨0,0⟩).den) (v3,v4,v5) hk4,hg3,trivial⟩ ?_
    rcases bif_some h with ⟨hd7,h⟩ | ⟨hd7,h⟩
    ·refine Tri.f 1 [.g true] [.keep [0,2,4,8,12,21,22,48] [4,12,19]] rfl ⟨hd7,trivial⟩ ?_
     refine Tri.f 2 [.g true] [.own 6 [] 1101 31,.swap 1101 1000,.keep [6,7] [1000]] rfl ⟨rfl,trivial⟩ ?_
     cases h
     exact Tri.ret rfl ⟨nofun,rfl,rfl,rfl⟩
    ·refine Tri.f 1 [.g false] [.keep [0,2,4,8,12,21,22,48] [4,12,19]] rfl ⟨hd7,trivial⟩ ?_
     rcases bif_some h with ⟨hd8,h⟩ | ⟨hd8,h⟩
     ·refine Tri.f 2 [.g true] [.own 6 [] 1102 31,.swap 1102 1000,.keep [6,7] [1000]] rfl ⟨hd8,trivial⟩ ?_
      cases h
      exact Tri.ret rfl ⟨nofun,rfl,rfl,rfl⟩
     ·obtain ⟨hg9,h⟩ := grd_some h
      refine Tri.f 3 [.g false] [.rever 19,.keep [0,2,4,8,21,22] [4,19]] rfl ⟨hg9,hd8,trivial⟩ ?_
      cases h
      exact Tri.nil ⟨rfl,rfl⟩
   ·refine Tri.f 1 [.g false] [.keep [8] [19]] rfl ⟨hd2,trivial⟩ ?_
    cases h
    exact Tri.out 0 rfl ⟨nofun,rfl,rfl⟩
  ·intro e σ' hne hq
   rcases x1 with v9 | r
   ·obtain ⟨rfl,rfl⟩ := hq
    refine TriX.exit (K' := [.code [] 4]) rfl ?_
    refine Tri.f 1 [] [.swap 19 1000,.keep [6,7] [1000]] rfl trivial ?_
    cases h
    exact Tri.ret rfl ⟨.inl rfl,rfl,rfl⟩
   ·obtain ⟨rfl,hq⟩ := hq
    cases h
    exact TriX.ret ⟨.inl rfl,hq⟩
noncomputable def E280 : Env := ⟨Tryz.prog,tys,(Tryz.f101.body).getD .skip,63,tysOk,mixedOk⟩
abbrev K163 (r : Bool × (List Q)) (σ' : ASt) : Prop := isRes E280.T Tryz.f101 (.tuple [.sl 1000 0,.bool r.1]) [(1000,.arr 31 0 0 (.rats r.2))] σ'
noncomputable def l_impl_CostRow_0 (a0 : List (List Q)) (a1 : List Int) (a3 : List Q) : (Int × (List Q)) → Option ((Int × (List Q)) ⊕ ((List Q) ⊕ ((Bool × (List Q)))))
 | (v6,v7) => (
bif decide (v6 < (a0.length : Int)) then
(grd (0 ≤ v6 ∧ v6 < (a0.length : Int)) <|
grd (0 ≤ v6 ∧ v6 < (a1.length : Int)) <|
grd (0 ≤ a1.getD v6.toNat 0 ∧ a1.getD v6.toNat 0 < (a3.length : Int)) <|
(m_impl_minus ((a3.getD ((a1.getD v6.toNat 0).toNat) ⟨0,0⟩).num) ((a3.getD ((a1.getD v6.toNat 0).toNat) ⟨0,0⟩).den)).bind fun (v8,v9) =>
(m_impl_AddScaled v7 v8 v9 (a0.getD v6.toNat [])).bind fun (v10,v11) =>
bif !v10 then
(some (.inr (.inr (false,[]))))
else
(some (.inl (IntKind.i64.wrap (v6 + 1),v11))))
else
(some (.inr (.inl v7))))
noncomputable def m_impl_CostRow (a0 : List (List Q)) (a1 : List Int) (a2 : Int) (a3 : List Q) : Option (Bool × (List Q)) :=
(m_impl_formed a0 a1 a2).bind fun v1 =>
bif !v1 then
(some (false,[]))
else
(bif (a3.length : Int) != (IntKind.i64.wrap (a2 + (a0.length : Int))) then
(some (false,[]))
else
((m_impl_AllValid a3).bind fun v2 =>
bif !v2 then
(some (false,[]))
else
((m_slices_Clone_impl_Rat_impl_Rat a3).bind fun v3 =>
(m_impl_whole (0 : Int)).bind fun (v4,v5) =>
grd (v3.length + ([⟨v4,v5⟩] : List Q).length ≤ room) <|
(iter (l_impl_CostRow_0 a0 a1 a3) ((0 : Int),v3 ++ [⟨v4,v5⟩])).bind fun
| (.inl v12) => (
some (true,v12))
| (.inr r) => some r)))
theorem W45 (a0 : List (List Q)) (a1 : List Int) (a2 : Int) (a3 : List Q) (r : Bool × (List Q)) (h : m_impl_CostRow a0 a1 a2 a3 = some r) : AM.Spec Tryz.prog 101 [.agg [.list (.ratss a0),.list (.ints a1),.i a2],.list (.rats a3)] [] (.tuple [.sl 1000 0,.bool r.1]) [(1000,.arr 31 0 0 (.rats r.2))] := by
 refine spec_of (E := E280) Tryz.func101 rfl rfl rfl rfl ?_
 refine Tri.f 1 [] [.keep [1,2] [2]] rfl trivial ?_
 obtain ⟨v1,hk1,h⟩ := bind_some h
 rcases bif_some h with ⟨hd2,h⟩ | ⟨hd2,h⟩
 ·refine Tri.f 1 [.v (.bool v1),.g true,.g true] [.keep [1,2,29] [2]] rfl ⟨rfl,hd2,fun _ => W38 a0 a1 a2 v1 hk1,trivial⟩ ?_
  refine Tri.f 2 [.g true] [.own 4 [] 1100 31,.swap 1100 1000,.keep [4,5] [1000]] rfl ⟨rfl,trivial⟩ ?_
  cases h
  exact Tri.ret rfl ⟨.inl rfl,rfl,rfl⟩
 ·rcases bif_some h with ⟨hd3,h⟩ | ⟨hd3,h⟩
  ·refine Tri.f 1 [.v (.bool v1),.g false,.g true] [.keep [1,2,29] [2]] rfl ⟨hd3,hd2,fun _ => W38 a0 a1 a2 v1 hk1,trivial⟩ ?_
   refine Tri.f 2 [.g true] [.own 4 [] 1101 31,.swap 1101 1000,.keep [4,5] [1000]] rfl ⟨rfl,trivial⟩ ?_
   cases h
   exact Tri.ret rfl ⟨.inl rfl,rfl,rfl⟩
  ·obtain ⟨v2,hk4,h⟩ := bind_some h
   refine Tri.f 1 [.v (.bool v1),.g false,.g false,.v (.bool v2)] [.keep [1,2,29] [2]] rfl ⟨fun _ => W22 a3 v2 hk4,hd3,hd2,fun _ => W38 a0 a1 a2 v1 hk1,trivial⟩ ?_
   rcases bif_some h with ⟨hd5,h⟩ | ⟨hd5,h⟩
   ·refine Tri.f 2 [.g true] [.own 4 [] 1102 31,.swap 1102 1000,.keep [4,5] [1000]] rfl ⟨hd5,trivial⟩ ?_
    cases h
    exact Tri.ret rfl ⟨.inl rfl,rfl,rfl⟩
   ·obtain ⟨v3,hk6,h⟩ := bind_some h
    obtain ⟨⟨v4,v5⟩,hk7,h⟩ := bind_some h
    obtain ⟨hg8,h⟩ := grd_some h
    refine Tri.f 3 [.g false,.r ⟨[],.sl 1103 0,[(1103,.arr 31 0 0 (.rats v3))]⟩,.v (.agg [.i v4,.i v5])] [.rever 1103,.keep [1,2,6,36,37,38] [2,1103]] rfl ⟨hg8,fun _ => W27 (0 : Int) (v4,v5) hk7,fun _ => (W39 a3 v3 hk6).swap 1000 1103,hd5,trivial⟩ ?_
    obtain ⟨x1,hk16,h⟩ := bind_some h
    refine Tri.loop (K1 := [.code [(3,0),(1,0),(0,0)] 0]) (K2 := [.blk 0,.code [] 4]) (fun (v6,v7) => ⟨[(1,.list (.rats a3)),(2,.ptr 2 0),(6,.sl 1103 0),(36,.list (.ratss a0)),(37,.i (a0.length : Int)),(38,.i v6)],[(2,.box [.list (.ratss a0),.list (.ints a1),.i a2]),(1103,.arr 31 0 0 (.rats v7))]⟩) (fun x e σ' => match x with | (.inl v12) => e = .exit 0 ∧ σ' = ⟨[(6,.sl 1103 0)],[(1103,.arr 31 0 0 (.rats v12))]⟩ | (.inr r) => e = .ret ∧ K163 r σ') hk16 rfl rfl ?_ ?_
    ·intro s x hs
     clear h
     have h := hs
     clear hs
     obtain ⟨v6,v7⟩ := s
     refine Tri.f 1 [] [.keep [1,2,6,36,37,38,39] [2,1103]] rfl trivial ?_
     rcases bif_some h with ⟨hd9,h⟩ | ⟨hd9,h⟩
     ·obtain ⟨hg10,h⟩ := grd_some h
      refine Tri.f 2 [.g true] [.keep [1,2,6,7,8,36,37,38] [2,1103]] rfl ⟨hg10,hd9,trivial⟩ ?_
      obtain ⟨hg11,h⟩ := grd_some h
      obtain ⟨hg12,h⟩ := grd_some h
      obtain ⟨⟨v8,v9⟩,hk13,h⟩ := bind_some h
      obtain ⟨⟨v10,v11⟩,hk14,h⟩ := bind_some h
      refine Tri.f 2 [.v (.agg [.i v8,.i v9]),.r ⟨[],.tuple [.sl 1104 0,.bool v10],[(1104,.arr 31 0 0 (.rats v11))]⟩] [.keep [1,2,9,36,37,38,59] [2,1104]] rfl ⟨fun _ => (W44 v7 v8 v9 (a0.getD v6.toNat []) (v10,v11) hk14).swap 1000 1104,fun _ => W40 ((a3.getD ((a1.getD v6.toNat 0).toNat) ⟨0,0⟩).num) ((a3.getD ((a1.getD v6.toNat 0).toNat) ⟨0,0⟩).den) (v8,v9) hk13,hg12,hg11,trivial⟩ ?_
      rcases bif_some h with ⟨hd15,h⟩ | ⟨hd15,h⟩
      ·refine Tri.f 2 [.g true] [.own 4 [] 1105 31,.swap 1105 1000,.keep [4,5] [1000]] rfl ⟨hd15,trivial⟩ ?_
       cases h
       exact Tri.ret rfl ⟨nofun,rfl,rfl,rfl⟩
      ·refine Tri.f 3 [.g false] [.swap 1104 1103,.keep [1,2,6,36,37,38] [2,1103]] rfl ⟨hd15,trivial⟩ ?_
       cases h
       exact Tri.nil ⟨rfl,rfl⟩
     ·refine Tri.f 1 [.g false] [.keep [6] [1103]] rfl ⟨hd9,trivial⟩ ?_
      cases h
      exact Tri.out 0 rfl ⟨nofun,rfl,rfl⟩
    ·intro e σ' hne hq
     rcases x1 with v12 | r
     ·obtain ⟨rfl,rfl⟩ := hq
      refine TriX.exit (K' := [.code [] 4]) rfl ?_
      refine Tri.f 1 [] [.swap 1103 1000,.keep [4,5] [1000]] rfl trivial ?_
      cases h
      exact Tri.ret rfl ⟨.inl rfl,rfl,rfl⟩
     ·obtain ⟨rfl,hq⟩ := hq
      cases h
      exact TriX.ret ⟨.inl rfl,hq⟩
noncomputable def E281 : Env := ⟨Tryz.prog,tys,(Tryz.f39.body).getD .skip,33,tysOk,mixedOk⟩
abbrev K164 (r : Int) (σ' : ASt) : Prop := isRes E281.T Tryz.f39 (.i r) [] σ'
noncomputable def m_impl_CompareRat (a0 a1 a2 a3 : Int) : Option Int :=
(m_impl_IsValidRat a0 a1).bind fun v1 =>
bif !v1 then
(some (0 : Int))
else
((m_impl_IsValidRat a2 a3).bind fun v2 =>
bif !v2 then
(some (0 : Int))
else
(bif decide ((IntKind.i64.wrap (a0 * a3)) < (IntKind.i64.wrap (a2 * a1))) then
(some (-1 : Int))
else
(bif decide ((IntKind.i64.wrap (a0 * a3)) > (IntKind.i64.wrap (a2 * a1))) then
(some (1 : Int))
else
(some (0 : Int)))))
theorem W46 (a0 a1 a2 a3 r : Int) (h : m_impl_CompareRat a0 a1 a2 a3 = some r) : AM.Spec Tryz.prog 39 [.agg [.i a0,.i a1],.agg [.i a2,.i a3]] [] (.i r) [] := by
 refine spec_of (E := E281) Tryz.func39 rfl rfl rfl rfl ?_
 refine Tri.f 1 [] [.keep [2,3] [2,3]] rfl trivial ?_
 obtain ⟨v1,hk1,h⟩ := bind_some h
 rcases bif_some h with ⟨hd2,h⟩ | ⟨hd2,h⟩
 ·refine Tri.f 1 [.v (.bool v1),.g true] [.keep [2,3,14] [2,3]] rfl ⟨hd2,fun _ => W18 a0 a1 v1 hk1,trivial⟩ ?_
  refine Tri.f 2 [.g true] [.keep [4] []] rfl ⟨rfl,trivial⟩ ?_
  cases h
  exact Tri.ret rfl ⟨.inl rfl,rfl,rfl⟩
 ·obtain ⟨v2,hk3,h⟩ := bind_some h
  refine Tri.f 1 [.v (.bool v1),.g false,.v (.bool v2)] [.keep [2,3,14] [2,3]] rfl ⟨fun _ => W18 a2 a3 v2 hk3,hd2,fun _ => W18 a0 a1 v1 hk1,trivial⟩ ?_
  rcases bif_some h with ⟨hd4,h⟩ | ⟨hd4,h⟩
  ·refine Tri.f 2 [.g true] [.keep [4] []] rfl ⟨hd4,trivial⟩ ?_
   cases h
   exact Tri.ret rfl ⟨.inl rfl,rfl,rfl⟩
  ·refine Tri.f 3 [.g false] [.keep [5,6,25] []] rfl ⟨hd4,trivial⟩ ?_
   rcases bif_some h with ⟨hd5,h⟩ | ⟨hd5,h⟩
   ·refine Tri.f 2 [.g true] [.keep [4] []] rfl ⟨hd5,trivial⟩ ?_
    cases h
    exact Tri.ret rfl ⟨.inl rfl,rfl,rfl⟩
   ·refine Tri.f 2 [.g false] [.keep [29] []] rfl ⟨hd5,trivial⟩ ?_
    rcases bif_some h with ⟨hd6,h⟩ | ⟨hd6,h⟩
    ·refine Tri.f 2 [.g true] [.keep [4] []] rfl ⟨hd6,trivial⟩ ?_
     cases h
     exact Tri.ret rfl ⟨.inl rfl,rfl,rfl⟩
    ·refine Tri.f 2 [.g false] [.keep [4] []] rfl ⟨hd6,trivial⟩ ?_
     cases h
     exact Tri.ret rfl ⟨.inl rfl,rfl,rfl⟩
noncomputable def E282 : Env := ⟨Tryz.prog,tys,(Tryz.f35.body).getD .skip,6,tysOk,mixedOk⟩
abbrev K165 (r : Int) (σ' : ASt) : Prop := isRes E282.T Tryz.f35 (.i r) [] σ'
noncomputable def m_impl_sign (a0 a1 : Int) : Option Int :=
(m_impl_whole (0 : Int)).bind fun (v1,v2) =>
(m_impl_CompareRat a0 a1 v1 v2).bind fun v3 =>
some v3
theorem W47 (a0 a1 r : Int) (h : m_impl_sign a0 a1 = some r) : AM.Spec Tryz.prog 35 [.agg [.i a0,.i a1]] [] (.i r) [] := by
 refine spec_of (E := E282) Tryz.func35 rfl rfl rfl rfl ?_
 refine Tri.f 1 [] [.keep [1] [1]] rfl trivial ?_
 obtain ⟨⟨v1,v2⟩,hk1,h⟩ := bind_some h
 obtain ⟨v3,hk2,h⟩ := bind_some h
 refine Tri.f 1 [.v (.agg [.i v1,.i v2]),.v (.i v3)] [.keep [2] []] rfl ⟨fun _ => W46 a0 a1 v1 v2 v3 hk2,fun _ => W27 (0 : Int) (v1,v2) hk1,trivial⟩ ?_
 cases h
 exact Tri.ret rfl ⟨.inl rfl,rfl,rfl⟩
noncomputable def E283 : Env := ⟨Tryz.prog,tys,(Tryz.f12.body).getD .skip,24,tysOk,mixedOk⟩
abbrev K166 (r : Int) (σ' : ASt) : Prop := isRes E283.T Tryz.f12 (.i r) [] σ'
noncomputable def l_impl_EnteringColumn_0 (a3 : List Q) (a4 v1 : Int) : Option (Int ⊕ (Unit ⊕ Int)) :=
bif decide (v1 < a4) then
(grd (0 ≤ v1 ∧ v1 < (a3.length : Int)) <|
(m_impl_sign ((a3.getD v1.toNat ⟨0,0⟩).num) ((a3.getD v1.toNat ⟨0,0⟩).den)).bind fun v2 =>
bif decide (v2 < 0) then
(some (.inr (.inr v1)))
else
(some (.inl (IntKind.i64.wrap (v1 + 1)))))
else
(some (.inr (.inl ())))
noncomputable def m_impl_EnteringColumn (_a0 : List (List Q)) (_a1 : List Int) (_a2 : Int) (a3 : List Q) (a4 : Int) : Option Int :=
bif decide (a4 > (a3.length : Int)) then
(some (-1 : Int))
else
((iter (l_impl_EnteringColumn_0 a3 a4) (0 : Int)).bind fun
| (.inl _) => (
some (-1 : Int))
| (.inr r) => some r)
theorem W48 (a0 : List (List Q)) (a1 : List Int) (a2 : Int) (a3 : List Q) (a4 r : Int) (h : m_impl_EnteringColumn a0 a1 a2 a3 a4 = some r) : AM.Spec Tryz.prog 12 [.agg [.list (.ratss a0),.list (.ints a1),.i a2],.list (.rats a3),.i a4] [] (.i r) [] := by
 refine spec_of (E := E283) Tryz.func12 rfl rfl rfl rfl ?_
 refine Tri.f 2 [] [.keep [1,2,11] []] rfl trivial ?_
 rcases bif_some h with ⟨hd1,h⟩ | ⟨hd1,h⟩
 ·refine Tri.f 2 [.g true] [.keep [6] []] rfl ⟨hd1,trivial⟩ ?_
  cases h
  exact Tri.ret rfl ⟨.inl rfl,rfl,rfl⟩
 ·refine Tri.f 2 [.g false] [.keep [1,2,7] []] rfl ⟨hd1,trivial⟩ ?_
  obtain ⟨x1,hk6,h⟩ := bind_some h
  refine Tri.loop (K1 := [.code [(2,0),(1,0),(0,0)] 0]) (K2 := [.blk 0,.code [] 3]) (fun v1 => ⟨[(1,.list (.rats a3)),(2,.i a4),(7,.i v1)],[]⟩) (fun x e σ' => match x with | (.inl _) => e = .exit 0 ∧ σ' = ⟨[],[]⟩ | (.inr r) => e = .ret ∧ K166 r σ') hk6 rfl rfl ?_ ?_
  ·intro v1 x hs
   clear h
   have h := hs
   clear hs
   refine Tri.f 1 [] [.keep [1,2,7,14] []] rfl trivial ?_
   rcases bif_some h with ⟨hd2,h⟩ | ⟨hd2,h⟩
   ·obtain ⟨hg3,h⟩ := grd_some h
    obtain ⟨v2,hk4,h⟩ := bind_some h
    refine Tri.f 2 [.g true,.v (.i v2)] [.keep [1,2,7,22] []] rfl ⟨fun _ => W47 ((a3.getD v1.toNat ⟨0,0⟩).num) ((a3.getD v1.toNat ⟨0,0⟩).den) v2 hk4,hg3,hd2,trivial⟩ ?_
    rcases bif_some h with ⟨hd5,h⟩ | ⟨hd5,h⟩
    ·refine Tri.f 2 [.g true] [.keep [6] []] rfl ⟨hd5,trivial⟩ ?_
     cases h
     exact Tri.ret rfl ⟨nofun,rfl,rfl,rfl⟩
    ·refine Tri.f 2 [.g false] [.keep [1,2,7] []] rfl ⟨hd5,trivial⟩ ?_
     cases h
     exact Tri.nil ⟨rfl,rfl⟩
   ·refine Tri.f 1 [.g false] [.keep [] []] rfl ⟨hd2,trivial⟩ ?_
    cases h
    exact Tri.out 0 rfl ⟨nofun,rfl,rfl⟩
  ·intro e σ' hne hq
   rcases x1 with _ | r
   ·obtain ⟨rfl,rfl⟩ := hq
    refine TriX.exit (K' := [.code [] 3]) rfl ?_
    refine Tri.f 1 [] [.keep [6] []] rfl trivial ?_
    cases h
    exact Tri.ret rfl ⟨.inl rfl,rfl,rfl⟩
   ·obtain ⟨rfl,hq⟩ := hq
    cases h
    exact TriX.ret ⟨.inl rfl,hq⟩
noncomputable def E284 : Env := ⟨Tryz.prog,tys,(Tryz.f38.body).getD .skip,28,tysOk,mixedOk⟩
abbrev K167 (r : Int × Int × Bool) (σ' : ASt) : Prop := isRes E284.T Tryz.f38 (.tuple [.agg [.i r.1,.i r.2.1],.bool r.2.2]) [] σ'
noncomputable def m_impl_DivRat (a0 a1 a2 a3 : Int) : Option (Int × Int × Bool) :=
(m_impl_IsValidRat a0 a1).bind fun v1 =>
bif !v1 then
(some (0,0,false))
else
((m_impl_IsValidRat a2 a3).bind fun v2 =>
bif !v2 then
(some (0,0,false))
else
((m_impl_RatOf (IntKind.i64.wrap (a0 * a3)) (IntKind.i64.wrap (a1 * a2))).bind fun (v3,v4,v5) =>
some (v3,v4,v5)))
theorem W49 (a0 a1 a2 a3 : Int) (r : Int × Int × Bool) (h : m_impl_DivRat a0 a1 a2 a3 = some r) : AM.Spec Tryz.prog 38 [.agg [.i a0,.i a1],.agg [.i a2,.i a3]] [] (.tuple [.agg [.i r.1,.i r.2.1],.bool r.2.2]) [] := by
 refine spec_of (E := E284) Tryz.func38 rfl rfl rfl rfl ?_
 refine Tri.f 1 [] [.keep [2,3,4] [2,3,4]] rfl trivial ?_
 obtain ⟨v1,hk1,h⟩ := bind_some h
 rcases bif_some h with ⟨hd2,h⟩ | ⟨hd2,h⟩
 ·refine Tri.f 1 [.v (.bool v1),.g true] [.keep [2,3,4,13] [2,3,4]] rfl ⟨hd2,fun _ => W18 a0 a1 v1 hk1,trivial⟩ ?_
  refine Tri.f 2 [.g true] [.keep [4,5] [4]] rfl ⟨rfl,trivial⟩ ?_
  cases h
  exact Tri.ret rfl ⟨.inl rfl,rfl,rfl⟩
 ·obtain ⟨v2,hk3,h⟩ := bind_some h
  refine Tri.f 1 [.v (.bool v1),.g false,.v (.bool v2)] [.keep [2,3,4,13] [2,3,4]] rfl ⟨fun _ => W18 a2 a3 v2 hk3,hd2,fun _ => W18 a0 a1 v1 hk1,trivial⟩ ?_
  rcases bif_some h with ⟨hd4,h⟩ | ⟨hd4,h⟩
  ·refine Tri.f 2 [.g true] [.keep [4,5] [4]] rfl ⟨hd4,trivial⟩ ?_
   cases h
   exact Tri.ret rfl ⟨.inl rfl,rfl,rfl⟩
  ·obtain ⟨⟨v3,v4,v5⟩,hk5,h⟩ := bind_some h
   refine Tri.f 2 [.g false,.v (.tuple [.agg [.i v3,.i v4],.bool v5])] [.keep [4,5] [4]] rfl ⟨fun _ => W41 (IntKind.i64.wrap (a0 * a3)) (IntKind.i64.wrap (a1 * a2)) (v3,v4,v5) hk5,hd4,trivial⟩ ?_
   cases h
   exact Tri.ret rfl ⟨.inl rfl,rfl,rfl⟩
noncomputable def E285 : Env := ⟨Tryz.prog,tys,(Tryz.f14.body).getD .skip,87,tysOk,mixedOk⟩
abbrev K168 (r : Int) (σ' : ASt) : Prop := isRes E285.T Tryz.f14 (.i r) [] σ'
noncomputable def l_impl_LeavingRow_0 (a0 : List (List Q)) (a1 : List Int) (a3 : Int) : (Int × Int × Int × Int) → Option ((Int × Int × Int × Int) ⊕ Int)
 | (v3,v4,v5,v6) => (
bif decide (v4 < (a0.length : Int)) then
(grd (0 ≤ v4 ∧ v4 < (a0.length : Int)) <|
grd (0 ≤ a3 ∧ a3 < ((a0.getD v4.toNat []).length : Int)) <|
(m_impl_sign (((a0.getD v4.toNat []).getD a3.toNat ⟨0,0⟩).num) (((a0.getD v4.toNat []).getD a3.toNat ⟨0,0⟩).den)).bind fun v7 =>
bif decide (v7 ≤ 0) then
(some (.inl (v3,IntKind.i64.wrap (v4 + 1),v5,v6)))
else
(grd (0 ≤ IntKind.i64.wrap (((a0.getD v4.toNat []).length : Int) - 1) ∧ IntKind.i64.wrap (((a0.getD v4.toNat []).length : Int) - 1) < ((a0.getD v4.toNat []).length : Int)) <|
grd (0 ≤ a3 ∧ a3 < ((a0.getD v4.toNat []).length : Int)) <|
(m_impl_DivRat (((a0.getD v4.toNat []).getD ((IntKind.i64.wrap (((a0.getD v4.toNat []).length : Int) - 1)).toNat) ⟨0,0⟩).num) (((a0.getD v4.toNat []).getD ((IntKind.i64.wrap (((a0.getD v4.toNat []).length : Int) - 1)).toNat) ⟨0,0⟩).den) (((a0.getD v4.toNat []).getD a3.toNat ⟨0,0⟩).num) (((a0.getD v4.toNat []).getD a3.toNat ⟨0,0⟩).den)).bind fun (v8,v9,v10) =>
bif !v10 then
(some (.inl (v3,IntKind.i64.wrap (v4 + 1),v5,v6)))
else
((m_impl_CompareRat v8 v9 v5 v6).bind fun v11 =>
bif decide (v3 < 0) then
(some (.inl (v4,IntKind.i64.wrap (v4 + 1),v8,v9)))
else
(bif decide (v11 < 0) then
(some (.inl (v4,IntKind.i64.wrap (v4 + 1),v8,v9)))
else
(bif v11 == 0 then
(grd (0 ≤ v4 ∧ v4 < (a1.length : Int)) <|
grd (0 ≤ v3 ∧ v3 < (a1.length : Int)) <|
bif decide ((a1.getD v4.toNat 0) < (a1.getD v3.toNat 0)) then
(some (.inl (v4,IntKind.i64.wrap (v4 + 1),v8,v9)))
else
(some (.inl (v3,IntKind.i64.wrap (v4 + 1),v5,v6))))
else
(some (.inl (v3,IntKind.i64.wrap (v4 + 1),v5,v6))))))))
else
(some (.inr v3)))
noncomputable def m_impl_LeavingRow (a0 : List (List Q)) (a1 : List Int) (a2 a3 : Int) : Option Int :=
(m_impl_formed a0 a1 a2).bind fun v1 =>
bif !v1 then
(some (-1 : Int))
else
((m_impl_within a3 (0 : Int) (IntKind.i64.wrap ((IntKind.i64.wrap (a2 + (a0.length : Int))) - 1))).bind fun v2 =>
bif !v2 then
(some (-1 : Int))
else
((iter (l_impl_LeavingRow_0 a0 a1 a3) ((-1 : Int),(0 : Int),0,0)).bind fun
| v12 => (
some v12)))
theorem W50 (a0 : List (List Q)) (a1 : List Int) (a2 a3 r : Int) (h : m_impl_LeavingRow a0 a1 a2 a3 = some r) : AM.Spec Tryz.prog 14 [.agg [.list (.ratss a0),.list (.ints a1),.i a2],.i a3] [] (.i r) [] := by
 refine spec_of (E := E285) Tryz.func14 rfl rfl rfl rfl ?_
 refine Tri.f 1 [] [.keep [1,2] [2]] rfl trivial ?_
 obtain ⟨v1,hk1,h⟩ := bind_some h
 rcases bif_some h with ⟨hd2,h⟩ | ⟨hd2,h⟩
 ·refine Tri.f 1 [.v (.bool v1),.g true] [.keep [1,2,26] [2]] rfl ⟨hd2,fun _ => W38 a0 a1 a2 v1 hk1,trivial⟩ ?_
  refine Tri.f 2 [.g true] [.keep [4] []] rfl ⟨rfl,trivial⟩ ?_
  cases h
  exact Tri.ret rfl ⟨.inl rfl,rfl,rfl⟩
 ·obtain ⟨v2,hk3,h⟩ := bind_some h
  refine Tri.f 1 [.v (.bool v1),.g false,.v (.bool v2)] [.keep [1,2,26] [2]] rfl ⟨fun _ => W16 a3 (0 : Int) (IntKind.i64.wrap ((IntKind.i64.wrap (a2 + (a0.length : Int))) - 1)) v2 hk3,hd2,fun _ => W38 a0 a1 a2 v1 hk1,trivial⟩ ?_
  rcases bif_some h with ⟨hd4,h⟩ | ⟨hd4,h⟩
  ·refine Tri.f 2 [.g true] [.keep [4] []] rfl ⟨hd4,trivial⟩ ?_
   cases h
   exact Tri.ret rfl ⟨.inl rfl,rfl,rfl⟩
  ·refine Tri.f 3 [.g false] [.keep [1,2,5,6] [2,6]] rfl ⟨hd4,trivial⟩ ?_
   refine Tri.f 1 [] [.keep [1,2,5,6,28,29,30] [2,6]] rfl trivial ?_
   obtain ⟨v12,hk21,h⟩ := bind_some h
   refine Tri.loop (K1 := [.code [(4,0),(1,0),(0,0)] 0]) (K2 := [.blk 0,.code [] 5]) (fun (v3,v4,v5,v6) => ⟨[(1,.i a3),(2,.ptr 2 0),(5,.i v3),(6,.ptr 6 0),(28,.list (.ratss a0)),(29,.i (a0.length : Int)),(30,.i v4)],[(2,.box [.list (.ratss a0),.list (.ints a1),.i a2]),(6,.box [.i v5,.i v6])]⟩) (fun x e σ' => match x with | v12 => e = .exit 0 ∧ σ' = ⟨[(5,.i v12)],[]⟩) hk21 rfl rfl ?_ ?_
   ·intro s x hs
    clear h
    have h := hs
    clear hs
    obtain ⟨v3,v4,v5,v6⟩ := s
    refine Tri.f 1 [] [.keep [1,2,5,6,28,29,30,31] [2,6]] rfl trivial ?_
    rcases bif_some h with ⟨hd5,h⟩ | ⟨hd5,h⟩
    ·obtain ⟨hg6,h⟩ := grd_some h
     refine Tri.f 2 [.g true] [.keep [1,2,5,6,7,8,28,29,30] [2,6]] rfl ⟨hg6,hd5,trivial⟩ ?_
     obtain ⟨hg7,h⟩ := grd_some h
     obtain ⟨v7,hk8,h⟩ := bind_some h
     refine Tri.f 1 [.v (.i v7)] [.keep [1,2,5,6,7,8,28,29,30,40] [2,6]] rfl ⟨fun _ => W47 (((a0.getD v4.toNat []).getD a3.toNat ⟨0,0⟩).num) (((a0.getD v4.toNat []).getD a3.toNat ⟨0,0⟩).den) v7 hk8,hg7,trivial⟩ ?_
     rcases bif_some h with ⟨hd9,h⟩ | ⟨hd9,h⟩
     ·refine Tri.f 2 [.g true] [.keep [1,2,5,6,28,29,30] [2,6]] rfl ⟨hd9,trivial⟩ ?_
      cases h
      exact Tri.nil ⟨rfl,rfl⟩
     ·obtain ⟨hg10,h⟩ := grd_some h
      obtain ⟨hg11,h⟩ := grd_some h
      obtain ⟨⟨v8,v9,v10⟩,hk12,h⟩ := bind_some h
      refine Tri.f 3 [.g false,.v (.tuple [.agg [.i v8,.i v9],.bool v10])] [.keep [1,2,5,6,7,9,28,29,30,56] [2,6,9]] rfl ⟨fun _ => W49 (((a0.getD v4.toNat []).getD ((IntKind.i64.wrap (((a0.getD v4.toNat []).length : Int) - 1)).toNat) ⟨0,0⟩).num) (((a0.getD v4.toNat []).getD ((IntKind.i64.wrap (((a0.getD v4.toNat []).length : Int) - 1)).toNat) ⟨0,0⟩).den) (((a0.getD v4.toNat []).getD a3.toNat ⟨0,0⟩).num) (((a0.getD v4.toNat []).getD a3.toNat ⟨0,0⟩).den) (v8,v9,v10) hk12,hg11,hg10,hd9,trivial⟩ ?_
      rcases bif_some h with ⟨hd13,h⟩ | ⟨hd13,h⟩
      ·refine Tri.f 2 [.g true] [.keep [1,2,5,6,28,29,30] [2,6]] rfl ⟨hd13,trivial⟩ ?_
       cases h
       exact Tri.nil ⟨rfl,rfl⟩
      ·obtain ⟨v11,hk14,h⟩ := bind_some h
       refine Tri.f 2 [.g false,.v (.i v11)] [.keep [1,2,5,6,7,9,11,28,29,30] [2,6,9]] rfl ⟨fun _ => W46 v8 v9 v5 v6 v11 hk14,hd13,trivial⟩ ?_
       rcases bif_some h with ⟨hd15,h⟩ | ⟨hd15,h⟩
       ·refine Tri.f 1 [.g true,.g true] [.keep [1,2,5,6,7,9,28,29,30,82] [2,6,9]] rfl ⟨rfl,hd15,trivial⟩ ?_
        refine Tri.f 3 [.g true] [.keep [1,2,5,6,28,29,30] [2,6]] rfl ⟨rfl,trivial⟩ ?_
        cases h
        exact Tri.nil ⟨rfl,rfl⟩
       ·rcases bif_some h with ⟨hd16,h⟩ | ⟨hd16,h⟩
        ·refine Tri.f 1 [.g false,.g true] [.keep [1,2,5,6,7,9,28,29,30,82] [2,6,9]] rfl ⟨hd16,hd15,trivial⟩ ?_
         refine Tri.f 3 [.g true] [.keep [1,2,5,6,28,29,30] [2,6]] rfl ⟨rfl,trivial⟩ ?_
         cases h
         exact Tri.nil ⟨rfl,rfl⟩
        ·rcases bif_some h with ⟨hd17,h⟩ | ⟨hd17,h⟩
         ·obtain ⟨hg18,h⟩ := grd_some h
          obtain ⟨hg19,h⟩ := grd_some h
          refine Tri.f 1 [.g false,.g false,.g true] [.keep [1,2,5,6,7,9,28,29,30,82] [2,6,9]] rfl ⟨hg19,hg18,hd17,hd16,hd15,trivial⟩ ?_
          rcases bif_some h with ⟨hd20,h⟩ | ⟨hd20,h⟩
          ·refine Tri.f 3 [.g true] [.keep [1,2,5,6,28,29,30] [2,6]] rfl ⟨hd20,trivial⟩ ?_
           cases h
           exact Tri.nil ⟨rfl,rfl⟩
          ·refine Tri.f 2 [.g false] [.keep [1,2,5,6,28,29,30] [2,6]] rfl ⟨hd20,trivial⟩ ?_
           cases h
           exact Tri.nil ⟨rfl,rfl⟩
         ·refine Tri.f 1 [.g false,.g false,.g false] [.keep [1,2,5,6,7,9,28,29,30,82] [2,6,9]] rfl ⟨hd17,hd16,hd15,trivial⟩ ?_
          refine Tri.f 2 [.g false] [.keep [1,2,5,6,28,29,30] [2,6]] rfl ⟨rfl,trivial⟩ ?_
          cases h
          exact Tri.nil ⟨rfl,rfl⟩
    ·refine Tri.f 1 [.g false] [.keep [5] []] rfl ⟨hd5,trivial⟩ ?_
     cases h
     exact Tri.out 0 rfl ⟨nofun,rfl,rfl⟩
   ·intro e σ' hne hq
    obtain ⟨rfl,rfl⟩ := hq
    refine TriX.exit (K' := [.code [] 5]) rfl ?_
    refine Tri.f 1 [] [.keep [4] []] rfl trivial ?_
    cases h
    exact Tri.ret rfl ⟨.inl rfl,rfl,rfl⟩
noncomputable def E286 : Env := ⟨Tryz.prog,tys,(Tryz.f114.body).getD .skip,8,tysOk,mixedOk⟩
abbrev K169 (r : List Int) (σ' : ASt) : Prop := isRes E286.T Tryz.f114 (.sl 1000 0) [(1000,.arr 3 0 0 (.ints r))] σ'
noncomputable def m_slices_Clone_int_int (a0 : List Int) : Option (List Int) :=
grd (([] : List Int).length + a0.length ≤ room) <|
some ([] ++ a0)
theorem W51 (a0 r : List Int) (h : m_slices_Clone_int_int a0 = some r) : AM.Spec Tryz.prog 114 [.list (.ints a0)] [] (.sl 1000 0) [(1000,.arr 3 0 0 (.ints r))] := by
 refine spec_of (E := E286) Tryz.func114 rfl rfl rfl rfl ?_
 refine Tri.f 2 [] [.keep [0,4] []] rfl trivial ?_
 refine Tri.any (p := (.ints a0)) (Kt := [.code [(1,0),(1,0)] 0,.code [] 2]) (Kf := [.code [(1,0),(1,1)] 0,.code [] 2]) rfl (fun hnil => ?_) ?_
 ·have hnil := List.eq_nil_of_length_eq_zero hnil
  subst hnil
  have h := (grd_some h).2
  have h : (some []) = some _ := h
  refine Tri.f 1 [] [.own 2 [] 1100 3,.swap 1100 1000,.keep [2] [1000]] rfl trivial ?_
  cases h
  exact Tri.ret rfl ⟨.inl rfl,rfl,rfl⟩
 ·obtain ⟨hg1,h⟩ := grd_some h
  refine Tri.f 1 [] [.rever 5,.swap 5 1000,.keep [2] [1000]] rfl ⟨hg1,trivial⟩ ?_
  cases h
  exact Tri.ret rfl ⟨.inl rfl,rfl,rfl⟩
noncomputable def E287 : Env := ⟨Tryz.prog,tys,(Tryz.f113.body).getD .skip,28,tysOk,mixedOk⟩
abbrev K170 (r : Int × (List (List Q)) × (List Int)) (σ' : ASt) : Prop := isRes E287.T Tryz.f113 (.agg [.sl 1000 0,.sl 1001 0,.i r.1]) [(1000,.arr 26 0 0 (.ratss r.2.1)),(1001,.arr 3 0 0 (.ints r.2.2))] σ'
noncomputable def l_impl_cloneTableau_0 (a0 : List (List Q)) : (Int × (List (List Q))) → Option ((Int × (List (List Q))) ⊕ ((List (List Q))))
 | (v2,v3) => (
bif decide (v2 < (a0.length : Int)) then
(grd (0 ≤ v2 ∧ v2 < (a0.length : Int)) <|
(m_slices_Clone_impl_Rat_impl_Rat (a0.getD v2.toNat [])).bind fun v4 =>
grd (v3.length + ([v4] : List (List Q)).length ≤ room) <|
some (.inl (IntKind.i64.wrap (v2 + 1),v3 ++ [v4])))
else
(some (.inr v3)))
noncomputable def m_impl_cloneTableau (a0 : List (List Q)) (a1 : List Int) (a2 : Int) : Option (Int × (List (List Q)) × (List Int)) :=
(m_slices_Clone_int_int a1).bind fun v1 =>
(iter (l_impl_cloneTableau_0 a0) ((0 : Int),[])).bind fun
| v5 => (
some (a2,v5,v1))
theorem W52 (a0 : List (List Q)) (a1 : List Int) (a2 : Int) (r : Int × (List (List Q)) × (List Int)) (h : m_impl_cloneTableau a0 a1 a2 = some r) : AM.Spec Tryz.prog 113 [.agg [.list (.ratss a0),.list (.ints a1),.i a2]] [] (.agg [.sl 1000 0,.sl 1001 0,.i r.1]) [(1000,.arr 26 0 0 (.ratss r.2.1)),(1001,.arr 3 0 0 (.ints r.2.2))] := by
 refine spec_of (E := E287) Tryz.func113 rfl rfl rfl rfl ?_
 refine Tri.f 1 [] [.keep [1,2] [1,2],.ownc 2 0 1100 26,.ownc 2 1 1101 3,.keep [1,2] [1,2,1100,1101]] rfl trivial ?_
 obtain ⟨v1,hk1,h⟩ := bind_some h
 refine Tri.f 2 [.r ⟨[],.sl 1102 0,[(1102,.arr 3 0 0 (.ints v1))]⟩] [.ownc 3 0 1103 26,.keep [2,3,13,14,15] [2,3,1100,1101,1102,1103]] rfl ⟨fun _ => (W51 a1 v1 hk1).swap 1000 1102,trivial⟩ ?_
 obtain ⟨v5,hk6,h⟩ := bind_some h
 refine Tri.loop (K1 := [.code [(2,0),(1,0),(0,0)] 0]) (K2 := [.blk 0,.code [] 3]) (fun (v2,v3) => ⟨[(2,.ptr 2 0),(3,.ptr 3 0),(13,.list (.ratss a0)),(14,.i (a0.length : Int)),(15,.i v2)],[(2,.box [.sl 1100 0,.sl 1101 0,.i 0]),(3,.box [.sl 1103 0,.sl 1102 0,.i a2]),(1100,.arr 26 0 0 (.ratss [])),(1101,.arr 3 0 0 (.ints [])),(1102,.arr 3 0 0 (.ints v1)),(1103,.arr 26 0 0 (.ratss v3))]⟩) (fun x e σ' => match x with | v5 => e = .exit 0 ∧ σ' = ⟨[(2,.ptr 2 0),(3,.ptr 3 0)],[(2,.box [.sl 1100 0,.sl 1101 0,.i 0]),(3,.box [.sl 1103 0,.sl 1102 0,.i a2]),(1100,.arr 26 0 0 (.ratss [])),(1101,.arr 3 0 0 (.ints [])),(1102,.arr 3 0 0 (.ints v1)),(1103,.arr 26 0 0 (.ratss v5))]⟩) hk6 rfl rfl ?_ ?_
 ·intro s x hs
  clear h
  have h := hs
  clear hs
  obtain ⟨v2,v3⟩ := s
  refine Tri.f 1 [] [.keep [2,3,13,14,15,16] [2,3,1100,1101,1102,1103]] rfl trivial ?_
  rcases bif_some h with ⟨hd2,h⟩ | ⟨hd2,h⟩
  ·obtain ⟨hg3,h⟩ := grd_some h
   refine Tri.f 2 [.g true] [.keep [2,3,5,13,14,15] [2,3,1100,1101,1102,1103]] rfl ⟨hg3,hd2,trivial⟩ ?_
   obtain ⟨v4,hk4,h⟩ := bind_some h
   obtain ⟨hg5,h⟩ := grd_some h
   refine Tri.f 2 [.r ⟨[],.sl 1104 0,[(1104,.arr 31 0 0 (.rats v4))]⟩] [.rever 1103,.keep [2,3,13,14,15] [2,3,1100,1101,1102,1103]] rfl ⟨hg5,fun _ => (W39 (a0.getD v2.toNat []) v4 hk4).swap 1000 1104,trivial⟩ ?_
   cases h
   exact Tri.nil ⟨rfl,rfl⟩
  ·refine Tri.f 1 [.g false] [.keep [2,3] [2,3,1100,1101,1102,1103]] rfl ⟨hd2,trivial⟩ ?_
   cases h
   exact Tri.out 0 rfl ⟨nofun,rfl,rfl⟩
 ·intro e σ' hne hq
  obtain ⟨rfl,rfl⟩ := hq
  refine TriX.exit (K' := [.code [] 3]) rfl ?_
  refine Tri.f 1 [] [.swap 1103 1000,.swap 1102 1001,.keep [2] [2,1000,1001]] rfl trivial ?_
  cases h
  exact Tri.ret rfl ⟨.inl rfl,rfl,rfl⟩
noncomputable def E288 : Env := ⟨Tryz.prog,tys,(Tryz.f102.body).getD .skip,134,tysOk,mixedOk⟩
abbrev K171 (r : Int × Bool × (List (List Q)) × (List Int)) (σ' : ASt) : Prop := isRes E288.T Tryz.f102 (.tuple [.agg [.sl 1000 0,.sl 1001 0,.i r.1],.bool r.2.1]) [(1000,.arr 26 0 0 (.ratss r.2.2.1)),(1001,.arr 3 0 0 (.ints r.2.2.2))] σ'
noncomputable def l_impl_PivotTableau_0 (a0 : List (List Q)) (a1 : List Int) (a2 a3 a4 : Int) : (Int × (List (List Q))) → Option ((Int × (List (List Q))) ⊕ ((List (List Q)) ⊕ ((Int × Bool × (List (List Q)) × (List Int)))))
 | (v16,v17) => (
bif decide (v16 < ((a0.getD a3.toNat []).length : Int)) then
(grd (0 ≤ v16 ∧ v16 < ((a0.getD a3.toNat []).length : Int)) <|
(m_impl_DivRat (((a0.getD a3.toNat []).getD v16.toNat ⟨0,0⟩).num) (((a0.getD a3.toNat []).getD v16.toNat ⟨0,0⟩).den) (((a0.getD a3.toNat []).getD a4.toNat ⟨0,0⟩).num) (((a0.getD a3.toNat []).getD a4.toNat ⟨0,0⟩).den)).bind fun (v18,v19,v20) =>
bif !v20 then
((m_impl_cloneTableau a0 a1 a2).bind fun (v21,v22,v23) =>
some (.inr (.inr (v21,false,v22,v23))))
else
(grd (0 ≤ a3 ∧ a3 < (v17.length : Int)) <|
grd (0 ≤ v16 ∧ v16 < ((v17.getD a3.toNat []).length : Int)) <|
some (.inl (IntKind.i64.wrap (v16 + 1),v17.set a3.toNat ((v17.getD a3.toNat []).set v16.toNat ⟨v18,v19⟩)))))
else
(some (.inr (.inl v17))))
noncomputable def l_impl_PivotTableau_1 (a0 : List (List Q)) (a1 : List Int) (a2 a3 a4 : Int) : (Int × (List (List Q))) → Option ((Int × (List (List Q))) ⊕ ((List (List Q)) ⊕ ((Int × Bool × (List (List Q)) × (List Int)))))
 | (v25,v26) => (
bif decide (v25 < (a0.length : Int)) then
(grd (0 ≤ v25 ∧ v25 < (a0.length : Int)) <|
bif v25 == a3 then
(some (.inl (IntKind.i64.wrap (v25 + 1),v26)))
else
(grd (0 ≤ a4 ∧ a4 < ((a0.getD v25.toNat []).length : Int)) <|
(m_impl_whole (0 : Int)).bind fun (v27,v28) =>
bif (((a0.getD v25.toNat []).getD a4.toNat ⟨0,0⟩).num) == v27 && (((a0.getD v25.toNat []).getD a4.toNat ⟨0,0⟩).den) == v28 then
(some (.inl (IntKind.i64.wrap (v25 + 1),v26)))
else
(grd (0 ≤ a4 ∧ a4 < ((a0.getD v25.toNat []).length : Int)) <|
(m_impl_minus (((a0.getD v25.toNat []).getD a4.toNat ⟨0,0⟩).num) (((a0.getD v25.toNat []).getD a4.toNat ⟨0,0⟩).den)).bind fun (v29,v30) =>
grd (0 ≤ a3 ∧ a3 < (v26.length : Int)) <|
(m_impl_AddScaled (a0.getD v25.toNat []) v29 v30 (v26.getD a3.toNat [])).bind fun (v31,v32) =>
bif !v31 then
((m_impl_cloneTableau a0 a1 a2).bind fun (v33,v34,v35) =>
some (.inr (.inr (v33,false,v34,v35))))
else
(grd (0 ≤ v25 ∧ v25 < (v26.length : Int)) <|
some (.inl (IntKind.i64.wrap (v25 + 1),v26.set v25.toNat v32))))))
else
(some (.inr (.inl v26))))
noncomputable def m_impl_PivotTableau (a0 : List (List Q)) (a1 : List Int) (a2 a3 a4 : Int) : Option (Int × Bool × (List (List Q)) × (List Int)) :=
(m_impl_formed a0 a1 a2).bind fun v1 =>
bif !v1 then
((m_impl_cloneTableau a0 a1 a2).bind fun (v2,v3,v4) =>
some (v2,false,v3,v4))
else
((m_impl_within a3 (0 : Int) (IntKind.i64.wrap ((a0.length : Int) - 1))).bind fun v5 =>
bif !v5 then
((m_impl_cloneTableau a0 a1 a2).bind fun (v6,v7,v8) =>
some (v6,false,v7,v8))
else
((m_impl_within a4 (0 : Int) (IntKind.i64.wrap ((IntKind.i64.wrap (a2 + (a0.length : Int))) - 1))).bind fun v9 =>
bif !v9 then
((m_impl_cloneTableau a0 a1 a2).bind fun (v10,v11,v12) =>
some (v10,false,v11,v12))
else
((m_impl_cloneTableau a0 a1 a2).bind fun (v13,v14,v15) =>
grd (0 ≤ a3 ∧ a3 < (a0.length : Int)) <|
grd (0 ≤ a4 ∧ a4 < ((a0.getD a3.toNat []).length : Int)) <|
grd (0 ≤ a3 ∧ a3 < (a0.length : Int)) <|
(iter (l_impl_PivotTableau_0 a0 a1 a2 a3 a4) ((0 : Int),v14)).bind fun
| (.inl v24) => (
(iter (l_impl_PivotTableau_1 a0 a1 a2 a3 a4) ((0 : Int),v24)).bind fun
| (.inl v36) => (
grd (0 ≤ a3 ∧ a3 < (v15.length : Int)) <|
some (v13,true,v36,v15.set a3.toNat a4))
| (.inr r) => some r)
| (.inr r) => some r)))
theorem W53 (a0 : List (List Q)) (a1 : List Int) (a2 a3 a4 : Int) (r : Int × Bool × (List (List Q)) × (List Int)) (h : m_impl_PivotTableau a0 a1 a2 a3 a4 = some r) : AM.Spec Tryz.prog 102 [.agg [.list (.ratss a0),.list (.ints a1),.i a2],.i a3,.i a4] [] (.tuple [.agg [.sl 1000 0,.sl 1001 0,.i r.1],.bool r.2.1]) [(1000,.arr 26 0 0 (.ratss r.2.2.1)),(1001,.arr 3 0 0 (.ints r.2.2.2))] := by
 refine spec_of (E := E288) Tryz.func102 rfl rfl rfl rfl ?_
 refine Tri.f 1 [] [.keep [1,2,3,6] [3,6],.ownc 6 0 1100 26,.ownc 6 1 1101 3,.keep [1,2,3,6] [3,6,1100,1101]] rfl trivial ?_
 obtain ⟨v1,hk1,h⟩ := bind_some h
 rcases bif_some h with ⟨hd2,h⟩ | ⟨hd2,h⟩
 ·refine Tri.f 1 [.v (.bool v1),.g true,.g true] [.keep [1,2,3,6,41] [3,6,1100,1101]] rfl ⟨rfl,hd2,fun _ => W38 a0 a1 a2 v1 hk1,trivial⟩ ?_
  obtain ⟨⟨v2,v3,v4⟩,hk3,h⟩ := bind_some h
  refine Tri.f 2 [.g true,.r ⟨[],.agg [.sl 1102 0,.sl 1103 0,.i v2],[(1102,.arr 26 0 0 (.ratss v3)),(1103,.arr 3 0 0 (.ints v4))]⟩] [.swap 1102 1000,.swap 1103 1001,.keep [6,7] [6,1000,1001]] rfl ⟨fun _ => ((W52 a0 a1 a2 (v2,v3,v4) hk3).swap 1000 1102).swap 1001 1103,rfl,trivial⟩ ?_
  cases h
  exact Tri.ret rfl ⟨.inl rfl,rfl,rfl⟩
 ·obtain ⟨v5,hk4,h⟩ := bind_some h
  rcases bif_some h with ⟨hd5,h⟩ | ⟨hd5,h⟩
  ·refine Tri.f 1 [.v (.bool v1),.g false,.v (.bool v5),.g true] [.keep [1,2,3,6,41] [3,6,1100,1101]] rfl ⟨hd5,fun _ => W16 a3 (0 : Int) (IntKind.i64.wrap ((a0.length : Int) - 1)) v5 hk4,hd2,fun _ => W38 a0 a1 a2 v1 hk1,trivial⟩ ?_
   obtain ⟨⟨v6,v7,v8⟩,hk6,h⟩ := bind_some h
   refine Tri.f 2 [.g true,.r ⟨[],.agg [.sl 1104 0,.sl 1105 0,.i v6],[(1104,.arr 26 0 0 (.ratss v7)),(1105,.arr 3 0 0 (.ints v8))]⟩] [.swap 1104 1000,.swap 1105 1001,.keep [6,7] [6,1000,1001]] rfl ⟨fun _ => ((W52 a0 a1 a2 (v6,v7,v8) hk6).swap 1000 1104).swap 1001 1105,rfl,trivial⟩ ?_
   cases h
   exact Tri.ret rfl ⟨.inl rfl,rfl,rfl⟩
  ·obtain ⟨v9,hk7,h⟩ := bind_some h
   refine Tri.f 1 [.v (.bool v1),.g false,.v (.bool v5),.g false,.v (.bool v9)] [.keep [1,2,3,6,41] [3,6,1100,1101]] rfl ⟨fun _ => W16 a4 (0 : Int) (IntKind.i64.wrap ((IntKind.i64.wrap (a2 + (a0.length : Int))) - 1)) v9 hk7,hd5,fun _ => W16 a3 (0 : Int) (IntKind.i64.wrap ((a0.length : Int) - 1)) v5 hk4,hd2,fun _ => W38 a0 a1 a2 v1 hk1,trivial⟩ ?_
   rcases bif_some h with ⟨hd8,h⟩ | ⟨hd8,h⟩
   ·obtain ⟨⟨v10,v11,v12⟩,hk9,h⟩ := bind_some h
    refine Tri.f 2 [.g true,.r ⟨[],.agg [.sl 1106 0,.sl 1107 0,.i v10],[(1106,.arr 26 0 0 (.ratss v11)),(1107,.arr 3 0 0 (.ints v12))]⟩] [.swap 1106 1000,.swap 1107 1001,.keep [6,7] [6,1000,1001]] rfl ⟨fun _ => ((W52 a0 a1 a2 (v10,v11,v12) hk9).swap 1000 1106).swap 1001 1107,hd8,trivial⟩ ?_
    cases h
    exact Tri.ret rfl ⟨.inl rfl,rfl,rfl⟩
   ·obtain ⟨⟨v13,v14,v15⟩,hk10,h⟩ := bind_some h
    obtain ⟨hg11,h⟩ := grd_some h
    obtain ⟨hg12,h⟩ := grd_some h
    refine Tri.f 3 [.g false,.r ⟨[],.agg [.sl 1108 0,.sl 1109 0,.i v13],[(1108,.arr 26 0 0 (.ratss v14)),(1109,.arr 3 0 0 (.ints v15))]⟩] [.keep [1,2,3,6,8,9] [3,6,8,9,1100,1101,1108,1109]] rfl ⟨hg12,hg11,fun _ => ((W52 a0 a1 a2 (v13,v14,v15) hk10).swap 1000 1108).swap 1001 1109,hd8,trivial⟩ ?_
    obtain ⟨hg13,h⟩ := grd_some h
    refine Tri.f 1 [] [.keep [1,2,3,6,8,9,58,59,60] [3,6,8,9,1100,1101,1108,1109]] rfl ⟨hg13,trivial⟩ ?_
    obtain ⟨x1,hk21,h⟩ := bind_some h
    refine Tri.loop (K1 := [.code [(4,0),(1,0),(0,0)] 0]) (K2 := [.blk 0,.code [] 5]) (fun (v16,v17) => ⟨[(1,.i a3),(2,.i a4),(3,.ptr 3 0),(6,.ptr 6 0),(8,.ptr 8 0),(9,.ptr 9 0),(58,.list (.rats (a0.getD a3.toNat []))),(59,.i ((a0.getD a3.toNat []).length : Int)),(60,.i v16)],[(3,.box [.list (.ratss a0),.list (.ints a1),.i a2]),(6,.box [.sl 1100 0,.sl 1101 0,.i 0]),(8,.box [.sl 1108 0,.sl 1109 0,.i v13]),(9,.box [.i (((a0.getD a3.toNat []).getD a4.toNat ⟨0,0⟩).num),.i (((a0.getD a3.toNat []).getD a4.toNat ⟨0,0⟩).den)]),(1100,.arr 26 0 0 (.ratss [])),(1101,.arr 3 0 0 (.ints [])),(1108,.arr 26 0 0 (.ratss v17)),(1109,.arr 3 0 0 (.ints v15))]⟩) (fun x e σ' => match x with | (.inl v24) => e = .exit 0 ∧ σ' = ⟨[(1,.i a3),(2,.i a4),(3,.ptr 3 0),(6,.ptr 6 0),(8,.ptr 8 0)],[(3,.box [.list (.ratss a0),.list (.ints a1),.i a2]),(6,.box [.sl 1100 0,.sl 1101 0,.i 0]),(8,.box [.sl 1108 0,.sl 1109 0,.i v13]),(1100,.arr 26 0 0 (.ratss [])),(1101,.arr 3 0 0 (.ints [])),(1108,.arr 26 0 0 (.ratss v24)),(1109,.arr 3 0 0 (.ints v15))]⟩ | (.inr r) => e = .ret ∧ K171 r σ') hk21 rfl rfl ?_ ?_
    ·intro s x hs
     clear h
     have h := hs
     clear hs
     obtain ⟨v16,v17⟩ := s
     refine Tri.f 1 [] [.keep [1,2,3,6,8,9,58,59,60,61] [3,6,8,9,1100,1101,1108,1109]] rfl trivial ?_
     rcases bif_some h with ⟨hd14,h⟩ | ⟨hd14,h⟩
     ·obtain ⟨hg15,h⟩ := grd_some h
      refine Tri.f 2 [.g true] [.keep [1,2,3,6,8,9,10,11,58,59,60] [3,6,8,9,11,1100,1101,1108,1109]] rfl ⟨hg15,hd14,trivial⟩ ?_
      obtain ⟨⟨v18,v19,v20⟩,hk16,h⟩ := bind_some h
      refine Tri.f 2 [.v (.tuple [.agg [.i v18,.i v19],.bool v20])] [.keep [1,2,3,6,8,9,10,12,58,59,60,72] [3,6,8,9,12,1100,1101,1108,1109]] rfl ⟨fun _ => W49 (((a0.getD a3.toNat []).getD v16.toNat ⟨0,0⟩).num) (((a0.getD a3.toNat []).getD v16.toNat ⟨0,0⟩).den) (((a0.getD a3.toNat []).getD a4.toNat ⟨0,0⟩).num) (((a0.getD a3.toNat []).getD a4.toNat ⟨0,0⟩).den) (v18,v19,v20) hk16,trivial⟩ ?_
      rcases bif_some h with ⟨hd17,h⟩ | ⟨hd17,h⟩
      ·obtain ⟨⟨v21,v22,v23⟩,hk18,h⟩ := bind_some h
       refine Tri.f 2 [.g true,.r ⟨[],.agg [.sl 1110 0,.sl 1111 0,.i v21],[(1110,.arr 26 0 0 (.ratss v22)),(1111,.arr 3 0 0 (.ints v23))]⟩] [.swap 1110 1000,.swap 1111 1001,.keep [6,7] [6,1000,1001]] rfl ⟨fun _ => ((W52 a0 a1 a2 (v21,v22,v23) hk18).swap 1000 1110).swap 1001 1111,hd17,trivial⟩ ?_
       cases h
       exact Tri.ret rfl ⟨nofun,rfl,rfl,rfl⟩
      ·obtain ⟨hg19,h⟩ := grd_some h
       obtain ⟨hg20,h⟩ := grd_some h
       refine Tri.f 3 [.g false] [.keep [1,2,3,6,8,9,58,59,60] [3,6,8,9,1100,1101,1108,1109]] rfl ⟨hg20,hg19,hd17,trivial⟩ ?_
       cases h
       exact Tri.nil ⟨rfl,rfl⟩
     ·refine Tri.f 1 [.g false] [.keep [1,2,3,6,8] [3,6,8,1100,1101,1108,1109]] rfl ⟨hd14,trivial⟩ ?_
      cases h
      exact Tri.out 0 rfl ⟨nofun,rfl,rfl⟩
    ·intro e σ' hne hq
     rcases x1 with v24 | r
     ·obtain ⟨rfl,rfl⟩ := hq
      refine TriX.exit (K' := [.code [] 5]) rfl ?_
      refine Tri.f 1 [] [.keep [1,2,3,6,8,85,86,87] [3,6,8,1100,1101,1108,1109]] rfl trivial ?_
      obtain ⟨x2,hk35,h⟩ := bind_some h
      refine Tri.loop (K1 := [.code [(5,0),(1,0),(0,0)] 0]) (K2 := [.blk 2,.code [] 6]) (fun (v25,v26) => ⟨[(1,.i a3),(2,.i a4),(3,.ptr 3 0),(6,.ptr 6 0),(8,.ptr 8 0),(85,.list (.ratss a0)),(86,.i (a0.length : Int)),(87,.i v25)],[(3,.box [.list (.ratss a0),.list (.ints a1),.i a2]),(6,.box [.sl 1100 0,.sl 1101 0,.i 0]),(8,.box [.sl 1108 0,.sl 1109 0,.i v13]),(1100,.arr 26 0 0 (.ratss [])),(1101,.arr 3 0 0 (.ints [])),(1108,.arr 26 0 0 (.ratss v26)),(1109,.arr 3 0 0 (.ints v15))]⟩) (fun x e σ' => match x with | (.inl v36) => e = .exit 2 ∧ σ' = ⟨[(1,.i a3),(2,.i a4),(6,.ptr 6 0),(8,.ptr 8 0)],[(6,.box [.sl 1100 0,.sl 1101 0,.i 0]),(8,.box [.sl 1108 0,.sl 1109 0,.i v13]),(1100,.arr 26 0 0 (.ratss [])),(1101,.arr 3 0 0 (.ints [])),(1108,.arr 26 0 0 (.ratss v36)),(1109,.arr 3 0 0 (.ints v15))]⟩ | (.inr r) => e = .ret ∧ K171 r σ') hk35 rfl rfl ?_ ?_
      ·intro s x hs
       clear h
       have h := hs
       clear hs
       obtain ⟨v25,v26⟩ := s
       refine Tri.f 1 [] [.keep [1,2,3,6,8,85,86,87,88] [3,6,8,1100,1101,1108,1109]] rfl trivial ?_
       rcases bif_some h with ⟨hd22,h⟩ | ⟨hd22,h⟩
       ·obtain ⟨hg23,h⟩ := grd_some h
        refine Tri.f 2 [.g true] [.keep [1,2,3,6,8,14,15,85,86,87] [3,6,8,1100,1101,1108,1109]] rfl ⟨hg23,hd22,trivial⟩ ?_
        rcases bif_some h with ⟨hd24,h⟩ | ⟨hd24,h⟩
        ·refine Tri.f 1 [.g true] [.keep [1,2,3,6,8,14,15,85,86,87,102] [3,6,8,1100,1101,1108,1109]] rfl ⟨hd24,trivial⟩ ?_
         refine Tri.f 2 [.g true] [.keep [1,2,3,6,8,85,86,87] [3,6,8,1100,1101,1108,1109]] rfl ⟨rfl,trivial⟩ ?_
         cases h
         exact Tri.nil ⟨rfl,rfl⟩
        ·obtain ⟨hg25,h⟩ := grd_some h
         obtain ⟨⟨v27,v28⟩,hk26,h⟩ := bind_some h
         refine Tri.f 1 [.g false,.v (.agg [.i v27,.i v28])] [.keep [1,2,3,6,8,14,15,85,86,87,102] [3,6,8,1100,1101,1108,1109]] rfl ⟨fun _ => W27 (0 : Int) (v27,v28) hk26,hg25,hd24,trivial⟩ ?_
         rcases bif_some h with ⟨hd27,h⟩ | ⟨hd27,h⟩
         ·refine Tri.f 2 [.g true] [.keep [1,2,3,6,8,85,86,87] [3,6,8,1100,1101,1108,1109]] rfl ⟨hd27,trivial⟩ ?_
          cases h
          exact Tri.nil ⟨rfl,rfl⟩
         ·obtain ⟨hg28,h⟩ := grd_some h
          obtain ⟨⟨v29,v30⟩,hk29,h⟩ := bind_some h
          obtain ⟨hg30,h⟩ := grd_some h
          obtain ⟨⟨v31,v32⟩,hk31,h⟩ := bind_some h
          refine Tri.f 3 [.g false,.v (.agg [.i v29,.i v30]),.r ⟨[],.tuple [.sl 1112 0,.bool v31],[(1112,.arr 31 0 0 (.rats v32))]⟩] [.keep [1,2,3,6,8,14,16,85,86,87,119] [3,6,8,1100,1101,1108,1109,1112]] rfl ⟨fun _ => (W44 (a0.getD v25.toNat []) v29 v30 (v26.getD a3.toNat []) (v31,v32) hk31).swap 1000 1112,hg30,fun _ => W40 (((a0.getD v25.toNat []).getD a4.toNat ⟨0,0⟩).num) (((a0.getD v25.toNat []).getD a4.toNat ⟨0,0⟩).den) (v29,v30) hk29,hg28,hd27,trivial⟩ ?_
          rcases bif_some h with ⟨hd32,h⟩ | ⟨hd32,h⟩
          ·obtain ⟨⟨v33,v34,v35⟩,hk33,h⟩ := bind_some h
           refine Tri.f 2 [.g true,.r ⟨[],.agg [.sl 1113 0,.sl 1114 0,.i v33],[(1113,.arr 26 0 0 (.ratss v34)),(1114,.arr 3 0 0 (.ints v35))]⟩] [.swap 1113 1000,.swap 1114 1001,.keep [6,7] [6,1000,1001]] rfl ⟨fun _ => ((W52 a0 a1 a2 (v33,v34,v35) hk33).swap 1000 1113).swap 1001 1114,hd32,trivial⟩ ?_
           cases h
           exact Tri.ret rfl ⟨nofun,rfl,rfl,rfl⟩
          ·obtain ⟨hg34,h⟩ := grd_some h
           refine Tri.f 3 [.g false] [.rever 1108,.keep [1,2,3,6,8,85,86,87] [3,6,8,1100,1101,1108,1109]] rfl ⟨hg34,hd32,trivial⟩ ?_
           cases h
           exact Tri.nil ⟨rfl,rfl⟩
       ·refine Tri.f 1 [.g false] [.keep [1,2,6,8] [6,8,1100,1101,1108,1109]] rfl ⟨hd22,trivial⟩ ?_
        cases h
        exact Tri.out 2 rfl ⟨nofun,rfl,rfl⟩
      ·intro e σ' hne hq
       rcases x2 with v36 | r
       ·obtain ⟨rfl,rfl⟩ := hq
        refine TriX.exit (K' := [.code [] 6]) rfl ?_
        obtain ⟨hg36,h⟩ := grd_some h
        refine Tri.f 2 [] [.swap 1108 1000,.swap 1109 1001,.keep [6,7] [6,1000,1001]] rfl ⟨hg36,trivial⟩ ?_
        cases h
        exact Tri.ret rfl ⟨.inl rfl,rfl,rfl⟩
       ·obtain ⟨rfl,hq⟩ := hq
        cases h
        exact TriX.ret ⟨.inl rfl,hq⟩
     ·obtain ⟨rfl,hq⟩ := hq
      cases h
      exact TriX.ret ⟨.inl rfl,hq⟩
noncomputable def E289 : Env := ⟨Tryz.prog,tys,(Tryz.f65.body).getD .skip,42,tysOk,mixedOk⟩
abbrev K172 (r : (List (List Q)) × (List Int) × Int × Int × Bool) (σ' : ASt) : Prop := isRes E289.T Tryz.f65 (.tuple []) [(1000,.arr 26 0 0 (.ratss r.1)),(1001,.arr 3 0 0 (.ints r.2.1)),(2180,.box [.sl 1000 0,.sl 1001 0,.i r.2.2.1,.i r.2.2.2.1,.bool r.2.2.2.2])] σ'
noncomputable def m_impl_solver_pivot_io3 (a0 : List (List Q)) (a1 : List Int) (a2 a3 : Int) (a4 : Bool) (a5 a6 : Int) : Option ((List (List Q)) × (List Int) × Int × Int × Bool) :=
bif a3 == 1000 then
(some (a0,a1,a2,a3,true))
else
((m_impl_PivotTableau a0 a1 a2 a5 a6).bind fun (v1,v2,v3,v4) =>
bif !v2 then
(some (a0,a1,a2,a3,true))
else
(some (v3,v4,v1,IntKind.i64.wrap (a3 + 1),a4)))
theorem W54 (a0 : List (List Q)) (a1 : List Int) (a2 a3 : Int) (a4 : Bool) (a5 a6 : Int) (r : (List (List Q)) × (List Int) × Int × Int × Bool) (h : m_impl_solver_pivot_io3 a0 a1 a2 a3 a4 a5 a6 = some r) : AM.Spec Tryz.prog 65 [.ptr 2180 0,.i a5,.i a6] [(2180,.box [.sl 2181 0,.sl 2182 0,.i a2,.i a3,.bool a4]),(2181,.arr 26 0 0 (.ratss a0)),(2182,.arr 3 0 0 (.ints a1))] (.tuple []) [(1000,.arr 26 0 0 (.ratss r.1)),(1001,.arr 3 0 0 (.ints r.2.1)),(2180,.box [.sl 1000 0,.sl 1001 0,.i r.2.2.1,.i r.2.2.2.1,.bool r.2.2.2.2])] := by
 refine spec_of (E := E289) Tryz.func65 rfl rfl rfl rfl ?_
 refine Tri.f 1 [] [.keep [0,1,2,12] [2180,2181,2182]] rfl trivial ?_
 rcases bif_some h with ⟨hd1,h⟩ | ⟨hd1,h⟩
 ·refine Tri.f 2 [.g true] [.swap 2181 1100,.swap 2182 1101,.swap 1100 1000,.swap 1101 1001,.keep [] [1000,1001,2180]] rfl ⟨hd1,trivial⟩ ?_
  cases h
  exact Tri.ret rfl ⟨.inl rfl,rfl,rfl⟩
 ·obtain ⟨⟨v1,v2,v3,v4⟩,hk2,h⟩ := bind_some h
  refine Tri.f 3 [.g false,.r ⟨[],.tuple [.agg [.sl 1102 0,.sl 1103 0,.i v1],.bool v2],[(1102,.arr 26 0 0 (.ratss v3)),(1103,.arr 3 0 0 (.ints v4))]⟩] [.keep [0,6,27] [6,1102,1103,2180,2181,2182]] rfl ⟨fun _ => ((W53 a0 a1 a2 a5 a6 (v1,v2,v3,v4) hk2).swap 1000 1102).swap 1001 1103,hd1,trivial⟩ ?_
  rcases bif_some h with ⟨hd3,h⟩ | ⟨hd3,h⟩
  ·refine Tri.f 2 [.g true] [.swap 2181 1104,.swap 2182 1105,.swap 1104 1000,.swap 1105 1001,.keep [] [1000,1001,2180]] rfl ⟨hd3,trivial⟩ ?_
   cases h
   exact Tri.ret rfl ⟨.inl rfl,rfl,rfl⟩
  ·refine Tri.f 3 [.g false] [.swap 1102 1000,.swap 1103 1001,.keep [] [1000,1001,2180]] rfl ⟨hd3,trivial⟩ ?_
   cases h
   exact Tri.nil ⟨.inr rfl,rfl,rfl⟩
noncomputable def E290 : Env := ⟨Tryz.prog,tys,(Tryz.f61.body).getD .skip,57,tysOk,mixedOk⟩
abbrev K173 (r : Int × (List Q) × (List (List Q)) × (List Int) × Int × Int × Bool) (σ' : ASt) : Prop := isRes E290.T Tryz.f61 (.tuple [.sl 1000 0,.i r.1]) [(1000,.arr 31 0 0 (.rats r.2.1)),(1001,.arr 26 0 0 (.ratss r.2.2.1)),(1002,.arr 3 0 0 (.ints r.2.2.2.1)),(2160,.box [.sl 1001 0,.sl 1002 0,.i r.2.2.2.2.1,.i r.2.2.2.2.2.1,.bool r.2.2.2.2.2.2])] σ'
noncomputable def l_impl_solver_run_io3_0 (a5 : List Q) : ((List (List Q)) × (List Int) × Int × Int × Bool) → Option (((List (List Q)) × (List Int) × Int × Int × Bool) ⊕ (((List (List Q)) × (List Int) × Int × Int × Bool) ⊕ ((Int × (List Q) × (List (List Q)) × (List Int) × Int × Int × Bool))))
 | (v1,v2,v3,v4,v5) => (
bif !v5 then
((m_impl_CostRow v1 v2 v3 a5).bind fun (v6,v7) =>
bif !v6 then
(some (.inr (.inl (v1,v2,v3,v4,true))))
else
((m_impl_EnteringColumn v1 v2 v3 v7 v3).bind fun v8 =>
bif decide (v8 < 0) then
(some (.inr (.inr ((-1 : Int),v7,v1,v2,v3,v4,v5))))
else
((m_impl_LeavingRow v1 v2 v3 v8).bind fun v9 =>
bif decide (v9 < 0) then
(some (.inr (.inr (v8,v7,v1,v2,v3,v4,v5))))
else
((m_impl_solver_pivot_io3 v1 v2 v3 v4 v5 v9 v8).bind fun (v10,v11,v12,v13,v14) =>
some (.inl (v10,v11,v12,v13,v14))))))
else
(some (.inr (.inl (v1,v2,v3,v4,v5)))))
noncomputable def m_impl_solver_run_io3 (a0 : List (List Q)) (a1 : List Int) (a2 a3 : Int) (a4 : Bool) (a5 : List Q) : Option (Int × (List Q) × (List (List Q)) × (List Int) × Int × Int × Bool) :=
(iter (l_impl_solver_run_io3_0 a5) (a0,a1,a2,a3,a4)).bind fun
| (.inl (v15,v16,v17,v18,v19)) => (
some ((-1 : Int),[],v15,v16,v17,v18,v19))
| (.inr r) => some r
theorem W55 (a0 : List (List Q)) (a1 : List Int) (a2 a3 : Int) (a4 : Bool) (a5 : List Q) (r : Int × (List Q) × (List (List Q)) × (List Int) × Int × Int × Bool) (h : m_impl_solver_run_io3 a0 a1 a2 a3 a4 a5 = some r) : AM.Spec Tryz.prog 61 [.ptr 2160 0,.list (.rats a5)] [(2160,.box [.sl 2161 0,.sl 2162 0,.i a2,.i a3,.bool a4]),(2161,.arr 26 0 0 (.ratss a0)),(2162,.arr 3 0 0 (.ints a1))] (.tuple [.sl 1000 0,.i r.1]) [(1000,.arr 31 0 0 (.rats r.2.1)),(1001,.arr 26 0 0 (.ratss r.2.2.1)),(1002,.arr 3 0 0 (.ints r.2.2.2.1)),(2160,.box [.sl 1001 0,.sl 1002 0,.i r.2.2.2.2.1,.i r.2.2.2.2.2.1,.bool r.2.2.2.2.2.2])] := by
 refine spec_of (E := E290) Tryz.func61 rfl rfl rfl rfl ?_
 refine Tri.f 1 [] [.swap 2161 1100,.swap 2162 1101,.keep [0,1] [1100,1101,2160]] rfl trivial ?_
 obtain ⟨x1,hk9,h⟩ := bind_some h
 refine Tri.loop (K1 := [.code [(1,0),(0,0),(0,0)] 0]) (K2 := [.blk 0,.code [] 2]) (fun (v1,v2,v3,v4,v5) => ⟨[(0,.ptr 2160 0),(1,.list (.rats a5))],[(1100,.arr 26 0 0 (.ratss v1)),(1101,.arr 3 0 0 (.ints v2)),(2160,.box [.sl 1100 0,.sl 1101 0,.i v3,.i v4,.bool v5])]⟩) (fun x e σ' => match x with | (.inl (v15,v16,v17,v18,v19)) => e = .exit 0 ∧ σ' = ⟨[],[(1100,.arr 26 0 0 (.ratss v15)),(1101,.arr 3 0 0 (.ints v16)),(2160,.box [.sl 1100 0,.sl 1101 0,.i v17,.i v18,.bool v19])]⟩ | (.inr r) => e = .ret ∧ K173 r σ') hk9 rfl rfl ?_ ?_
 ·intro s x hs
  clear h
  have h := hs
  clear hs
  obtain ⟨v1,v2,v3,v4,v5⟩ := s
  refine Tri.f 1 [] [.keep [0,1,14] [1100,1101,2160]] rfl trivial ?_
  rcases bif_some h with ⟨hd1,h⟩ | ⟨hd1,h⟩
  ·obtain ⟨⟨v6,v7⟩,hk2,h⟩ := bind_some h
   refine Tri.f 3 [.g true,.r ⟨[],.tuple [.sl 1102 0,.bool v6],[(1102,.arr 31 0 0 (.rats v7))]⟩] [.keep [0,1,6,25] [1100,1101,1102,2160]] rfl ⟨fun _ => (W45 v1 v2 v3 a5 (v6,v7) hk2).swap 1000 1102,hd1,trivial⟩ ?_
   rcases bif_some h with ⟨hd3,h⟩ | ⟨hd3,h⟩
   ·refine Tri.f 2 [.g true] [.keep [] [1100,1101,2160]] rfl ⟨hd3,trivial⟩ ?_
    cases h
    exact Tri.out 0 rfl ⟨nofun,rfl,rfl⟩
   ·obtain ⟨v8,hk4,h⟩ := bind_some h
    refine Tri.f 3 [.g false,.v (.i v8)] [.keep [0,1,6,8,41] [1100,1101,1102,2160]] rfl ⟨fun _ => W48 v1 v2 v3 v7 v3 v8 hk4,hd3,trivial⟩ ?_
    rcases bif_some h with ⟨hd5,h⟩ | ⟨hd5,h⟩
    ·refine Tri.f 2 [.g true] [.swap 1102 1000,.swap 1100 1001,.swap 1101 1002,.keep [4,5] [1000,1001,1002,2160]] rfl ⟨hd5,trivial⟩ ?_
     cases h
     exact Tri.ret rfl ⟨nofun,rfl,rfl,rfl⟩
    ·obtain ⟨v9,hk6,h⟩ := bind_some h
     refine Tri.f 3 [.g false,.v (.i v9)] [.keep [0,1,6,8,9,50] [1100,1101,1102,2160]] rfl ⟨fun _ => W50 v1 v2 v3 v8 v9 hk6,hd5,trivial⟩ ?_
     rcases bif_some h with ⟨hd7,h⟩ | ⟨hd7,h⟩
     ·refine Tri.f 2 [.g true] [.swap 1102 1000,.swap 1100 1001,.swap 1101 1002,.keep [4,5] [1000,1001,1002,2160]] rfl ⟨hd7,trivial⟩ ?_
      cases h
      exact Tri.ret rfl ⟨nofun,rfl,rfl,rfl⟩
     ·obtain ⟨⟨v10,v11,v12,v13,v14⟩,hk8,h⟩ := bind_some h
      refine Tri.f 2 [.g false,.r ⟨[2160,1100,1101],.tuple [],[(1103,.arr 26 0 0 (.ratss v10)),(1104,.arr 3 0 0 (.ints v11)),(2160,.box [.sl 1103 0,.sl 1104 0,.i v12,.i v13,.bool v14])]⟩] [.swap 1103 1100,.swap 1104 1101,.keep [0,1] [1100,1101,2160]] rfl ⟨fun _ => (((((W54 v1 v2 v3 v4 v5 v9 v8 (v10,v11,v12,v13,v14) hk8).swap 1000 1103).swap 1001 1104).swap 2180 2160).swap 2181 1100).swap 2182 1101,hd7,trivial⟩ ?_
      cases h
      exact Tri.nil ⟨rfl,rfl⟩
  ·refine Tri.f 1 [.g false] [.keep [] [1100,1101,2160]] rfl ⟨hd1,trivial⟩ ?_
   cases h
   exact Tri.out 0 rfl ⟨nofun,rfl,rfl⟩
 ·intro e σ' hne hq
  rcases x1 with ⟨v15,v16,v17,v18,v19⟩ | r
  ·obtain ⟨rfl,rfl⟩ := hq
   refine TriX.exit (K' := [.code [] 2]) rfl ?_
   refine Tri.f 1 [] [.own 4 [] 1105 31,.swap 1105 1000,.swap 1100 1001,.swap 1101 1002,.keep [4,5] [1000,1001,1002,2160]] rfl trivial ?_
   cases h
   exact Tri.ret rfl ⟨.inl rfl,rfl,rfl⟩
  ·obtain ⟨rfl,hq⟩ := hq
   cases h
   exact TriX.ret ⟨.inl rfl,hq⟩
noncomputable def E291 : Env := ⟨Tryz.prog,tys,(Tryz.f48.body).getD .skip,34,tysOk,mixedOk⟩
abbrev K174 (r : Int × Int × Bool) (σ' : ASt) : Prop := isRes E291.T Tryz.f48 (.tuple [.agg [.i r.1,.i r.2.1],.bool r.2.2]) [] σ'
noncomputable def m_impl_SubRat (a0 a1 a2 a3 : Int) : Option (Int × Int × Bool) :=
(m_impl_IsValidRat a0 a1).bind fun v1 =>
bif !v1 then
(some (0,0,false))
else
((m_impl_IsValidRat a2 a3).bind fun v2 =>
bif !v2 then
(some (0,0,false))
else
((m_impl_RatOf (IntKind.i64.wrap ((IntKind.i64.wrap (a0 * a3)) - (IntKind.i64.wrap (a2 * a1)))) (IntKind.i64.wrap (a1 * a3))).bind fun (v3,v4,v5) =>
some (v3,v4,v5)))
theorem W56 (a0 a1 a2 a3 : Int) (r : Int × Int × Bool) (h : m_impl_SubRat a0 a1 a2 a3 = some r) : AM.Spec Tryz.prog 48 [.agg [.i a0,.i a1],.agg [.i a2,.i a3]] [] (.tuple [.agg [.i r.1,.i r.2.1],.bool r.2.2]) [] := by
 refine spec_of (E := E291) Tryz.func48 rfl rfl rfl rfl ?_
 refine Tri.f 1 [] [.keep [2,3,4] [2,3,4]] rfl trivial ?_
 obtain ⟨v1,hk1,h⟩ := bind_some h
 rcases bif_some h with ⟨hd2,h⟩ | ⟨hd2,h⟩
 ·refine Tri.f 1 [.v (.bool v1),.g true] [.keep [2,3,4,13] [2,3,4]] rfl ⟨hd2,fun _ => W18 a0 a1 v1 hk1,trivial⟩ ?_
  refine Tri.f 2 [.g true] [.keep [4,5] [4]] rfl ⟨rfl,trivial⟩ ?_
  cases h
  exact Tri.ret rfl ⟨.inl rfl,rfl,rfl⟩
 ·obtain ⟨v2,hk3,h⟩ := bind_some h
  refine Tri.f 1 [.v (.bool v1),.g false,.v (.bool v2)] [.keep [2,3,4,13] [2,3,4]] rfl ⟨fun _ => W18 a2 a3 v2 hk3,hd2,fun _ => W18 a0 a1 v1 hk1,trivial⟩ ?_
  rcases bif_some h with ⟨hd4,h⟩ | ⟨hd4,h⟩
  ·refine Tri.f 2 [.g true] [.keep [4,5] [4]] rfl ⟨hd4,trivial⟩ ?_
   cases h
   exact Tri.ret rfl ⟨.inl rfl,rfl,rfl⟩
  ·obtain ⟨⟨v3,v4,v5⟩,hk5,h⟩ := bind_some h
   refine Tri.f 2 [.g false,.v (.tuple [.agg [.i v3,.i v4],.bool v5])] [.keep [4,5] [4]] rfl ⟨fun _ => W41 (IntKind.i64.wrap ((IntKind.i64.wrap (a0 * a3)) - (IntKind.i64.wrap (a2 * a1)))) (IntKind.i64.wrap (a1 * a3)) (v3,v4,v5) hk5,hd4,trivial⟩ ?_
   cases h
   exact Tri.ret rfl ⟨.inl rfl,rfl,rfl⟩
noncomputable def E292 : Env := ⟨Tryz.prog,tys,(Tryz.f66.body).getD .skip,46,tysOk,mixedOk⟩
abbrev K175 (r : List Q) (σ' : ASt) : Prop := isRes E292.T Tryz.f66 (.sl 1000 0) [(1000,.arr 31 0 0 (.rats r))] σ'
noncomputable def l_impl_SolutionOf_0 (a0 : List (List Q)) (a2 : Int) : (Int × (List Q)) → Option ((Int × (List Q)) ⊕ ((List Q)))
 | (v2,v3) => (
bif decide (v2 < (IntKind.i64.wrap (a2 + (a0.length : Int)))) then
((m_impl_whole (0 : Int)).bind fun (v4,v5) =>
grd (v3.length + ([⟨v4,v5⟩] : List Q).length ≤ room) <|
some (.inl (IntKind.i64.wrap (v2 + 1),v3 ++ [⟨v4,v5⟩])))
else
(some (.inr v3)))
noncomputable def l_impl_SolutionOf_1 (a0 : List (List Q)) (a1 : List Int) : (Int × (List Q)) → Option ((Int × (List Q)) ⊕ ((List Q)))
 | (v7,v8) => (
bif decide (v7 < (a0.length : Int)) then
(grd (0 ≤ v7 ∧ v7 < (a0.length : Int)) <|
grd (0 ≤ v7 ∧ v7 < (a1.length : Int)) <|
grd (0 ≤ IntKind.i64.wrap (((a0.getD v7.toNat []).length : Int) - 1) ∧ IntKind.i64.wrap (((a0.getD v7.toNat []).length : Int) - 1) < ((a0.getD v7.toNat []).length : Int)) <|
grd (0 ≤ a1.getD v7.toNat 0 ∧ a1.getD v7.toNat 0 < (v8.length : Int)) <|
some (.inl (IntKind.i64.wrap (v7 + 1),v8.set ((a1.getD v7.toNat 0).toNat) ⟨((a0.getD v7.toNat []).getD ((IntKind.i64.wrap (((a0.getD v7.toNat []).length : Int) - 1)).toNat) ⟨0,0⟩).num,((a0.getD v7.toNat []).getD ((IntKind.i64.wrap (((a0.getD v7.toNat []).length : Int) - 1)).toNat) ⟨0,0⟩).den⟩)))
else
(some (.inr v8)))
noncomputable def m_impl_SolutionOf (a0 : List (List Q)) (a1 : List Int) (a2 : Int) : Option (List Q) :=
(m_impl_formed a0 a1 a2).bind fun v1 =>
bif !v1 then
(some [])
else
((iter (l_impl_SolutionOf_0 a0 a2) ((0 : Int),[])).bind fun
| v6 => (
(iter (l_impl_SolutionOf_1 a0 a1) ((0 : Int),v6)).bind fun
| v9 => (
some v9)))
theorem W57 (a0 : List (List Q)) (a1 : List Int) (a2 : Int) (r : List Q) (h : m_impl_SolutionOf a0 a1 a2 = some r) : AM.Spec Tryz.prog 66 [.agg [.list (.ratss a0),.list (.ints a1),.i a2]] [] (.sl 1000 0) [(1000,.arr 31 0 0 (.rats r))] := by
 refine spec_of (E := E292) Tryz.func66 rfl rfl rfl rfl ?_
 refine Tri.f 1 [] [.keep [1] [1]] rfl trivial ?_
 obtain ⟨v1,hk1,h⟩ := bind_some h
 refine Tri.f 1 [.v (.bool v1)] [.keep [1,8] [1]] rfl ⟨fun _ => W38 a0 a1 a2 v1 hk1,trivial⟩ ?_
 rcases bif_some h with ⟨hd2,h⟩ | ⟨hd2,h⟩
 ·refine Tri.f 2 [.g true] [.own 2 [] 1100 31,.swap 1100 1000,.keep [2] [1000]] rfl ⟨hd2,trivial⟩ ?_
  cases h
  exact Tri.ret rfl ⟨.inl rfl,rfl,rfl⟩
 ·refine Tri.f 3 [.g false] [.keep [1,3,15,16] [1,9]] rfl ⟨hd2,trivial⟩ ?_
  obtain ⟨v6,hk6,h⟩ := bind_some h
  refine Tri.loop (K1 := [.code [(3,0),(1,0),(0,0)] 0]) (K2 := [.blk 0,.code [] 4]) (fun (v2,v3) => ⟨[(1,.ptr 1 0),(3,.sl 9 0),(15,.i (IntKind.i64.wrap (a2 + (a0.length : Int)))),(16,.i v2)],[(1,.box [.list (.ratss a0),.list (.ints a1),.i a2]),(9,.arr 31 0 0 (.rats v3))]⟩) (fun x e σ' => match x with | v6 => e = .exit 0 ∧ σ' = ⟨[(1,.ptr 1 0),(3,.sl 9 0)],[(1,.box [.list (.ratss a0),.list (.ints a1),.i a2]),(9,.arr 31 0 0 (.rats v6))]⟩) hk6 rfl rfl ?_ ?_
  ·intro s x hs
   clear h
   have h := hs
   clear hs
   obtain ⟨v2,v3⟩ := s
   refine Tri.f 1 [] [.keep [1,3,15,16,17] [1,9]] rfl trivial ?_
   rcases bif_some h with ⟨hd3,h⟩ | ⟨hd3,h⟩
   ·obtain ⟨⟨v4,v5⟩,hk4,h⟩ := bind_some h
    obtain ⟨hg5,h⟩ := grd_some h
    refine Tri.f 3 [.g true,.v (.agg [.i v4,.i v5])] [.rever 9,.keep [1,3,15,16] [1,9]] rfl ⟨hg5,fun _ => W27 (0 : Int) (v4,v5) hk4,hd3,trivial⟩ ?_
    cases h
    exact Tri.nil ⟨rfl,rfl⟩
   ·refine Tri.f 1 [.g false] [.keep [1,3] [1,9]] rfl ⟨hd3,trivial⟩ ?_
    cases h
    exact Tri.out 0 rfl ⟨nofun,rfl,rfl⟩
  ·intro e σ' hne hq
   obtain ⟨rfl,rfl⟩ := hq
   refine TriX.exit (K' := [.code [] 4]) rfl ?_
   refine Tri.f 1 [] [.keep [1,3,24,25,26] [1,9]] rfl trivial ?_
   obtain ⟨v9,hk12,h⟩ := bind_some h
   refine Tri.loop (K1 := [.code [(4,0),(1,0),(0,0)] 0]) (K2 := [.blk 2,.code [] 5]) (fun (v7,v8) => ⟨[(1,.ptr 1 0),(3,.sl 9 0),(24,.list (.ratss a0)),(25,.i (a0.length : Int)),(26,.i v7)],[(1,.box [.list (.ratss a0),.list (.ints a1),.i a2]),(9,.arr 31 0 0 (.rats v8))]⟩) (fun x e σ' => match x with | v9 => e = .exit 2 ∧ σ' = ⟨[(3,.sl 9 0)],[(9,.arr 31 0 0 (.rats v9))]⟩) hk12 rfl rfl ?_ ?_
   ·intro s x hs
    clear h
    have h := hs
    clear hs
    obtain ⟨v7,v8⟩ := s
    refine Tri.f 1 [] [.keep [1,3,24,25,26,27] [1,9]] rfl trivial ?_
    rcases bif_some h with ⟨hd7,h⟩ | ⟨hd7,h⟩
    ·obtain ⟨hg8,h⟩ := grd_some h
     obtain ⟨hg9,h⟩ := grd_some h
     obtain ⟨hg10,h⟩ := grd_some h
     obtain ⟨hg11,h⟩ := grd_some h
     refine Tri.f 3 [.g true] [.keep [1,3,24,25,26] [1,9]] rfl ⟨hg11,hg10,hg9,hg8,hd7,trivial⟩ ?_
     refine Tri.f 1 [] [.keep [1,3,24,25,26] [1,9]] rfl trivial ?_
     cases h
     exact Tri.nil ⟨rfl,rfl⟩
    ·refine Tri.f 1 [.g false] [.keep [3] [9]] rfl ⟨hd7,trivial⟩ ?_
     cases h
     exact Tri.out 2 rfl ⟨nofun,rfl,rfl⟩
   ·intro e σ' hne hq
    obtain ⟨rfl,rfl⟩ := hq
    refine TriX.exit (K' := [.code [] 5]) rfl ?_
    refine Tri.f 1 [] [.swap 9 1000,.keep [2] [1000]] rfl trivial ?_
    cases h
    exact Tri.ret rfl ⟨.inl rfl,rfl,rfl⟩
noncomputable def E293 : Env := ⟨Tryz.prog,tys,(Tryz.f20.body).getD .skip,245,tysOk,mixedOk⟩
abbrev K176 (r : Int × Int × Int × Int × Bool × (List Q) × (List Q) × (List Q)) (σ' : ASt) : Prop := isRes E293.T Tryz.f20 (.tuple [.agg [.i r.1,.sl 1000 0,.sl 1001 0,.sl 1002 0,.i r.2.1,.i r.2.2.1,.i r.2.2.2.1],.bool r.2.2.2.2.1]) [(1000,.arr 31 0 0 (.rats r.2.2.2.2.2.1)),(1001,.arr 31 0 0 (.rats r.2.2.2.2.2.2.1)),(1002,.arr 31 0 0 (.rats r.2.2.2.2.2.2.2))] σ'
noncomputable def l_impl_solve_0 (a1 : List Int) (a2 v7 : List Q) : (Int × (List Q)) → Option ((Int × (List Q)) ⊕ ((List Q) ⊕ ((Int × Int × Int × Int × Bool × (List Q) × (List Q) × (List Q)))))
 | (v13,v14) => (
bif decide (v13 < (a1.length : Int)) then
((m_impl_whole (1 : Int)).bind fun (v15,v16) =>
grd (0 ≤ IntKind.i64.wrap ((a2.length : Int) + v13) ∧ IntKind.i64.wrap ((a2.length : Int) + v13) < (v7.length : Int)) <|
(m_impl_SubRat v15 v16 ((v7.getD ((IntKind.i64.wrap ((a2.length : Int) + v13)).toNat) ⟨0,0⟩).num) ((v7.getD ((IntKind.i64.wrap ((a2.length : Int) + v13)).toNat) ⟨0,0⟩).den)).bind fun (v17,v18,v19) =>
bif !v19 then
(some (.inr (.inr (0,0,0,0,false,[],[],[]))))
else
(grd (0 ≤ v13 ∧ v13 < (a1.length : Int)) <|
bif decide ((a1.getD v13.toNat 0) < 0) then
((m_impl_minus v17 v18).bind fun (v20,v21) =>
grd (v14.length + ([⟨v20,v21⟩] : List Q).length ≤ room) <|
some (.inl (IntKind.i64.wrap (v13 + 1),v14 ++ [⟨v20,v21⟩])))
else
(grd (v14.length + ([⟨v17,v18⟩] : List Q).length ≤ room) <|
some (.inl (IntKind.i64.wrap (v13 + 1),v14 ++ [⟨v17,v18⟩])))))
else
(some (.inr (.inl v14))))
noncomputable def l_impl_solve_2 (a2 : List Q) (v23 v24 v25 : Int) (v26 : Bool) (v27 : List (List Q)) (v28 : List Int) (v29 : Int) : Option (Int ⊕ ((Int × Int × Bool × (List (List Q)) × (List Int)))) :=
bif decide (v29 < (a2.length : Int)) then
(grd (0 ≤ v23 ∧ v23 < (v27.length : Int)) <|
grd (0 ≤ v29 ∧ v29 < ((v27.getD v23.toNat []).length : Int)) <|
(m_impl_whole (0 : Int)).bind fun (v30,v31) =>
bif !((((v27.getD v23.toNat []).getD v29.toNat ⟨0,0⟩).num) == v30 && (((v27.getD v23.toNat []).getD v29.toNat ⟨0,0⟩).den) == v31) then
((m_impl_solver_pivot_io3 v27 v28 v24 v25 v26 v23 v29).bind fun (v32,v33,v34,v35,v36) =>
some (.inr (v34,v35,v36,v32,v33)))
else
(some (.inl (IntKind.i64.wrap (v29 + 1)))))
else
(some (.inr (v24,v25,v26,v27,v28)))
noncomputable def l_impl_solve_1 (a1 : List Int) (a2 : List Q) : (Int × Int × Int × Bool × (List (List Q)) × (List Int)) → Option ((Int × Int × Int × Bool × (List (List Q)) × (List Int)) ⊕ ((Int × Int × Bool × (List (List Q)) × (List Int)) ⊕ ((Int × Int × Int × Int × Bool × (List Q) × (List Q) × (List Q)))))
 | (v23,v24,v25,v26,v27,v28) => (
bif decide (v23 < (a1.length : Int)) then
(grd (0 ≤ v23 ∧ v23 < (v28.length : Int)) <|
bif decide ((v28.getD v23.toNat 0) < (a2.length : Int)) then
(some (.inl (IntKind.i64.wrap (v23 + 1),v24,v25,v26,v27,v28)))
else
((iter (l_impl_solve_2 a2 v23 v24 v25 v26 v27 v28) (0 : Int)).bind fun
| (v37,v38,v39,v40,v41) => (
bif v39 then
(some (.inr (.inr (0,0,0,0,false,[],[],[]))))
else
(some (.inl (IntKind.i64.wrap (v23 + 1),v37,v38,v39,v40,v41))))))
else
(some (.inr (.inl (v24,v25,v26,v27,v28)))))
noncomputable def l_impl_solve_3 (a2 : List Q) (v48 : Int) (v50 : List (List Q)) (v51 : List Int) : (Int × (List Q)) → Option ((Int × (List Q)) ⊕ ((List Q)))
 | (v59,v60) => (
bif decide (v59 < (v51.length : Int)) then
(grd (0 ≤ v59 ∧ v59 < (v51.length : Int)) <|
bif decide ((v51.getD v59.toNat 0) < (a2.length : Int)) then
(grd (0 ≤ v59 ∧ v59 < (v50.length : Int)) <|
grd (0 ≤ v48 ∧ v48 < ((v50.getD v59.toNat []).length : Int)) <|
(m_impl_minus (((v50.getD v59.toNat []).getD v48.toNat ⟨0,0⟩).num) (((v50.getD v59.toNat []).getD v48.toNat ⟨0,0⟩).den)).bind fun (v61,v62) =>
grd (0 ≤ v51.getD v59.toNat 0 ∧ v51.getD v59.toNat 0 < (v60.length : Int)) <|
some (.inl (IntKind.i64.wrap (v59 + 1),v60.set ((v51.getD v59.toNat 0).toNat) ⟨v61,v62⟩)))
else
(some (.inl (IntKind.i64.wrap (v59 + 1),v60))))
else
(some (.inr v60)))
noncomputable def l_impl_solve_4 (a1 : List Int) (a2 v49 : List Q) : (Int × (List Q)) → Option ((Int × (List Q)) ⊕ ((List Q)))
 | (v66,v67) => (
bif decide (v66 < (a1.length : Int)) then
(grd (0 ≤ IntKind.i64.wrap ((a2.length : Int) + v66) ∧ IntKind.i64.wrap ((a2.length : Int) + v66) < (v49.length : Int)) <|
(m_impl_minus ((v49.getD ((IntKind.i64.wrap ((a2.length : Int) + v66)).toNat) ⟨0,0⟩).num) ((v49.getD ((IntKind.i64.wrap ((a2.length : Int) + v66)).toNat) ⟨0,0⟩).den)).bind fun (v68,v69) =>
grd (0 ≤ v66 ∧ v66 < (a1.length : Int)) <|
bif decide ((a1.getD v66.toNat 0) < 0) then
((m_impl_minus v68 v69).bind fun (v70,v71) =>
grd (v67.length + ([⟨v70,v71⟩] : List Q).length ≤ room) <|
some (.inl (IntKind.i64.wrap (v66 + 1),v67 ++ [⟨v70,v71⟩])))
else
(grd (v67.length + ([⟨v68,v69⟩] : List Q).length ≤ room) <|
some (.inl (IntKind.i64.wrap (v66 + 1),v67 ++ [⟨v68,v69⟩]))))
else
(some (.inr v67)))
noncomputable def m_impl_solve (a0 : List (List Int)) (a1 : List Int) (a2 : List Q) : Option (Int × Int × Int × Int × Bool × (List Q) × (List Q) × (List Q)) :=
(m_impl_StartTableau a0 a1 a2).bind fun (v1,v2,v3) =>
grd ((0 : Int) ≤ (a2.length : Int) ∧ (a2.length : Int) = (a2.length : Int) ∧ (a2.length : Int) ≤ (room : Int)) <|
(m_impl_rats (List.replicate (a2.length : Int).toNat (0 : Int))).bind fun v4 =>
(m_impl_costsOf v4 (1 : Int) (a1.length : Int)).bind fun v5 =>
(m_impl_solver_run_io3 v2 v3 v1 0 false v5).bind fun (_,v7,v8,v9,v10,v11,v12) =>
bif v12 then
(some (0,0,0,0,false,[],[],[]))
else
(grd (0 ≤ IntKind.i64.wrap ((v7.length : Int) - 1) ∧ IntKind.i64.wrap ((v7.length : Int) - 1) < (v7.length : Int)) <|
bif decide (((v7.getD ((IntKind.i64.wrap ((v7.length : Int) - 1)).toNat) ⟨0,0⟩).num) < 0) then
((iter (l_impl_solve_0 a1 a2 v7) ((0 : Int),[])).bind fun
| (.inl v22) => (
some ((2 : Int),0,0,v11,true,[],v22,[]))
| (.inr r) => some r)
else
((iter (l_impl_solve_1 a1 a2) ((0 : Int),v10,v11,v12,v8,v9)).bind fun
| (.inl (v42,v43,v44,v45,v46)) => (
(m_impl_costsOf a2 (0 : Int) (a1.length : Int)).bind fun v47 =>
(m_impl_solver_run_io3 v45 v46 v42 v43 v44 v47).bind fun (v48,v49,v50,v51,v52,v53,v54) =>
bif v54 then
(some (0,0,0,0,false,[],[],[]))
else
((m_impl_SolutionOf v50 v51 v52).bind fun v55 =>
grd ((0 : Int) ≤ (a2.length : Int) ∧ (a2.length : Int) ≤ (v55.length : Int)) <|
bif decide (v48 ≥ 0) then
((m_impl_rats (List.replicate (a2.length : Int).toNat (0 : Int))).bind fun v56 =>
(m_impl_whole (1 : Int)).bind fun (v57,v58) =>
grd (0 ≤ v48 ∧ v48 < (v56.length : Int)) <|
(iter (l_impl_solve_3 a2 v48 v50 v51) ((0 : Int),v56.set v48.toNat ⟨v57,v58⟩)).bind fun
| v63 => (
some ((3 : Int),0,0,v53,true,v55.take ((a2.length : Int).toNat),[],v63)))
else
(grd (0 ≤ IntKind.i64.wrap ((v49.length : Int) - 1) ∧ IntKind.i64.wrap ((v49.length : Int) - 1) < (v49.length : Int)) <|
(m_impl_minus ((v49.getD ((IntKind.i64.wrap ((v49.length : Int) - 1)).toNat) ⟨0,0⟩).num) ((v49.getD ((IntKind.i64.wrap ((v49.length : Int) - 1)).toNat) ⟨0,0⟩).den)).bind fun (v64,v65) =>
(iter (l_impl_solve_4 a1 a2 v49) ((0 : Int),[])).bind fun
| v72 => (
some ((1 : Int),v64,v65,v53,true,v55.take ((a2.length : Int).toNat),v72,[])))))
| (.inr r) => some r))
theorem W58 (a0 : List (List Int)) (a1 : List Int) (a2 : List Q) (r : Int × Int × Int × Int × Bool × (List Q) × (List Q) × (List Q)) (h : m_impl_solve a0 a1 a2 = some r) : AM.Spec Tryz.prog 20 [.agg [.list (.intss a0),.list (.ints a1),.list (.rats a2)]] [] (.tuple [.agg [.i r.1,.sl 1000 0,.sl 1001 0,.sl 1002 0,.i r.2.1,.i r.2.2.1,.i r.2.2.2.1],.bool r.2.2.2.2.1]) [(1000,.arr 31 0 0 (.rats r.2.2.2.2.2.1)),(1001,.arr 31 0 0 (.rats r.2.2.2.2.2.2.1)),(1002,.arr 31 0 0 (.rats r.2.2.2.2.2.2.2))] := by
 refine spec_of (E := E293) Tryz.func20 rfl rfl rfl rfl ?_
 refine Tri.f 2 [] [.keep [1,2,4,5] [1,2],.ownc 2 1 1100 31,.ownc 2 2 1101 31,.ownc 2 3 1102 31,.keep [1,2,4,5] [1,2,1100,1101,1102]] rfl trivial ?_
 obtain ⟨⟨v1,v2,v3⟩,hk1,h⟩ := bind_some h
 obtain ⟨hg2,h⟩ := grd_some h
 refine Tri.f 2 [.r ⟨[],.agg [.sl 1103 0,.sl 1104 0,.i v1],[(1103,.arr 26 0 0 (.ratss v2)),(1104,.arr 3 0 0 (.ints v3))]⟩] [.keep [1,2,4,5,6,7] [1,2,33,35,1100,1101,1102,1103,1104]] rfl ⟨hg2,fun _ => ((W28 a0 a1 a2 (v1,v2,v3) hk1).swap 1000 1103).swap 1001 1104,trivial⟩ ?_
 obtain ⟨v4,hk3,h⟩ := bind_some h
 obtain ⟨v5,hk4,h⟩ := bind_some h
 obtain ⟨⟨v6,v7,v8,v9,v10,v11,v12⟩,hk5,h⟩ := bind_some h
 refine Tri.f 2 [.r ⟨[],.sl 1105 0,[(1105,.arr 31 0 0 (.rats v4))]⟩,.r ⟨[],.sl 1106 0,[(1106,.arr 31 0 0 (.rats v5))]⟩,.r ⟨[33,1103,1104],.tuple [.sl 1107 0,.i v6],[(1107,.arr 31 0 0 (.rats v7)),(1108,.arr 26 0 0 (.ratss v8)),(1109,.arr 3 0 0 (.ints v9)),(33,.box [.sl 1108 0,.sl 1109 0,.i v10,.i v11,.bool v12])]⟩] [.keep [1,2,4,5,6,7,8,48] [1,2,33,35,1100,1101,1102,1107,1108,1109]] rfl ⟨fun _ => ((((((W55 v2 v3 v1 0 false v5 (v6,v7,v8,v9,v10,v11,v12) hk5).swap 1000 1107).swap 1001 1108).swap 1002 1109).swap 2160 33).swap 2161 1103).swap 2162 1104,fun _ => (W31 v4 (1 : Int) (a1.length : Int) v5 hk4).swap 1000 1106,fun _ => (W30 (List.replicate (a2.length : Int).toNat (0 : Int)) v4 hk3).swap 1000 1105,trivial⟩ ?_
 rcases bif_some h with ⟨hd6,h⟩ | ⟨hd6,h⟩
 ·refine Tri.f 2 [.g true] [.ownc 2 1 1110 31,.ownc 2 2 1111 31,.ownc 2 3 1112 31,.swap 1110 1000,.swap 1111 1001,.swap 1112 1002,.keep [2,3] [2,1000,1001,1002]] rfl ⟨hd6,trivial⟩ ?_
  cases h
  exact Tri.ret rfl ⟨.inl rfl,rfl,rfl⟩
 ·obtain ⟨hg7,h⟩ := grd_some h
  refine Tri.f 2 [.g false] [.keep [1,2,4,5,6,7,8,57] [1,2,33,35,1100,1101,1102,1107,1108,1109]] rfl ⟨hg7,hd6,trivial⟩ ?_
  rcases bif_some h with ⟨hd8,h⟩ | ⟨hd8,h⟩
  ·refine Tri.f 3 [.g true] [.ownc 10 1 1113 31,.ownc 10 2 1114 31,.ownc 10 3 1115 31,.keep [1,2,4,8,10,63,64] [1,2,10,1100,1101,1102,1107,1113,1114,1115]] rfl ⟨hd8,trivial⟩ ?_
   obtain ⟨x1,hk19,h⟩ := bind_some h
   refine Tri.loop (K1 := [.code [(6,0),(1,0),(1,0),(1,0),(0,0)] 0]) (K2 := [.blk 0,.code [(6,0),(1,0)] 2,.code [] 7]) (fun (v13,v14) => ⟨[(1,.ptr 1 0),(2,.ptr 2 0),(4,.i (a2.length : Int)),(8,.sl 1107 0),(10,.ptr 10 0),(63,.i (a1.length : Int)),(64,.i v13)],[(1,.box [.list (.intss a0),.list (.ints a1),.list (.rats a2)]),(2,.box [.i 0,.sl 1100 0,.sl 1101 0,.sl 1102 0,.i 0,.i 0,.i 0]),(10,.box [.i (2 : Int),.sl 1113 0,.sl 1114 0,.sl 1115 0,.i 0,.i 0,.i v11]),(1100,.arr 31 0 0 (.rats [])),(1101,.arr 31 0 0 (.rats [])),(1102,.arr 31 0 0 (.rats [])),(1107,.arr 31 0 0 (.rats v7)),(1113,.arr 31 0 0 (.rats [])),(1114,.arr 31 0 0 (.rats v14)),(1115,.arr 31 0 0 (.rats []))]⟩) (fun x e σ' => match x with | (.inl v22) => e = .exit 0 ∧ σ' = ⟨[(2,.ptr 2 0),(10,.ptr 10 0)],[(2,.box [.i 0,.sl 1100 0,.sl 1101 0,.sl 1102 0,.i 0,.i 0,.i 0]),(10,.box [.i (2 : Int),.sl 1113 0,.sl 1114 0,.sl 1115 0,.i 0,.i 0,.i v11]),(1100,.arr 31 0 0 (.rats [])),(1101,.arr 31 0 0 (.rats [])),(1102,.arr 31 0 0 (.rats [])),(1113,.arr 31 0 0 (.rats [])),(1114,.arr 31 0 0 (.rats v22)),(1115,.arr 31 0 0 (.rats []))]⟩ | (.inr r) => e = .ret ∧ K176 r σ') hk19 rfl rfl ?_ ?_
   ·intro s x hs
    clear h
    have h := hs
    clear hs
    obtain ⟨v13,v14⟩ := s
    refine Tri.f 1 [] [.keep [1,2,4,8,10,63,64,65] [1,2,10,1100,1101,1102,1107,1113,1114,1115]] rfl trivial ?_
    rcases bif_some h with ⟨hd9,h⟩ | ⟨hd9,h⟩
    ·refine Tri.f 2 [.g true] [.keep [1,2,4,8,10,11,63,64] [1,2,10,1100,1101,1102,1107,1113,1114,1115]] rfl ⟨hd9,trivial⟩ ?_
     obtain ⟨⟨v15,v16⟩,hk10,h⟩ := bind_some h
     obtain ⟨hg11,h⟩ := grd_some h
     obtain ⟨⟨v17,v18,v19⟩,hk12,h⟩ := bind_some h
     refine Tri.f 2 [.v (.agg [.i v15,.i v16]),.v (.tuple [.agg [.i v17,.i v18],.bool v19])] [.keep [1,2,4,8,10,11,12,63,64,79] [1,2,10,12,1100,1101,1102,1107,1113,1114,1115]] rfl ⟨fun _ => W56 v15 v16 ((v7.getD ((IntKind.i64.wrap ((a2.length : Int) + v13)).toNat) ⟨0,0⟩).num) ((v7.getD ((IntKind.i64.wrap ((a2.length : Int) + v13)).toNat) ⟨0,0⟩).den) (v17,v18,v19) hk12,hg11,fun _ => W27 (1 : Int) (v15,v16) hk10,trivial⟩ ?_
     rcases bif_some h with ⟨hd13,h⟩ | ⟨hd13,h⟩
     ·refine Tri.f 2 [.g true] [.ownc 2 1 1116 31,.ownc 2 2 1117 31,.ownc 2 3 1118 31,.swap 1116 1000,.swap 1117 1001,.swap 1118 1002,.keep [2,3] [2,1000,1001,1002]] rfl ⟨hd13,trivial⟩ ?_
      cases h
      exact Tri.ret rfl ⟨nofun,rfl,rfl,rfl⟩
     ·obtain ⟨hg14,h⟩ := grd_some h
      refine Tri.f 2 [.g false] [.keep [1,2,4,8,10,12,63,64,86] [1,2,10,12,1100,1101,1102,1107,1113,1114,1115]] rfl ⟨hg14,hd13,trivial⟩ ?_
      rcases bif_some h with ⟨hd15,h⟩ | ⟨hd15,h⟩
      ·obtain ⟨⟨v20,v21⟩,hk16,h⟩ := bind_some h
       obtain ⟨hg17,h⟩ := grd_some h
       refine Tri.f 3 [.g true,.v (.agg [.i v20,.i v21])] [.keep [1,2,4,8,10,63,64] [1,2,10,1100,1101,1102,1107,1113,1114,1115]] rfl ⟨hg17,fun _ => W40 v17 v18 (v20,v21) hk16,hd15,trivial⟩ ?_
       refine Tri.f 1 [] [.rever 1114,.keep [1,2,4,8,10,63,64] [1,2,10,1100,1101,1102,1107,1113,1114,1115]] rfl trivial ?_
       cases h
       exact Tri.nil ⟨rfl,rfl⟩
      ·obtain ⟨hg18,h⟩ := grd_some h
       refine Tri.f 3 [.g false] [.rever 1114,.keep [1,2,4,8,10,63,64] [1,2,10,1100,1101,1102,1107,1113,1114,1115]] rfl ⟨hg18,hd15,trivial⟩ ?_
       cases h
       exact Tri.nil ⟨rfl,rfl⟩
    ·refine Tri.f 1 [.g false] [.keep [2,10] [2,10,1100,1101,1102,1113,1114,1115]] rfl ⟨hd9,trivial⟩ ?_
     cases h
     exact Tri.out 0 rfl ⟨nofun,rfl,rfl⟩
   ·intro e σ' hne hq
    rcases x1 with v22 | r
    ·obtain ⟨rfl,rfl⟩ := hq
     refine TriX.exit (K' := [.code [(6,0),(1,0)] 2,.code [] 7]) rfl ?_
     refine Tri.f 1 [] [.swap 1113 1000,.swap 1114 1001,.swap 1115 1002,.keep [2,3] [2,1000,1001,1002]] rfl trivial ?_
     cases h
     exact Tri.ret rfl ⟨.inl rfl,rfl,rfl⟩
    ·obtain ⟨rfl,hq⟩ := hq
     cases h
     exact TriX.ret ⟨.inl rfl,hq⟩
  ·refine Tri.f 2 [.g false] [.keep [1,2,4,5,6,7,97,98] [1,2,33,35,1100,1101,1102,1108,1109]] rfl ⟨hd8,trivial⟩ ?_
   obtain ⟨x3,hk31,h⟩ := bind_some h
   refine Tri.loop (K1 := [.code [(7,0),(1,0),(0,0)] 0]) (K2 := [.blk 2,.code [] 8]) (fun (v23,v24,v25,v26,v27,v28) => ⟨[(1,.ptr 1 0),(2,.ptr 2 0),(4,.i (a2.length : Int)),(5,.i (a1.length : Int)),(6,.ptr 33 0),(7,.sl 35 0),(97,.i (a1.length : Int)),(98,.i v23)],[(1,.box [.list (.intss a0),.list (.ints a1),.list (.rats a2)]),(2,.box [.i 0,.sl 1100 0,.sl 1101 0,.sl 1102 0,.i 0,.i 0,.i 0]),(33,.box [.sl 1108 0,.sl 1109 0,.i v24,.i v25,.bool v26]),(35,.arr 3 0 0 (.ints (List.replicate (a2.length : Int).toNat (0 : Int)))),(1100,.arr 31 0 0 (.rats [])),(1101,.arr 31 0 0 (.rats [])),(1102,.arr 31 0 0 (.rats [])),(1108,.arr 26 0 0 (.ratss v27)),(1109,.arr 3 0 0 (.ints v28))]⟩) (fun x e σ' => match x with | (.inl (v42,v43,v44,v45,v46)) => e = .exit 2 ∧ σ' = ⟨[(1,.ptr 1 0),(2,.ptr 2 0),(4,.i (a2.length : Int)),(5,.i (a1.length : Int)),(6,.ptr 33 0),(7,.sl 35 0)],[(1,.box [.list (.intss a0),.list (.ints a1),.list (.rats a2)]),(2,.box [.i 0,.sl 1100 0,.sl 1101 0,.sl 1102 0,.i 0,.i 0,.i 0]),(33,.box [.sl 1108 0,.sl 1109 0,.i v42,.i v43,.bool v44]),(35,.arr 3 0 0 (.ints (List.replicate (a2.length : Int).toNat (0 : Int)))),(1100,.arr 31 0 0 (.rats [])),(1101,.arr 31 0 0 (.rats [])),(1102,.arr 31 0 0 (.rats [])),(1108,.arr 26 0 0 (.ratss v45)),(1109,.arr 3 0 0 (.ints v46))]⟩ | (.inr r) => e = .ret ∧ K176 r σ') hk31 rfl rfl ?_ ?_
   ·intro s x hs
    clear h
    have h := hs
    clear hs
    obtain ⟨v23,v24,v25,v26,v27,v28⟩ := s
    refine Tri.f 1 [] [.keep [1,2,4,5,6,7,97,98,99] [1,2,33,35,1100,1101,1102,1108,1109]] rfl trivial ?_
    rcases bif_some h with ⟨hd20,h⟩ | ⟨hd20,h⟩
    ·obtain ⟨hg21,h⟩ := grd_some h
     refine Tri.f 3 [.g true] [.keep [1,2,4,5,6,7,14,97,98,110] [1,2,33,35,1100,1101,1102,1108,1109]] rfl ⟨hg21,hd20,trivial⟩ ?_
     rcases bif_some h with ⟨hd22,h⟩ | ⟨hd22,h⟩
     ·refine Tri.f 2 [.g true] [.keep [1,2,4,5,6,7,97,98] [1,2,33,35,1100,1101,1102,1108,1109]] rfl ⟨hd22,trivial⟩ ?_
      cases h
      exact Tri.nil ⟨rfl,rfl⟩
     ·refine Tri.f 2 [.g false] [.keep [1,2,4,5,6,7,14,97,98,111,112] [1,2,33,35,1100,1101,1102,1108,1109]] rfl ⟨hd22,trivial⟩ ?_
      obtain ⟨x3,hk29,h⟩ := bind_some h
      refine Tri.loop (K1 := [.code [(7,0),(1,0),(0,0),(2,0),(0,0),(2,0),(1,0),(0,0)] 0]) (K2 := [.blk 4,.code [(7,0),(1,0),(0,0),(2,0),(0,0)] 3,.blk 3,.code [(7,0),(1,0),(0,0)] 3]) (fun v29 => ⟨[(1,.ptr 1 0),(2,.ptr 2 0),(4,.i (a2.length : Int)),(5,.i (a1.length : Int)),(6,.ptr 33 0),(7,.sl 35 0),(14,.i v23),(97,.i (a1.length : Int)),(98,.i v23),(111,.i (a2.length : Int)),(112,.i v29)],[(1,.box [.list (.intss a0),.list (.ints a1),.list (.rats a2)]),(2,.box [.i 0,.sl 1100 0,.sl 1101 0,.sl 1102 0,.i 0,.i 0,.i 0]),(33,.box [.sl 1108 0,.sl 1109 0,.i v24,.i v25,.bool v26]),(35,.arr 3 0 0 (.ints (List.replicate (a2.length : Int).toNat (0 : Int)))),(1100,.arr 31 0 0 (.rats [])),(1101,.arr 31 0 0 (.rats [])),(1102,.arr 31 0 0 (.rats [])),(1108,.arr 26 0 0 (.ratss v27)),(1109,.arr 3 0 0 (.ints v28))]⟩) (fun x e σ' => match x with | (v37,v38,v39,v40,v41) => e = .exit 4 ∧ σ' = ⟨[(1,.ptr 1 0),(2,.ptr 2 0),(4,.i (a2.length : Int)),(5,.i (a1.length : Int)),(6,.ptr 33 0),(7,.sl 35 0),(97,.i (a1.length : Int)),(98,.i v23)],[(1,.box [.list (.intss a0),.list (.ints a1),.list (.rats a2)]),(2,.box [.i 0,.sl 1100 0,.sl 1101 0,.sl 1102 0,.i 0,.i 0,.i 0]),(33,.box [.sl 1119 0,.sl 1120 0,.i v37,.i v38,.bool v39]),(35,.arr 3 0 0 (.ints (List.replicate (a2.length : Int).toNat (0 : Int)))),(1100,.arr 31 0 0 (.rats [])),(1101,.arr 31 0 0 (.rats [])),(1102,.arr 31 0 0 (.rats [])),(1119,.arr 26 0 0 (.ratss v40)),(1120,.arr 3 0 0 (.ints v41))]⟩) hk29 rfl rfl ?_ ?_
      ·intro v29 x hs
       clear h
       have h := hs
       clear hs
       refine Tri.f 1 [] [.keep [1,2,4,5,6,7,14,97,98,111,112,113] [1,2,33,35,1100,1101,1102,1108,1109]] rfl trivial ?_
       rcases bif_some h with ⟨hd23,h⟩ | ⟨hd23,h⟩
       ·refine Tri.f 2 [.g true] [.keep [1,2,4,5,6,7,14,15,97,98,111,112] [1,2,33,35,1100,1101,1102,1108,1109]] rfl ⟨hd23,trivial⟩ ?_
        obtain ⟨hg24,h⟩ := grd_some h
        obtain ⟨hg25,h⟩ := grd_some h
        obtain ⟨⟨v30,v31⟩,hk26,h⟩ := bind_some h
        refine Tri.f 1 [.v (.agg [.i v30,.i v31])] [.keep [1,2,4,5,6,7,14,15,97,98,111,112,127] [1,2,33,35,1100,1101,1102,1108,1109]] rfl ⟨fun _ => W27 (0 : Int) (v30,v31) hk26,hg25,hg24,trivial⟩ ?_
        rcases bif_some h with ⟨hd27,h⟩ | ⟨hd27,h⟩
        ·obtain ⟨⟨v32,v33,v34,v35,v36⟩,hk28,h⟩ := bind_some h
         refine Tri.f 2 [.g true,.r ⟨[33,1108,1109],.tuple [],[(1119,.arr 26 0 0 (.ratss v32)),(1120,.arr 3 0 0 (.ints v33)),(33,.box [.sl 1119 0,.sl 1120 0,.i v34,.i v35,.bool v36])]⟩] [.keep [1,2,4,5,6,7,97,98] [1,2,33,35,1100,1101,1102,1119,1120]] rfl ⟨fun _ => (((((W54 v27 v28 v24 v25 v26 v23 v29 (v32,v33,v34,v35,v36) hk28).swap 1000 1119).swap 1001 1120).swap 2180 33).swap 2181 1108).swap 2182 1109,hd27,trivial⟩ ?_
         cases h
         exact Tri.out 4 rfl ⟨nofun,rfl,rfl⟩
        ·refine Tri.f 2 [.g false] [.keep [1,2,4,5,6,7,14,97,98,111,112] [1,2,33,35,1100,1101,1102,1108,1109]] rfl ⟨hd27,trivial⟩ ?_
         cases h
         exact Tri.nil ⟨rfl,rfl⟩
       ·refine Tri.f 1 [.g false] [.swap 1108 1119,.swap 1109 1120,.keep [1,2,4,5,6,7,97,98] [1,2,33,35,1100,1101,1102,1119,1120]] rfl ⟨hd23,trivial⟩ ?_
        cases h
        exact Tri.out 4 rfl ⟨nofun,rfl,rfl⟩
      ·intro e σ' hne hq
       obtain ⟨v37,v38,v39,v40,v41⟩ := x3
       obtain ⟨rfl,rfl⟩ := hq
       refine TriX.exit (K' := [.code [(7,0),(1,0),(0,0),(2,0),(0,0)] 3,.blk 3,.code [(7,0),(1,0),(0,0)] 3]) rfl ?_
       refine Tri.f 1 [] [.keep [1,2,4,5,6,7,97,98,136] [1,2,33,35,1100,1101,1102,1119,1120]] rfl trivial ?_
       rcases bif_some h with ⟨hd30,h⟩ | ⟨hd30,h⟩
       ·refine Tri.f 2 [.g true] [.ownc 2 1 1121 31,.ownc 2 2 1122 31,.ownc 2 3 1123 31,.swap 1121 1000,.swap 1122 1001,.swap 1123 1002,.keep [2,3] [2,1000,1001,1002]] rfl ⟨hd30,trivial⟩ ?_
        cases h
        exact Tri.ret rfl ⟨nofun,rfl,rfl,rfl⟩
       ·refine Tri.f 2 [.g false] [.swap 1119 1108,.swap 1120 1109,.keep [1,2,4,5,6,7,97,98] [1,2,33,35,1100,1101,1102,1108,1109]] rfl ⟨hd30,trivial⟩ ?_
        cases h
        exact Tri.nil ⟨rfl,rfl⟩
    ·refine Tri.f 1 [.g false] [.keep [1,2,4,5,6,7] [1,2,33,35,1100,1101,1102,1108,1109]] rfl ⟨hd20,trivial⟩ ?_
     cases h
     exact Tri.out 2 rfl ⟨nofun,rfl,rfl⟩
   ·intro e σ' hne hq
    rcases x3 with ⟨v42,v43,v44,v45,v46⟩ | r
    ·obtain ⟨rfl,rfl⟩ := hq
     refine TriX.exit (K' := [.code [] 8]) rfl ?_
     obtain ⟨v47,hk32,h⟩ := bind_some h
     obtain ⟨⟨v48,v49,v50,v51,v52,v53,v54⟩,hk33,h⟩ := bind_some h
     refine Tri.f 2 [.r ⟨[],.sl 1124 0,[(1124,.arr 31 0 0 (.rats v47))]⟩,.r ⟨[33,1108,1109],.tuple [.sl 1125 0,.i v48],[(1125,.arr 31 0 0 (.rats v49)),(1126,.arr 26 0 0 (.ratss v50)),(1127,.arr 3 0 0 (.ints v51)),(33,.box [.sl 1126 0,.sl 1127 0,.i v52,.i v53,.bool v54])]⟩] [.keep [1,2,4,5,6,7,8,16,151] [1,2,33,35,1100,1101,1102,1125,1126,1127]] rfl ⟨fun _ => ((((((W55 v45 v46 v42 v43 v44 v47 (v48,v49,v50,v51,v52,v53,v54) hk33).swap 1000 1125).swap 1001 1126).swap 1002 1127).swap 2160 33).swap 2161 1108).swap 2162 1109,fun _ => (W31 a2 (0 : Int) (a1.length : Int) v47 hk32).swap 1000 1124,trivial⟩ ?_
     rcases bif_some h with ⟨hd34,h⟩ | ⟨hd34,h⟩
     ·refine Tri.f 2 [.g true] [.ownc 2 1 1128 31,.ownc 2 2 1129 31,.ownc 2 3 1130 31,.swap 1128 1000,.swap 1129 1001,.swap 1130 1002,.keep [2,3] [2,1000,1001,1002]] rfl ⟨hd34,trivial⟩ ?_
      cases h
      exact Tri.ret rfl ⟨.inl rfl,rfl,rfl⟩
     ·obtain ⟨v55,hk35,h⟩ := bind_some h
      obtain ⟨hg36,h⟩ := grd_some h
      refine Tri.f 2 [.g false,.r ⟨[],.sl 1131 0,[(1131,.arr 31 0 0 (.rats v55))]⟩] [.keep [1,2,4,5,6,7,8,16,17] [1,2,33,35,1100,1101,1102,1125,1126,1127,1131],.trunc 17,.keep [1,2,4,5,6,7,8,16,17] [1,2,33,35,1100,1101,1102,1125,1126,1127,1131]] rfl ⟨hg36,fun _ => (W57 v50 v51 v52 v55 hk35).swap 1000 1131,hd34,trivial⟩ ?_
      refine Tri.f 1 [] [.keep [1,2,4,5,6,7,8,16,17,161] [1,2,33,35,1100,1101,1102,1125,1126,1127,1131]] rfl trivial ?_
      rcases bif_some h with ⟨hd37,h⟩ | ⟨hd37,h⟩
      ·refine Tri.f 1 [.g true] [.keep [2,4,6,7,16,17] [2,33,35,1100,1101,1102,1126,1127,1131],.rever 1131,.keep [2,4,6,7,16,17] [2,33,35,1100,1101,1102,1126,1127,1131]] rfl ⟨hd37,trivial⟩ ?_
       obtain ⟨v56,hk38,h⟩ := bind_some h
       obtain ⟨⟨v57,v58⟩,hk39,h⟩ := bind_some h
       obtain ⟨hg40,h⟩ := grd_some h
       refine Tri.f 3 [.r ⟨[],.sl 1132 0,[(1132,.arr 31 0 0 (.rats v56))]⟩,.v (.agg [.i v57,.i v58])] [.keep [2,4,6,16,17,18,172,173,174] [2,33,1100,1101,1102,1126,1127,1131,1132]] rfl ⟨hg40,fun _ => W27 (1 : Int) (v57,v58) hk39,fun _ => (W30 (List.replicate (a2.length : Int).toNat (0 : Int)) v56 hk38).swap 1000 1132,trivial⟩ ?_
       obtain ⟨v63,hk48,h⟩ := bind_some h
       refine Tri.loop (K1 := [.code [(11,0),(1,0),(2,0),(1,0),(0,0)] 0]) (K2 := [.blk 6,.code [(11,0),(1,0)] 3,.code [] 12]) (fun (v59,v60) => ⟨[(2,.ptr 2 0),(4,.i (a2.length : Int)),(6,.ptr 33 0),(16,.i v48),(17,.sl 1131 0),(18,.sl 1132 0),(172,.sl 1127 0),(173,.i (v51.length : Int)),(174,.i v59)],[(2,.box [.i 0,.sl 1100 0,.sl 1101 0,.sl 1102 0,.i 0,.i 0,.i 0]),(33,.box [.sl 1126 0,.sl 1127 0,.i v52,.i v53,.bool v54]),(1100,.arr 31 0 0 (.rats [])),(1101,.arr 31 0 0 (.rats [])),(1102,.arr 31 0 0 (.rats [])),(1126,.arr 26 0 0 (.ratss v50)),(1127,.arr 3 0 0 (.ints v51)),(1131,.arr 31 0 0 (.rats (v55.take ((a2.length : Int).toNat)))),(1132,.arr 31 0 0 (.rats v60))]⟩) (fun x e σ' => match x with | v63 => e = .exit 6 ∧ σ' = ⟨[(2,.ptr 2 0),(6,.ptr 33 0),(17,.sl 1131 0),(18,.sl 1132 0)],[(2,.box [.i 0,.sl 1100 0,.sl 1101 0,.sl 1102 0,.i 0,.i 0,.i 0]),(33,.box [.sl 1126 0,.sl 1127 0,.i v52,.i v53,.bool v54]),(1100,.arr 31 0 0 (.rats [])),(1101,.arr 31 0 0 (.rats [])),(1102,.arr 31 0 0 (.rats [])),(1126,.arr 26 0 0 (.ratss v50)),(1127,.arr 3 0 0 (.ints v51)),(1131,.arr 31 0 0 (.rats (v55.take ((a2.length : Int).toNat)))),(1132,.arr 31 0 0 (.rats v63))]⟩) hk48 rfl rfl ?_ ?_
       ·intro s x hs
        clear h
        have h := hs
        clear hs
        obtain ⟨v59,v60⟩ := s
        refine Tri.f 1 [] [.keep [2,4,6,16,17,18,172,173,174,175] [2,33,1100,1101,1102,1126,1127,1131,1132]] rfl trivial ?_
        rcases bif_some h with ⟨hd41,h⟩ | ⟨hd41,h⟩
        ·obtain ⟨hg42,h⟩ := grd_some h
         refine Tri.f 3 [.g true] [.keep [2,4,6,16,17,18,19,20,172,173,174,181] [2,33,1100,1101,1102,1126,1127,1131,1132]] rfl ⟨hg42,hd41,trivial⟩ ?_
         rcases bif_some h with ⟨hd43,h⟩ | ⟨hd43,h⟩
         ·obtain ⟨hg44,h⟩ := grd_some h
          obtain ⟨hg45,h⟩ := grd_some h
          obtain ⟨⟨v61,v62⟩,hk46,h⟩ := bind_some h
          obtain ⟨hg47,h⟩ := grd_some h
          refine Tri.f 3 [.g true,.v (.agg [.i v61,.i v62])] [.keep [2,4,6,16,17,18,172,173,174] [2,33,1100,1101,1102,1126,1127,1131,1132]] rfl ⟨hg47,fun _ => W40 (((v50.getD v59.toNat []).getD v48.toNat ⟨0,0⟩).num) (((v50.getD v59.toNat []).getD v48.toNat ⟨0,0⟩).den) (v61,v62) hk46,hg45,hg44,hd43,trivial⟩ ?_
          cases h
          exact Tri.nil ⟨rfl,rfl⟩
         ·refine Tri.f 2 [.g false] [.keep [2,4,6,16,17,18,172,173,174] [2,33,1100,1101,1102,1126,1127,1131,1132]] rfl ⟨hd43,trivial⟩ ?_
          cases h
          exact Tri.nil ⟨rfl,rfl⟩
        ·refine Tri.f 1 [.g false] [.keep [2,6,17,18] [2,33,1100,1101,1102,1126,1127,1131,1132]] rfl ⟨hd41,trivial⟩ ?_
         cases h
         exact Tri.out 6 rfl ⟨nofun,rfl,rfl⟩
       ·intro e σ' hne hq
        obtain ⟨rfl,rfl⟩ := hq
        refine TriX.exit (K' := [.code [(11,0),(1,0)] 3,.code [] 12]) rfl ?_
        refine Tri.f 1 [] [.ownc 2 2 1133 31,.swap 1131 1000,.swap 1133 1001,.swap 1132 1002,.keep [2,3] [2,1000,1001,1002]] rfl trivial ?_
        cases h
        exact Tri.ret rfl ⟨.inl rfl,rfl,rfl⟩
      ·refine Tri.f 1 [.g false] [.keep [1,2,4,5,6,8,17] [1,2,33,1100,1101,1102,1125,1126,1127,1131],.rever 1131,.keep [1,2,4,5,6,8,17] [1,2,33,1100,1101,1102,1125,1126,1127,1131]] rfl ⟨hd37,trivial⟩ ?_
       obtain ⟨hg49,h⟩ := grd_some h
       obtain ⟨⟨v64,v65⟩,hk50,h⟩ := bind_some h
       refine Tri.f 2 [.v (.agg [.i v64,.i v65])] [.ownc 21 2 1134 31,.ownc 21 3 1135 31,.keep [1,2,4,8,21,218,219] [1,2,21,1100,1101,1102,1125,1131,1134,1135]] rfl ⟨fun _ => W40 ((v49.getD ((IntKind.i64.wrap ((v49.length : Int) - 1)).toNat) ⟨0,0⟩).num) ((v49.getD ((IntKind.i64.wrap ((v49.length : Int) - 1)).toNat) ⟨0,0⟩).den) (v64,v65) hk50,hg49,trivial⟩ ?_
       obtain ⟨v72,hk59,h⟩ := bind_some h
       refine Tri.loop (K1 := [.code [(13,0),(1,0),(0,0)] 0]) (K2 := [.blk 8,.code [] 14]) (fun (v66,v67) => ⟨[(1,.ptr 1 0),(2,.ptr 2 0),(4,.i (a2.length : Int)),(8,.sl 1125 0),(21,.ptr 21 0),(218,.i (a1.length : Int)),(219,.i v66)],[(1,.box [.list (.intss a0),.list (.ints a1),.list (.rats a2)]),(2,.box [.i 0,.sl 1100 0,.sl 1101 0,.sl 1102 0,.i 0,.i 0,.i 0]),(21,.box [.i (1 : Int),.sl 1131 0,.sl 1134 0,.sl 1135 0,.i v64,.i v65,.i v53]),(1100,.arr 31 0 0 (.rats [])),(1101,.arr 31 0 0 (.rats [])),(1102,.arr 31 0 0 (.rats [])),(1125,.arr 31 0 0 (.rats v49)),(1131,.arr 31 0 0 (.rats (v55.take ((a2.length : Int).toNat)))),(1134,.arr 31 0 0 (.rats v67)),(1135,.arr 31 0 0 (.rats []))]⟩) (fun x e σ' => match x with | v72 => e = .exit 8 ∧ σ' = ⟨[(2,.ptr 2 0),(21,.ptr 21 0)],[(2,.box [.i 0,.sl 1100 0,.sl 1101 0,.sl 1102 0,.i 0,.i 0,.i 0]),(21,.box [.i (1 : Int),.sl 1131 0,.sl 1134 0,.sl 1135 0,.i v64,.i v65,.i v53]),(1100,.arr 31 0 0 (.rats [])),(1101,.arr 31 0 0 (.rats [])),(1102,.arr 31 0 0 (.rats [])),(1131,.arr 31 0 0 (.rats (v55.take ((a2.length : Int).toNat)))),(1134,.arr 31 0 0 (.rats v72)),(1135,.arr 31 0 0 (.rats []))]⟩) hk59 rfl rfl ?_ ?_
       ·intro s x hs
        clear h
        have h := hs
        clear hs
        obtain ⟨v66,v67⟩ := s
        refine Tri.f 1 [] [.keep [1,2,4,8,21,218,219,220] [1,2,21,1100,1101,1102,1125,1131,1134,1135]] rfl trivial ?_
        rcases bif_some h with ⟨hd51,h⟩ | ⟨hd51,h⟩
        ·refine Tri.f 2 [.g true] [.keep [1,2,4,8,21,22,218,219] [1,2,21,1100,1101,1102,1125,1131,1134,1135]] rfl ⟨hd51,trivial⟩ ?_
         obtain ⟨hg52,h⟩ := grd_some h
         obtain ⟨⟨v68,v69⟩,hk53,h⟩ := bind_some h
         obtain ⟨hg54,h⟩ := grd_some h
         refine Tri.f 2 [.v (.agg [.i v68,.i v69])] [.keep [1,2,4,8,21,23,218,219,234] [1,2,21,23,1100,1101,1102,1125,1131,1134,1135]] rfl ⟨hg54,fun _ => W40 ((v49.getD ((IntKind.i64.wrap ((a2.length : Int) + v66)).toNat) ⟨0,0⟩).num) ((v49.getD ((IntKind.i64.wrap ((a2.length : Int) + v66)).toNat) ⟨0,0⟩).den) (v68,v69) hk53,hg52,trivial⟩ ?_
         rcases bif_some h with ⟨hd55,h⟩ | ⟨hd55,h⟩
         ·obtain ⟨⟨v70,v71⟩,hk56,h⟩ := bind_some h
          obtain ⟨hg57,h⟩ := grd_some h
          refine Tri.f 3 [.g true,.v (.agg [.i v70,.i v71])] [.keep [1,2,4,8,21,218,219] [1,2,21,1100,1101,1102,1125,1131,1134,1135]] rfl ⟨hg57,fun _ => W40 v68 v69 (v70,v71) hk56,hd55,trivial⟩ ?_
          refine Tri.f 1 [] [.rever 1134,.keep [1,2,4,8,21,218,219] [1,2,21,1100,1101,1102,1125,1131,1134,1135]] rfl trivial ?_
          cases h
          exact Tri.nil ⟨rfl,rfl⟩
         ·obtain ⟨hg58,h⟩ := grd_some h
          refine Tri.f 3 [.g false] [.rever 1134,.keep [1,2,4,8,21,218,219] [1,2,21,1100,1101,1102,1125,1131,1134,1135]] rfl ⟨hg58,hd55,trivial⟩ ?_
          cases h
          exact Tri.nil ⟨rfl,rfl⟩
        ·refine Tri.f 1 [.g false] [.keep [2,21] [2,21,1100,1101,1102,1131,1134,1135]] rfl ⟨hd51,trivial⟩ ?_
         cases h
         exact Tri.out 8 rfl ⟨nofun,rfl,rfl⟩
       ·intro e σ' hne hq
        obtain ⟨rfl,rfl⟩ := hq
        refine TriX.exit (K' := [.code [] 14]) rfl ?_
        refine Tri.f 1 [] [.swap 1131 1000,.swap 1134 1001,.swap 1135 1002,.keep [2,3] [2,1000,1001,1002]] rfl trivial ?_
        cases h
        exact Tri.ret rfl ⟨.inl rfl,rfl,rfl⟩
    ·obtain ⟨rfl,hq⟩ := hq
     cases h
     exact TriX.ret ⟨.inl rfl,hq⟩
noncomputable def E294 : Env := ⟨Tryz.prog,tys,(Tryz.f95.body).getD .skip,11,tysOk,mixedOk⟩
abbrev K177 (r : Bool) (σ' : ASt) : Prop := isRes E294.T Tryz.f95 (.bool r) [] σ'
noncomputable def m_impl_notNegative_1 (a0 a1 : Int) : Option Bool :=
(m_impl_IsValidRat a0 a1).bind fun v1 =>
bif !v1 then
(some true)
else
(some (decide (a0 < 0)))
theorem W59 (a0 a1 : Int) (r : Bool) (h : m_impl_notNegative_1 a0 a1 = some r) : AM.Spec Tryz.prog 95 [.agg [.i a0,.i a1]] [] (.bool r) [] := by
 refine spec_of (E := E294) Tryz.func95 rfl rfl rfl rfl ?_
 refine Tri.f 1 [] [.keep [1] [1]] rfl trivial ?_
 obtain ⟨v1,hk1,h⟩ := bind_some h
 rcases bif_some h with ⟨hd2,h⟩ | ⟨hd2,h⟩
 ·refine Tri.f 1 [.v (.bool v1),.g true] [.keep [2] []] rfl ⟨hd2,fun _ => W18 a0 a1 v1 hk1,trivial⟩ ?_
  cases h
  exact Tri.ret rfl ⟨.inl rfl,rfl,rfl⟩
 ·refine Tri.f 1 [.v (.bool v1),.g false] [.keep [2] []] rfl ⟨hd2,fun _ => W18 a0 a1 v1 hk1,trivial⟩ ?_
  cases h
  exact Tri.ret rfl ⟨.inl rfl,rfl,rfl⟩
abbrev K178 (r : Int) (σ' : ASt) : Prop := isRes E257.T Tryz.f105 (.i r) [] σ'
noncomputable def l_slices_IndexFunc_impl_Rat_impl_Rat_impl_notNegative_1_0 (a0 : List Q) (v1 : Int) : Option (Int ⊕ (Unit ⊕ Int)) :=
bif decide (v1 < (a0.length : Int)) then
(grd (0 ≤ v1 ∧ v1 < (a0.length : Int)) <|
(m_impl_notNegative_1 ((a0.getD v1.toNat ⟨0,0⟩).num) ((a0.getD v1.toNat ⟨0,0⟩).den)).bind fun v2 =>
bif v2 then
(some (.inr (.inr v1)))
else
(some (.inl (IntKind.i64.wrap (v1 + 1)))))
else
(some (.inr (.inl ())))
noncomputable def m_slices_IndexFunc_impl_Rat_impl_Rat_impl_notNegative_1 (a0 : List Q) : Option Int :=
(iter (l_slices_IndexFunc_impl_Rat_impl_Rat_impl_notNegative_1_0 a0) (0 : Int)).bind fun
| (.inl _) => (
some (-1 : Int))
| (.inr r) => some r
theorem W60 (a0 : List Q) (r : Int) (h : m_slices_IndexFunc_impl_Rat_impl_Rat_impl_notNegative_1 a0 = some r) : AM.Spec Tryz.prog 105 [.list (.rats a0),.func 95 [] []] [] (.i r) [] := by
 refine spec_of (E := E257) Tryz.func105 rfl rfl rfl rfl ?_
 refine Tri.f 2 [] [.keep [0,1,7,8] []] rfl trivial ?_
 obtain ⟨x1,hk5,h⟩ := bind_some h
 refine Tri.loop (K1 := [.code [(1,0),(1,0),(0,0)] 0]) (K2 := [.blk 0,.code [] 2]) (fun v1 => ⟨[(0,.list (.rats a0)),(1,.func 95 [] []),(7,.i (a0.length : Int)),(8,.i v1)],[]⟩) (fun x e σ' => match x with | (.inl _) => e = .exit 0 ∧ σ' = ⟨[],[]⟩ | (.inr r) => e = .ret ∧ K178 r σ') hk5 rfl rfl ?_ ?_
 ·intro v1 x hs
  clear h
  have h := hs
  clear hs
  refine Tri.f 1 [] [.keep [0,1,7,8,9] []] rfl trivial ?_
  rcases bif_some h with ⟨hd1,h⟩ | ⟨hd1,h⟩
  ·refine Tri.f 2 [.g true] [.keep [0,1,5,7,8] []] rfl ⟨hd1,trivial⟩ ?_
   obtain ⟨hg2,h⟩ := grd_some h
   obtain ⟨v2,hk3,h⟩ := bind_some h
   refine Tri.f 1 [.v (.bool v2)] [.keep [0,1,5,7,8,16] []] rfl ⟨fun _ => W59 ((a0.getD v1.toNat ⟨0,0⟩).num) ((a0.getD v1.toNat ⟨0,0⟩).den) v2 hk3,hg2,trivial⟩ ?_
   rcases bif_some h with ⟨hd4,h⟩ | ⟨hd4,h⟩
   ·refine Tri.f 2 [.g true] [.keep [4] []] rfl ⟨hd4,trivial⟩ ?_
    cases h
    exact Tri.ret rfl ⟨nofun,rfl,rfl,rfl⟩
   ·refine Tri.f 2 [.g false] [.keep [0,1,7,8] []] rfl ⟨hd4,trivial⟩ ?_
    cases h
    exact Tri.nil ⟨rfl,rfl⟩
  ·refine Tri.f 1 [.g false] [.keep [] []] rfl ⟨hd1,trivial⟩ ?_
   cases h
   exact Tri.out 0 rfl ⟨nofun,rfl,rfl⟩
 ·intro e σ' hne hq
  rcases x1 with _ | r
  ·obtain ⟨rfl,rfl⟩ := hq
   refine TriX.exit (K' := [.code [] 2]) rfl ?_
   refine Tri.f 1 [] [.keep [4] []] rfl trivial ?_
   cases h
   exact Tri.ret rfl ⟨.inl rfl,rfl,rfl⟩
  ·obtain ⟨rfl,hq⟩ := hq
   cases h
   exact TriX.ret ⟨.inl rfl,hq⟩
abbrev K179 (r : Bool) (σ' : ASt) : Prop := isRes E258.T Tryz.f78 (.bool r) [] σ'
noncomputable def m_slices_ContainsFunc_impl_Rat_impl_Rat_impl_notNegative_1 (a0 : List Q) : Option Bool :=
(m_slices_IndexFunc_impl_Rat_impl_Rat_impl_notNegative_1 a0).bind fun v1 =>
some (decide (v1 ≥ 0))
theorem W61 (a0 : List Q) (r : Bool) (h : m_slices_ContainsFunc_impl_Rat_impl_Rat_impl_notNegative_1 a0 = some r) : AM.Spec Tryz.prog 78 [.list (.rats a0),.func 95 [] []] [] (.bool r) [] := by
 refine spec_of (E := E258) Tryz.func78 rfl rfl rfl rfl ?_
 refine Tri.f 1 [] [.keep [0,1] []] rfl trivial ?_
 obtain ⟨v1,hk1,h⟩ := bind_some h
 refine Tri.f 1 [.v (.i v1)] [.keep [4] []] rfl ⟨fun _ => W60 a0 v1 hk1,trivial⟩ ?_
 cases h
 exact Tri.ret rfl ⟨.inl rfl,rfl,rfl⟩
noncomputable def E295 : Env := ⟨Tryz.prog,tys,(Tryz.f49.body).getD .skip,14,tysOk,mixedOk⟩
abbrev K180 (r : Bool) (σ' : ASt) : Prop := isRes E295.T Tryz.f49 (.bool r) [] σ'
noncomputable def m_impl_notNegative (a0 : List Q) (a1 : Int) : Option Bool :=
bif (a0.length : Int) == a1 then
((m_slices_ContainsFunc_impl_Rat_impl_Rat_impl_notNegative_1 a0).bind fun v1 =>
some (!v1))
else
(some false)
theorem W62 (a0 : List Q) (a1 : Int) (r : Bool) (h : m_impl_notNegative a0 a1 = some r) : AM.Spec Tryz.prog 49 [.list (.rats a0),.i a1] [] (.bool r) [] := by
 refine spec_of (E := E295) Tryz.func49 rfl rfl rfl rfl ?_
 refine Tri.f 1 [] [.keep [0,1] []] rfl trivial ?_
 rcases bif_some h with ⟨hd1,h⟩ | ⟨hd1,h⟩
 ·obtain ⟨v1,hk2,h⟩ := bind_some h
  refine Tri.f 1 [.g true,.v (.bool v1)] [.keep [4] []] rfl ⟨fun _ => W61 a0 v1 hk2,hd1,trivial⟩ ?_
  cases h
  exact Tri.ret rfl ⟨.inl rfl,rfl,rfl⟩
 ·refine Tri.f 1 [.g false] [.keep [4] []] rfl ⟨hd1,trivial⟩ ?_
  cases h
  exact Tri.ret rfl ⟨.inl rfl,rfl,rfl⟩
noncomputable def E296 : Env := ⟨Tryz.prog,tys,(Tryz.f45.body).getD .skip,52,tysOk,mixedOk⟩
abbrev K181 (r : Int × Int × Bool) (σ' : ASt) : Prop := isRes E296.T Tryz.f45 (.tuple [.agg [.i r.1,.i r.2.1],.bool r.2.2]) [] σ'
noncomputable def l_impl_DotRat_0 (a0 a1 : List Q) : (Int × Int × Int) → Option ((Int × Int × Int) ⊕ ((Int × Int) ⊕ ((Int × Int × Bool))))
 | (v3,v4,v5) => (
bif decide (v3 < (a0.length : Int)) then
(grd (0 ≤ v3 ∧ v3 < (a0.length : Int)) <|
grd (0 ≤ v3 ∧ v3 < (a1.length : Int)) <|
(m_impl_MulRat ((a0.getD v3.toNat ⟨0,0⟩).num) ((a0.getD v3.toNat ⟨0,0⟩).den) ((a1.getD v3.toNat ⟨0,0⟩).num) ((a1.getD v3.toNat ⟨0,0⟩).den)).bind fun (v6,v7,v8) =>
(m_impl_AddRat v4 v5 v6 v7).bind fun (v9,v10,v11) =>
bif !v8 then
(some (.inr (.inr (0,0,false))))
else
(bif !v11 then
(some (.inr (.inr (0,0,false))))
else
(some (.inl (IntKind.i64.wrap (v3 + 1),v9,v10)))))
else
(some (.inr (.inl (v4,v5)))))
noncomputable def m_impl_DotRat (a0 a1 : List Q) : Option (Int × Int × Bool) :=
bif (a0.length : Int) != (a1.length : Int) then
(some (0,0,false))
else
((m_impl_whole (0 : Int)).bind fun (v1,v2) =>
(iter (l_impl_DotRat_0 a0 a1) ((0 : Int),v1,v2)).bind fun
| (.inl (v12,v13)) => (
some (v12,v13,true))
| (.inr r) => some r)
theorem W63 (a0 a1 : List Q) (r : Int × Int × Bool) (h : m_impl_DotRat a0 a1 = some r) : AM.Spec Tryz.prog 45 [.list (.rats a0),.list (.rats a1)] [] (.tuple [.agg [.i r.1,.i r.2.1],.bool r.2.2]) [] := by
 refine spec_of (E := E296) Tryz.func45 rfl rfl rfl rfl ?_
 refine Tri.f 2 [] [.keep [0,1,4,16] [4]] rfl trivial ?_
 rcases bif_some h with ⟨hd1,h⟩ | ⟨hd1,h⟩
 ·refine Tri.f 2 [.g true] [.keep [4,5] [4]] rfl ⟨hd1,trivial⟩ ?_
  cases h
  exact Tri.ret rfl ⟨.inl rfl,rfl,rfl⟩
 ·obtain ⟨⟨v1,v2⟩,hk2,h⟩ := bind_some h
  refine Tri.f 3 [.g false,.v (.agg [.i v1,.i v2])] [.keep [0,1,4,6,20,21] [4,6]] rfl ⟨fun _ => W27 (0 : Int) (v1,v2) hk2,hd1,trivial⟩ ?_
  obtain ⟨x1,hk10,h⟩ := bind_some h
  refine Tri.loop (K1 := [.code [(3,0),(1,0),(0,0)] 0]) (K2 := [.blk 0,.code [] 4]) (fun (v3,v4,v5) => ⟨[(0,.list (.rats a0)),(1,.list (.rats a1)),(4,.ptr 4 0),(6,.ptr 6 0),(20,.i (a0.length : Int)),(21,.i v3)],[(4,.box [.i 0,.i 0]),(6,.box [.i v4,.i v5])]⟩) (fun x e σ' => match x with | (.inl (v12,v13)) => e = .exit 0 ∧ σ' = ⟨[(4,.ptr 4 0),(6,.ptr 6 0)],[(4,.box [.i 0,.i 0]),(6,.box [.i v12,.i v13])]⟩ | (.inr r) => e = .ret ∧ K181 r σ') hk10 rfl rfl ?_ ?_
  ·intro s x hs
   clear h
   have h := hs
   clear hs
   obtain ⟨v3,v4,v5⟩ := s
   refine Tri.f 1 [] [.keep [0,1,4,6,20,21,22] [4,6]] rfl trivial ?_
   rcases bif_some h with ⟨hd3,h⟩ | ⟨hd3,h⟩
   ·refine Tri.f 2 [.g true] [.keep [0,1,4,6,7,20,21] [4,6]] rfl ⟨hd3,trivial⟩ ?_
    obtain ⟨hg4,h⟩ := grd_some h
    obtain ⟨hg5,h⟩ := grd_some h
    obtain ⟨⟨v6,v7,v8⟩,hk6,h⟩ := bind_some h
    obtain ⟨⟨v9,v10,v11⟩,hk7,h⟩ := bind_some h
    refine Tri.f 2 [.v (.tuple [.agg [.i v6,.i v7],.bool v8]),.v (.tuple [.agg [.i v9,.i v10],.bool v11])] [.keep [0,1,4,6,9,10,11,20,21] [4,6,10]] rfl ⟨fun _ => W43 v4 v5 v6 v7 (v9,v10,v11) hk7,fun _ => W42 ((a0.getD v3.toNat ⟨0,0⟩).num) ((a0.getD v3.toNat ⟨0,0⟩).den) ((a1.getD v3.toNat ⟨0,0⟩).num) ((a1.getD v3.toNat ⟨0,0⟩).den) (v6,v7,v8) hk6,hg5,hg4,trivial⟩ ?_
    rcases bif_some h with ⟨hd8,h⟩ | ⟨hd8,h⟩
    ·refine Tri.f 1 [.g true] [.keep [0,1,4,6,10,20,21,47] [4,6,10]] rfl ⟨hd8,trivial⟩ ?_
     refine Tri.f 2 [.g true] [.keep [4,5] [4]] rfl ⟨rfl,trivial⟩ ?_
     cases h
     exact Tri.ret rfl ⟨nofun,rfl,rfl,rfl⟩
    ·refine Tri.f 1 [.g false] [.keep [0,1,4,6,10,20,21,47] [4,6,10]] rfl ⟨hd8,trivial⟩ ?_
     rcases bif_some h with ⟨hd9,h⟩ | ⟨hd9,h⟩
     ·refine Tri.f 2 [.g true] [.keep [4,5] [4]] rfl ⟨hd9,trivial⟩ ?_
      cases h
      exact Tri.ret rfl ⟨nofun,rfl,rfl,rfl⟩
     ·refine Tri.f 3 [.g false] [.keep [0,1,4,6,20,21] [4,6]] rfl ⟨hd9,trivial⟩ ?_
      cases h
      exact Tri.nil ⟨rfl,rfl⟩
   ·refine Tri.f 1 [.g false] [.keep [4,6] [4,6]] rfl ⟨hd3,trivial⟩ ?_
    cases h
    exact Tri.out 0 rfl ⟨nofun,rfl,rfl⟩
  ·intro e σ' hne hq
   rcases x1 with ⟨v12,v13⟩ | r
   ·obtain ⟨rfl,rfl⟩ := hq
    refine TriX.exit (K' := [.code [] 4]) rfl ?_
    refine Tri.f 1 [] [.keep [4,5] [4]] rfl trivial ?_
    cases h
    exact Tri.ret rfl ⟨.inl rfl,rfl,rfl⟩
   ·obtain ⟨rfl,hq⟩ := hq
    cases h
    exact TriX.ret ⟨.inl rfl,hq⟩
noncomputable def E297 : Env := ⟨Tryz.prog,tys,(Tryz.f50.body).getD .skip,38,tysOk,mixedOk⟩
abbrev K182 (r : Bool) (σ' : ASt) : Prop := isRes E297.T Tryz.f50 (.bool r) [] σ'
noncomputable def l_impl_gives_0 (a0 : List (List Int)) (a3 : List Q) (a4 : List Int) (v1 : Int) : Option (Int ⊕ (Unit ⊕ Bool)) :=
bif decide (v1 < (a0.length : Int)) then
(grd (0 ≤ v1 ∧ v1 < (a0.length : Int)) <|
(m_impl_rats (a0.getD v1.toNat [])).bind fun v2 =>
(m_impl_DotRat v2 a3).bind fun (v3,v4,v5) =>
bif !v5 then
(some (.inr (.inr false)))
else
(grd (0 ≤ v1 ∧ v1 < (a4.length : Int)) <|
(m_impl_whole (a4.getD v1.toNat 0)).bind fun (v6,v7) =>
bif !(v3 == v6 && v4 == v7) then
(some (.inr (.inr false)))
else
(some (.inl (IntKind.i64.wrap (v1 + 1))))))
else
(some (.inr (.inl ())))
noncomputable def m_impl_gives (a0 : List (List Int)) (_a1 : List Int) (_a2 a3 : List Q) (a4 : List Int) : Option Bool :=
(iter (l_impl_gives_0 a0 a3 a4) (0 : Int)).bind fun
| (.inl _) => (
some true)
| (.inr r) => some r
theorem W64 (a0 : List (List Int)) (a1 : List Int) (a2 a3 : List Q) (a4 : List Int) (r : Bool) (h : m_impl_gives a0 a1 a2 a3 a4 = some r) : AM.Spec Tryz.prog 50 [.agg [.list (.intss a0),.list (.ints a1),.list (.rats a2)],.list (.rats a3),.list (.ints a4)] [] (.bool r) [] := by
 refine spec_of (E := E297) Tryz.func50 rfl rfl rfl rfl ?_
 refine Tri.f 2 [] [.keep [1,2,12,13,14] []] rfl trivial ?_
 obtain ⟨x1,hk9,h⟩ := bind_some h
 refine Tri.loop (K1 := [.code [(1,0),(1,0),(0,0)] 0]) (K2 := [.blk 0,.code [] 2]) (fun v1 => ⟨[(1,.list (.rats a3)),(2,.list (.ints a4)),(12,.list (.intss a0)),(13,.i (a0.length : Int)),(14,.i v1)],[]⟩) (fun x e σ' => match x with | (.inl _) => e = .exit 0 ∧ σ' = ⟨[],[]⟩ | (.inr r) => e = .ret ∧ K182 r σ') hk9 rfl rfl ?_ ?_
 ·intro v1 x hs
  clear h
  have h := hs
  clear hs
  refine Tri.f 1 [] [.keep [1,2,12,13,14,15] []] rfl trivial ?_
  rcases bif_some h with ⟨hd1,h⟩ | ⟨hd1,h⟩
  ·obtain ⟨hg2,h⟩ := grd_some h
   refine Tri.f 2 [.g true] [.keep [1,2,7,8,12,13,14] []] rfl ⟨hg2,hd1,trivial⟩ ?_
   obtain ⟨v2,hk3,h⟩ := bind_some h
   obtain ⟨⟨v3,v4,v5⟩,hk4,h⟩ := bind_some h
   rcases bif_some h with ⟨hd5,h⟩ | ⟨hd5,h⟩
   ·refine Tri.f 2 [.r ⟨[],.sl 1100 0,[(1100,.arr 31 0 0 (.rats v2))]⟩,.v (.tuple [.agg [.i v3,.i v4],.bool v5]),.g true] [.keep [1,2,12,13,14,36] []] rfl ⟨hd5,fun _ => W63 v2 a3 (v3,v4,v5) hk4,fun _ => (W30 (a0.getD v1.toNat []) v2 hk3).swap 1000 1100,trivial⟩ ?_
    refine Tri.f 2 [.g true] [.keep [6] []] rfl ⟨rfl,trivial⟩ ?_
    cases h
    exact Tri.ret rfl ⟨nofun,rfl,rfl,rfl⟩
   ·obtain ⟨hg6,h⟩ := grd_some h
    obtain ⟨⟨v6,v7⟩,hk7,h⟩ := bind_some h
    refine Tri.f 2 [.r ⟨[],.sl 1100 0,[(1100,.arr 31 0 0 (.rats v2))]⟩,.v (.tuple [.agg [.i v3,.i v4],.bool v5]),.g false,.v (.agg [.i v6,.i v7])] [.keep [1,2,12,13,14,36] []] rfl ⟨fun _ => W27 (a4.getD v1.toNat 0) (v6,v7) hk7,hg6,hd5,fun _ => W63 v2 a3 (v3,v4,v5) hk4,fun _ => (W30 (a0.getD v1.toNat []) v2 hk3).swap 1000 1100,trivial⟩ ?_
    rcases bif_some h with ⟨hd8,h⟩ | ⟨hd8,h⟩
    ·refine Tri.f 2 [.g true] [.keep [6] []] rfl ⟨hd8,trivial⟩ ?_
     cases h
     exact Tri.ret rfl ⟨nofun,rfl,rfl,rfl⟩
    ·refine Tri.f 2 [.g false] [.keep [1,2,12,13,14] []] rfl ⟨hd8,trivial⟩ ?_
     cases h
     exact Tri.nil ⟨rfl,rfl⟩
  ·refine Tri.f 1 [.g false] [.keep [] []] rfl ⟨hd1,trivial⟩ ?_
   cases h
   exact Tri.out 0 rfl ⟨nofun,rfl,rfl⟩
 ·intro e σ' hne hq
  rcases x1 with _ | r
  ·obtain ⟨rfl,rfl⟩ := hq
   refine TriX.exit (K' := [.code [] 2]) rfl ?_
   refine Tri.f 1 [] [.keep [6] []] rfl trivial ?_
   cases h
   exact Tri.ret rfl ⟨.inl rfl,rfl,rfl⟩
  ·obtain ⟨rfl,hq⟩ := hq
   cases h
   exact TriX.ret ⟨.inl rfl,hq⟩
noncomputable def E298 : Env := ⟨Tryz.prog,tys,(Tryz.f44.body).getD .skip,21,tysOk,mixedOk⟩
abbrev K183 (r : Bool) (σ' : ASt) : Prop := isRes E298.T Tryz.f44 (.bool r) [] σ'
noncomputable def m_impl_IsFeasible (a0 : List (List Int)) (a1 : List Int) (a2 a3 : List Q) : Option Bool :=
(m_impl_IsValidLP a0 a1 a2).bind fun v1 =>
bif v1 then
((m_impl_notNegative a3 (a2.length : Int)).bind fun v2 =>
bif v2 then
((m_impl_gives a0 a1 a2 a3 a1).bind fun v3 =>
some v3)
else
(some false))
else
(some false)
theorem W65 (a0 : List (List Int)) (a1 : List Int) (a2 a3 : List Q) (r : Bool) (h : m_impl_IsFeasible a0 a1 a2 a3 = some r) : AM.Spec Tryz.prog 44 [.agg [.list (.intss a0),.list (.ints a1),.list (.rats a2)],.list (.rats a3)] [] (.bool r) [] := by
 refine spec_of (E := E298) Tryz.func44 rfl rfl rfl rfl ?_
 refine Tri.f 1 [] [.keep [1,2] [2]] rfl trivial ?_
 obtain ⟨v1,hk1,h⟩ := bind_some h
 rcases bif_some h with ⟨hd2,h⟩ | ⟨hd2,h⟩
 ·obtain ⟨v2,hk3,h⟩ := bind_some h
  rcases bif_some h with ⟨hd4,h⟩ | ⟨hd4,h⟩
  ·obtain ⟨v3,hk5,h⟩ := bind_some h
   refine Tri.f 1 [.v (.bool v1),.g true,.v (.bool v2),.g true,.v (.bool v3)] [.keep [4] []] rfl ⟨fun _ => W64 a0 a1 a2 a3 a1 v3 hk5,hd4,fun _ => W62 a3 (a2.length : Int) v2 hk3,hd2,fun _ => W26 a0 a1 a2 v1 hk1,trivial⟩ ?_
   cases h
   exact Tri.ret rfl ⟨.inl rfl,rfl,rfl⟩
  ·refine Tri.f 1 [.v (.bool v1),.g true,.v (.bool v2),.g false] [.keep [4] []] rfl ⟨hd4,fun _ => W62 a3 (a2.length : Int) v2 hk3,hd2,fun _ => W26 a0 a1 a2 v1 hk1,trivial⟩ ?_
   cases h
   exact Tri.ret rfl ⟨.inl rfl,rfl,rfl⟩
 ·refine Tri.f 1 [.v (.bool v1),.g false,.g false] [.keep [4] []] rfl ⟨rfl,hd2,fun _ => W26 a0 a1 a2 v1 hk1,trivial⟩ ?_
  cases h
  exact Tri.ret rfl ⟨.inl rfl,rfl,rfl⟩
noncomputable def E299 : Env := ⟨Tryz.prog,tys,(Tryz.f47.body).getD .skip,25,tysOk,mixedOk⟩
abbrev K184 (r : List Int) (σ' : ASt) : Prop := isRes E299.T Tryz.f47 (.sl 1000 0) [(1000,.arr 3 0 0 (.ints r))] σ'
noncomputable def l_impl_column_0 (a0 : List (List Int)) (a3 : Int) : (Int × (List Int)) → Option ((Int × (List Int)) ⊕ ((List Int)))
 | (v1,v2) => (
bif decide (v1 < (a0.length : Int)) then
(grd (0 ≤ v1 ∧ v1 < (a0.length : Int)) <|
grd (0 ≤ a3 ∧ a3 < ((a0.getD v1.toNat []).length : Int)) <|
grd (v2.length + ([(a0.getD v1.toNat []).getD a3.toNat 0] : List Int).length ≤ room) <|
some (.inl (IntKind.i64.wrap (v1 + 1),v2 ++ [(a0.getD v1.toNat []).getD a3.toNat 0])))
else
(some (.inr v2)))
noncomputable def m_impl_column (a0 : List (List Int)) (_a1 : List Int) (_a2 : List Q) (a3 : Int) : Option (List Int) :=
(iter (l_impl_column_0 a0 a3) ((0 : Int),[])).bind fun
| v3 => (
some v3)
theorem W66 (a0 : List (List Int)) (a1 : List Int) (a2 : List Q) (a3 : Int) (r : List Int) (h : m_impl_column a0 a1 a2 a3 = some r) : AM.Spec Tryz.prog 47 [.agg [.list (.intss a0),.list (.ints a1),.list (.rats a2)],.i a3] [] (.sl 1000 0) [(1000,.arr 3 0 0 (.ints r))] := by
 refine spec_of (E := E299) Tryz.func47 rfl rfl rfl rfl ?_
 refine Tri.f 3 [] [.keep [1,5,10,11,12] [8]] rfl trivial ?_
 obtain ⟨v3,hk5,h⟩ := bind_some h
 refine Tri.loop (K1 := [.code [(2,0),(1,0),(0,0)] 0]) (K2 := [.blk 0,.code [] 3]) (fun (v1,v2) => ⟨[(1,.i a3),(5,.sl 8 0),(10,.list (.intss a0)),(11,.i (a0.length : Int)),(12,.i v1)],[(8,.arr 3 0 0 (.ints v2))]⟩) (fun x e σ' => match x with | v3 => e = .exit 0 ∧ σ' = ⟨[(5,.sl 8 0)],[(8,.arr 3 0 0 (.ints v3))]⟩) hk5 rfl rfl ?_ ?_
 ·intro s x hs
  clear h
  have h := hs
  clear hs
  obtain ⟨v1,v2⟩ := s
  refine Tri.f 1 [] [.keep [1,5,10,11,12,13] [8]] rfl trivial ?_
  rcases bif_some h with ⟨hd1,h⟩ | ⟨hd1,h⟩
  ·obtain ⟨hg2,h⟩ := grd_some h
   obtain ⟨hg3,h⟩ := grd_some h
   obtain ⟨hg4,h⟩ := grd_some h
   refine Tri.f 3 [.g true] [.keep [1,5,10,11,12] [8]] rfl ⟨hg4,hg3,hg2,hd1,trivial⟩ ?_
   refine Tri.f 1 [] [.rever 8,.keep [1,5,10,11,12] [8]] rfl trivial ?_
   cases h
   exact Tri.nil ⟨rfl,rfl⟩
  ·refine Tri.f 1 [.g false] [.keep [5] [8]] rfl ⟨hd1,trivial⟩ ?_
   cases h
   exact Tri.out 0 rfl ⟨nofun,rfl,rfl⟩
 ·intro e σ' hne hq
  obtain ⟨rfl,rfl⟩ := hq
  refine TriX.exit (K' := [.code [] 3]) rfl ?_
  refine Tri.f 1 [] [.swap 8 1000,.keep [4] [1000]] rfl trivial ?_
  cases h
  exact Tri.ret rfl ⟨.inl rfl,rfl,rfl⟩
end Go.Proofs.YtbkpiknmlomjnaaGreat
