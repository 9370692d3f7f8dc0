/- models and walks -/
import Derived.Test.YtdaoggmpohnjhaaDoorProg
import Derived.Test.YtdaoggmpohnjhaaDoorAmB
import Derived.Test.YtdaoggmpohnjhaaDoorAmI
namespace Go.Proofs.YtdaoggmpohnjhaaDoor
open Go.AM Go.Shelf Go.Proofs
set_option maxRecDepth 100000
set_option maxHeartbeats 4000000
noncomputable def tys : TEnv := [(3,.int .i64),
 (5,.int .u8),
 (9,.str),
 (22,.slice 3 (.ints [])),
 (24,.struct [(0,3),(1,22)] [.i 0,.nil (.ints [])] false),
 (27,.struct [(0,3),(1,22)] [.i 0,.nil (.ints [])] false),
 (35,.slice 5 (.bytes []))]
theorem tysOk : TOk Tryd.prog tys := tok_of (by kernel_rfl)
theorem mixedOk : Tryd.prog.follows .mixedOrders = true := by kernel_rfl
noncomputable def E52 : Env := ⟨Tryd.prog,tys,(Tryd.f20.body).getD .skip,12,tysOk,mixedOk⟩
abbrev K26 (r : Int) (σ' : ASt) : Prop := isRes E52.T Tryd.f20 (.i r) [] σ'
noncomputable def m_laws_szIntS (a0 : List Int) (a1 : Int) : Option Int :=
bif decide ((IntKind.i64.wrap (a1 - (a0.length : Int))) < 0) then
(some (-1 : Int))
else
(some (IntKind.i64.wrap (a1 - (a0.length : Int))))
theorem W0 (a0 : List Int) (a1 r : Int) (h : m_laws_szIntS a0 a1 = some r) : AM.Spec Tryd.prog 20 [.list (.ints a0),.i a1] [] (.i r) [] := by
 refine spec_of (E := E52) Tryd.func20 rfl rfl rfl rfl ?_
 refine Tri.f 3 [] [.keep [1,10] []] rfl trivial ?_
 rcases bif_some h with ⟨hd1,h⟩ | ⟨hd1,h⟩
 ·refine Tri.f 2 [.g true] [.keep [4] []] rfl ⟨hd1,trivial⟩ ?_
  cases h
  exact Tri.ret rfl ⟨.inl rfl,rfl,rfl⟩
 ·refine Tri.f 2 [.g false] [.keep [4] []] rfl ⟨hd1,trivial⟩ ?_
  cases h
  exact Tri.ret rfl ⟨.inl rfl,rfl,rfl⟩
noncomputable def E53 : Env := ⟨Tryd.prog,tys,(Tryd.f6.body).getD .skip,12,tysOk,mixedOk⟩
abbrev K27 (r : Int) (σ' : ASt) : Prop := isRes E53.T Tryd.f6 (.i r) [] σ'
noncomputable def m_laws_szGame (_a0 : Int) (a1 : List Int) (a2 : Int) : Option Int :=
(m_laws_szIntS a1 a2).bind fun v1 =>
bif decide (v1 < 0) then
(some (-1 : Int))
else
(some v1)
theorem W1 (a0 : Int) (a1 : List Int) (a2 r : Int) (h : m_laws_szGame a0 a1 a2 = some r) : AM.Spec Tryd.prog 6 [.agg [.i a0,.list (.ints a1)],.i a2] [] (.i r) [] := by
 refine spec_of (E := E53) Tryd.func6 rfl rfl rfl rfl ?_
 refine Tri.f 1 [] [.keep [1,2] [2]] rfl trivial ?_
 obtain ⟨v1,hk1,h⟩ := bind_some h
 refine Tri.f 2 [.v (.i v1)] [.keep [1,10] []] rfl ⟨fun _ => W0 a1 a2 v1 hk1,trivial⟩ ?_
 rcases bif_some h with ⟨hd2,h⟩ | ⟨hd2,h⟩
 ·refine Tri.f 2 [.g true] [.keep [4] []] rfl ⟨hd2,trivial⟩ ?_
  cases h
  exact Tri.ret rfl ⟨.inl rfl,rfl,rfl⟩
 ·refine Tri.f 2 [.g false] [.keep [4] []] rfl ⟨hd2,trivial⟩ ?_
  cases h
  exact Tri.ret rfl ⟨.inl rfl,rfl,rfl⟩
noncomputable def E54 : Env := ⟨Tryd.prog,tys,(Tryd.f23.body).getD .skip,22,tysOk,mixedOk⟩
abbrev K28 (r : List Int) (σ' : ASt) : Prop := isRes E54.T Tryd.f23 (.sl 1000 0) [(1000,.arr 3 0 0 (.ints r))] σ'
noncomputable def l_laws_toIntS_0 (a0 : List Int) : (Int × (List Int)) → Option ((Int × (List Int)) ⊕ ((List Int)))
 | (v1,v2) => (
bif decide (v1 < (a0.length : Int)) then
(grd (0 ≤ v1 ∧ v1 < (a0.length : Int)) <|
grd (0 ≤ v1 ∧ v1 < (v2.length : Int)) <|
some (.inl (IntKind.i64.wrap (v1 + 1),v2.set v1.toNat (a0.getD v1.toNat 0))))
else
(some (.inr v2)))
noncomputable def m_laws_toIntS (a0 : List Int) : Option (List Int) :=
grd ((0 : Int) ≤ (a0.length : Int) ∧ (a0.length : Int) = (a0.length : Int) ∧ (a0.length : Int) ≤ (room : Int)) <|
(iter (l_laws_toIntS_0 a0) ((0 : Int),List.replicate (a0.length : Int).toNat (0 : Int))).bind fun
| v3 => (
some v3)
theorem W2 (a0 r : List Int) (h : m_laws_toIntS a0 = some r) : AM.Spec Tryd.prog 23 [.list (.ints a0)] [] (.sl 1000 0) [(1000,.arr 3 0 0 (.ints r))] := by
 refine spec_of (E := E54) Tryd.func23 rfl rfl rfl rfl ?_
 obtain ⟨hg1,h⟩ := grd_some h
 refine Tri.f 3 [] [.keep [0,3,4] [7]] rfl ⟨hg1,trivial⟩ ?_
 obtain ⟨v3,hk5,h⟩ := bind_some h
 refine Tri.loop (K1 := [.code [(2,0),(1,0),(0,0)] 0]) (K2 := [.blk 0,.code [] 3]) (fun (v1,v2) => ⟨[(0,.list (.ints a0)),(3,.sl 7 0),(4,.i v1)],[(7,.arr 3 0 0 (.ints v2))]⟩) (fun x e σ' => match x with | v3 => e = .exit 0 ∧ σ' = ⟨[(3,.sl 7 0)],[(7,.arr 3 0 0 (.ints v3))]⟩) hk5 rfl rfl ?_ ?_
 ·intro s x hs
  clear h
  have h := hs
  clear hs
  obtain ⟨v1,v2⟩ := s
  refine Tri.f 1 [] [.keep [0,3,4,11] [7]] rfl trivial ?_
  rcases bif_some h with ⟨hd2,h⟩ | ⟨hd2,h⟩
  ·obtain ⟨hg3,h⟩ := grd_some h
   obtain ⟨hg4,h⟩ := grd_some h
   refine Tri.f 3 [.g true] [.keep [0,3,4] [7]] rfl ⟨hg4,hg3,hd2,trivial⟩ ?_
   cases h
   exact Tri.nil ⟨rfl,rfl⟩
  ·refine Tri.f 1 [.g false] [.keep [3] [7]] rfl ⟨hd2,trivial⟩ ?_
   cases h
   exact Tri.out 0 rfl ⟨nofun,rfl,rfl⟩
 ·intro e σ' hne hq
  obtain ⟨rfl,rfl⟩ := hq
  refine TriX.exit (K' := [.code [] 3]) rfl ?_
  refine Tri.f 1 [] [.swap 7 1000,.keep [2] [1000]] rfl trivial ?_
  cases h
  exact Tri.ret rfl ⟨.inl rfl,rfl,rfl⟩
noncomputable def E55 : Env := ⟨Tryd.prog,tys,(Tryd.f8.body).getD .skip,12,tysOk,mixedOk⟩
abbrev K29 (r : Int × (List Int)) (σ' : ASt) : Prop := isRes E55.T Tryd.f8 (.agg [.i r.1,.sl 1000 0]) [(1000,.arr 3 0 0 (.ints r.2))] σ'
noncomputable def m_laws_toGame (a0 : Int) (a1 : List Int) : Option (Int × (List Int)) :=
(m_laws_toIntS a1).bind fun v1 =>
some (a0,v1)
theorem W3 (a0 : Int) (a1 : List Int) (r : Int × (List Int)) (h : m_laws_toGame a0 a1 = some r) : AM.Spec Tryd.prog 8 [.agg [.i a0,.list (.ints a1)]] [] (.agg [.i r.1,.sl 1000 0]) [(1000,.arr 3 0 0 (.ints r.2))] := by
 refine spec_of (E := E55) Tryd.func8 rfl rfl rfl rfl ?_
 refine Tri.f 3 [] [.keep [1,2,3] [1,2,3],.ownc 2 1 1100 3,.ownc 3 1 1101 3,.keep [1,2,3] [1,2,3,1100,1101]] rfl trivial ?_
 obtain ⟨v1,hk1,h⟩ := bind_some h
 refine Tri.f 2 [.r ⟨[],.sl 1102 0,[(1102,.arr 3 0 0 (.ints v1))]⟩] [.swap 1102 1000,.keep [2] [2,1000]] rfl ⟨fun _ => (W2 a1 v1 hk1).swap 1000 1102,trivial⟩ ?_
 cases h
 exact Tri.ret rfl ⟨.inl rfl,rfl,rfl⟩
noncomputable def E56 : Env := ⟨Tryd.prog,tys,(Tryd.f41.body).getD .skip,15,tysOk,mixedOk⟩
abbrev K30 (r : Bool) (σ' : ASt) : Prop := isRes E56.T Tryd.f41 (.bool r) [] σ'
noncomputable def m_spec_l1In (a0 a1 a2 : Int) : Option Bool :=
bif decide (a0 ≥ a1) then
(some (decide (a0 ≤ a2)))
else
(some false)
theorem W4 (a0 a1 a2 : Int) (r : Bool) (h : m_spec_l1In a0 a1 a2 = some r) : AM.Spec Tryd.prog 41 [.i a0,.i a1,.i a2] [] (.bool r) [] := by
 refine spec_of (E := E56) Tryd.func41 rfl rfl rfl rfl ?_
 refine Tri.f 1 [] [.keep [0,1,2] []] rfl trivial ?_
 rcases bif_some h with ⟨hd1,h⟩ | ⟨hd1,h⟩
 ·refine Tri.f 1 [.g true] [.keep [6] []] rfl ⟨hd1,trivial⟩ ?_
  cases h
  exact Tri.ret rfl ⟨.inl rfl,rfl,rfl⟩
 ·refine Tri.f 1 [.g false] [.keep [6] []] rfl ⟨hd1,trivial⟩ ?_
  cases h
  exact Tri.ret rfl ⟨.inl rfl,rfl,rfl⟩
noncomputable def E57 : Env := ⟨Tryd.prog,tys,(Tryd.f42.body).getD .skip,16,tysOk,mixedOk⟩
abbrev K31 (r : Int) (σ' : ASt) : Prop := isRes E57.T Tryd.f42 (.i r) [] σ'
noncomputable def l_spec_CountCoalitions_0 (a0 : Int) : (Int × Int) → Option ((Int × Int) ⊕ Int)
 | (v2,v3) => (
bif decide (v3 < a0) then
(some (.inl (IntKind.i64.wrap (v2 * 2),IntKind.i64.wrap (v3 + 1))))
else
(some (.inr v2)))
noncomputable def m_spec_CountCoalitions (a0 : Int) : Option Int :=
(m_spec_l1In a0 (0 : Int) (5 : Int)).bind fun v1 =>
bif !v1 then
(some (0 : Int))
else
((iter (l_spec_CountCoalitions_0 a0) ((1 : Int),(0 : Int))).bind fun
| v4 => (
some v4))
theorem W5 (a0 r : Int) (h : m_spec_CountCoalitions a0 = some r) : AM.Spec Tryd.prog 42 [.i a0] [] (.i r) [] := by
 refine spec_of (E := E57) Tryd.func42 rfl rfl rfl rfl ?_
 refine Tri.f 1 [] [.keep [0] []] rfl trivial ?_
 obtain ⟨v1,hk1,h⟩ := bind_some h
 refine Tri.f 1 [.v (.bool v1)] [.keep [0,7] []] rfl ⟨fun _ => W4 a0 (0 : Int) (5 : Int) v1 hk1,trivial⟩ ?_
 rcases bif_some h with ⟨hd2,h⟩ | ⟨hd2,h⟩
 ·refine Tri.f 2 [.g true] [.keep [2] []] rfl ⟨hd2,trivial⟩ ?_
  cases h
  exact Tri.ret rfl ⟨.inl rfl,rfl,rfl⟩
 ·refine Tri.f 3 [.g false] [.keep [0,3,4] []] rfl ⟨hd2,trivial⟩ ?_
  obtain ⟨v4,hk4,h⟩ := bind_some h
  refine Tri.loop (K1 := [.code [(3,0),(1,0),(0,0)] 0]) (K2 := [.blk 0,.code [] 4]) (fun (v2,v3) => ⟨[(0,.i a0),(3,.i v2),(4,.i v3)],[]⟩) (fun x e σ' => match x with | v4 => e = .exit 0 ∧ σ' = ⟨[(3,.i v4)],[]⟩) hk4 rfl rfl ?_ ?_
  ·intro s x hs
   clear h
   have h := hs
   clear hs
   obtain ⟨v2,v3⟩ := s
   refine Tri.f 1 [] [.keep [0,3,4,10] []] rfl trivial ?_
   rcases bif_some h with ⟨hd3,h⟩ | ⟨hd3,h⟩
   ·refine Tri.f 3 [.g true] [.keep [0,3,4] []] rfl ⟨hd3,trivial⟩ ?_
    cases h
    exact Tri.nil ⟨rfl,rfl⟩
   ·refine Tri.f 1 [.g false] [.keep [3] []] rfl ⟨hd3,trivial⟩ ?_
    cases h
    exact Tri.out 0 rfl ⟨nofun,rfl,rfl⟩
  ·intro e σ' hne hq
   obtain ⟨rfl,rfl⟩ := hq
   refine TriX.exit (K' := [.code [] 4]) rfl ?_
   refine Tri.f 1 [] [.keep [2] []] rfl trivial ?_
   cases h
   exact Tri.ret rfl ⟨.inl rfl,rfl,rfl⟩
noncomputable def E58 : Env := ⟨Tryd.prog,tys,(Tryd.f17.body).getD .skip,37,tysOk,mixedOk⟩
abbrev K32 (r : Bool) (σ' : ASt) : Prop := isRes E58.T Tryd.f17 (.bool r) [] σ'
noncomputable def l_spec_IsValidGame_0 (a1 : List Int) (v1 : Int) : Option (Int ⊕ (Unit ⊕ Bool)) :=
bif decide (v1 < (a1.length : Int)) then
(grd (0 ≤ v1 ∧ v1 < (a1.length : Int)) <|
(m_spec_l1In (a1.getD v1.toNat 0) (-500 : Int) (500 : Int)).bind fun v2 =>
bif !v2 then
(some (.inr (.inr false)))
else
(some (.inl (IntKind.i64.wrap (v1 + 1)))))
else
(some (.inr (.inl ())))
noncomputable def m_spec_IsValidGame (a0 : Int) (a1 : List Int) : Option Bool :=
(iter (l_spec_IsValidGame_0 a1) (0 : Int)).bind fun
| (.inl _) => (
(m_spec_l1In a0 (1 : Int) (5 : Int)).bind fun v3 =>
bif v3 then
((m_spec_CountCoalitions a0).bind fun v4 =>
bif (a1.length : Int) == v4 then
(grd ((0 : Int) ≤ (0 : Int) ∧ (0 : Int) < (a1.length : Int)) <|
some ((a1.getD ((0 : Int).toNat) 0) == 0))
else
(some false))
else
(some false))
| (.inr r) => some r
theorem W6 (a0 : Int) (a1 : List Int) (r : Bool) (h : m_spec_IsValidGame a0 a1 = some r) : AM.Spec Tryd.prog 17 [.agg [.i a0,.list (.ints a1)]] [] (.bool r) [] := by
 refine spec_of (E := E58) Tryd.func17 rfl rfl rfl rfl ?_
 refine Tri.f 2 [] [.keep [1,3] [1]] rfl trivial ?_
 obtain ⟨x1,hk5,h⟩ := bind_some h
 refine Tri.loop (K1 := [.code [(1,0),(1,0),(0,0)] 0]) (K2 := [.blk 0,.code [] 2]) (fun v1 => ⟨[(1,.ptr 1 0),(3,.i v1)],[(1,.box [.i a0,.list (.ints a1)])]⟩) (fun x e σ' => match x with | (.inl _) => e = .exit 0 ∧ σ' = ⟨[(1,.ptr 1 0)],[(1,.box [.i a0,.list (.ints a1)])]⟩ | (.inr r) => e = .ret ∧ K32 r σ') hk5 rfl rfl ?_ ?_
 ·intro v1 x hs
  clear h
  have h := hs
  clear hs
  refine Tri.f 1 [] [.keep [1,3,8] [1]] rfl trivial ?_
  rcases bif_some h with ⟨hd1,h⟩ | ⟨hd1,h⟩
  ·obtain ⟨hg2,h⟩ := grd_some h
   obtain ⟨v2,hk3,h⟩ := bind_some h
   refine Tri.f 2 [.g true,.v (.bool v2)] [.keep [1,3,17] [1]] rfl ⟨fun _ => W4 (a1.getD v1.toNat 0) (-500 : Int) (500 : Int) v2 hk3,hg2,hd1,trivial⟩ ?_
   rcases bif_some h with ⟨hd4,h⟩ | ⟨hd4,h⟩
   ·refine Tri.f 2 [.g true] [.keep [2] []] rfl ⟨hd4,trivial⟩ ?_
    cases h
    exact Tri.ret rfl ⟨nofun,rfl,rfl,rfl⟩
   ·refine Tri.f 2 [.g false] [.keep [1,3] [1]] rfl ⟨hd4,trivial⟩ ?_
    cases h
    exact Tri.nil ⟨rfl,rfl⟩
  ·refine Tri.f 1 [.g false] [.keep [1] [1]] rfl ⟨hd1,trivial⟩ ?_
   cases h
   exact Tri.out 0 rfl ⟨nofun,rfl,rfl⟩
 ·intro e σ' hne hq
  rcases x1 with _ | r
  ·obtain ⟨rfl,rfl⟩ := hq
   refine TriX.exit (K' := [.code [] 2]) rfl ?_
   obtain ⟨v3,hk6,h⟩ := bind_some h
   rcases bif_some h with ⟨hd7,h⟩ | ⟨hd7,h⟩
   ·obtain ⟨v4,hk8,h⟩ := bind_some h
    rcases bif_some h with ⟨hd9,h⟩ | ⟨hd9,h⟩
    ·obtain ⟨hg10,h⟩ := grd_some h
     refine Tri.f 1 [.v (.bool v3),.g true,.v (.i v4),.g true] [.keep [2] []] rfl ⟨hg10,hd9,fun _ => W5 a0 v4 hk8,hd7,fun _ => W4 a0 (1 : Int) (5 : Int) v3 hk6,trivial⟩ ?_
     cases h
     exact Tri.ret rfl ⟨.inl rfl,rfl,rfl⟩
    ·refine Tri.f 1 [.v (.bool v3),.g true,.v (.i v4),.g false] [.keep [2] []] rfl ⟨hd9,fun _ => W5 a0 v4 hk8,hd7,fun _ => W4 a0 (1 : Int) (5 : Int) v3 hk6,trivial⟩ ?_
     cases h
     exact Tri.ret rfl ⟨.inl rfl,rfl,rfl⟩
   ·refine Tri.f 1 [.v (.bool v3),.g false,.g false] [.keep [2] []] rfl ⟨rfl,hd7,fun _ => W4 a0 (1 : Int) (5 : Int) v3 hk6,trivial⟩ ?_
    cases h
    exact Tri.ret rfl ⟨.inl rfl,rfl,rfl⟩
  ·obtain ⟨rfl,hq⟩ := hq
   cases h
   exact TriX.ret ⟨.inl rfl,hq⟩
noncomputable def E59 : Env := ⟨Tryd.prog,tys,(Tryd.f21.body).getD .skip,31,tysOk,mixedOk⟩
abbrev K33 (r : List UInt8) (σ' : ASt) : Prop := isRes E59.T Tryd.f21 (.str r) [] σ'
noncomputable def l_spec_FormatInt_0 : (Int × (List UInt8)) → Option ((Int × (List UInt8)) ⊕ ((List UInt8)))
 | (v1,v2) => (
bif v1 != 0 then
(grd ((10 : Int) ≠ 0) <|
bif decide ((v1.tmod (10 : Int)) < 0) then
(grd (0 ≤ IntKind.u8.wrap (IntKind.i64.wrap ((48 : Int) + (IntKind.i64.wrap ((0 : Int) - (v1.tmod (10 : Int)))))) ∧ IntKind.u8.wrap (IntKind.i64.wrap ((48 : Int) + (IntKind.i64.wrap ((0 : Int) - (v1.tmod (10 : Int)))))) < 256) <|
grd ((([UInt8.ofNat (IntKind.u8.wrap (IntKind.i64.wrap ((48 : Int) + (IntKind.i64.wrap ((0 : Int) - (v1.tmod (10 : Int))))))).toNat].length + v2.length : Nat) : Int) ≤ 9223372036854775807) <|
grd ((10 : Int) ≠ 0) <|
some (.inl (IntKind.i64.wrap (v1.tdiv (10 : Int)),[UInt8.ofNat (IntKind.u8.wrap (IntKind.i64.wrap ((48 : Int) + (IntKind.i64.wrap ((0 : Int) - (v1.tmod (10 : Int))))))).toNat] ++ v2)))
else
(grd (0 ≤ IntKind.u8.wrap (IntKind.i64.wrap ((48 : Int) + (v1.tmod (10 : Int)))) ∧ IntKind.u8.wrap (IntKind.i64.wrap ((48 : Int) + (v1.tmod (10 : Int)))) < 256) <|
grd ((([UInt8.ofNat (IntKind.u8.wrap (IntKind.i64.wrap ((48 : Int) + (v1.tmod (10 : Int))))).toNat].length + v2.length : Nat) : Int) ≤ 9223372036854775807) <|
grd ((10 : Int) ≠ 0) <|
some (.inl (IntKind.i64.wrap (v1.tdiv (10 : Int)),[UInt8.ofNat (IntKind.u8.wrap (IntKind.i64.wrap ((48 : Int) + (v1.tmod (10 : Int))))).toNat] ++ v2))))
else
(some (.inr v2)))
noncomputable def m_spec_FormatInt (a0 : Int) : Option (List UInt8) :=
bif a0 == 0 then
(some ([48] : List UInt8))
else
((iter (l_spec_FormatInt_0) (a0,[])).bind fun
| v3 => (
bif decide (a0 < 0) then
(grd (((([45] : List UInt8).length + v3.length : Nat) : Int) ≤ 9223372036854775807) <|
some (([45] : List UInt8) ++ v3))
else
(some v3)))
theorem W7 (a0 : Int) (r : List UInt8) (h : m_spec_FormatInt a0 = some r) : AM.Spec Tryd.prog 21 [.i a0] [] (.str r) [] := by
 refine spec_of (E := E59) Tryd.func21 rfl rfl rfl rfl ?_
 refine Tri.f 2 [] [.keep [0,7] []] rfl trivial ?_
 rcases bif_some h with ⟨hd1,h⟩ | ⟨hd1,h⟩
 ·refine Tri.f 2 [.g true] [.keep [2] []] rfl ⟨hd1,trivial⟩ ?_
  cases h
  exact Tri.ret rfl ⟨.inl rfl,rfl,rfl⟩
 ·refine Tri.f 3 [.g false] [.keep [0,3,4] []] rfl ⟨hd1,trivial⟩ ?_
  obtain ⟨v3,hk11,h⟩ := bind_some h
  refine Tri.loop (K1 := [.code [(4,0),(0,0),(0,0)] 0]) (K2 := [.blk 0,.code [] 5]) (fun (v1,v2) => ⟨[(0,.i v1),(3,.bool (decide (a0 < 0))),(4,.str v2)],[]⟩) (fun x e σ' => match x with | v3 => e = .exit 0 ∧ σ' = ⟨[(3,.bool (decide (a0 < 0))),(4,.str v3)],[]⟩) hk11 rfl rfl ?_ ?_
  ·intro s x hs
   clear h
   have h := hs
   clear hs
   obtain ⟨v1,v2⟩ := s
   refine Tri.f 1 [] [.keep [0,3,4,11] []] rfl trivial ?_
   rcases bif_some h with ⟨hd2,h⟩ | ⟨hd2,h⟩
   ·obtain ⟨hg3,h⟩ := grd_some h
    refine Tri.f 3 [.g true] [.keep [0,3,4,5,15] []] rfl ⟨hg3,hd2,trivial⟩ ?_
    rcases bif_some h with ⟨hd4,h⟩ | ⟨hd4,h⟩
    ·obtain ⟨hg5,h⟩ := grd_some h
     obtain ⟨hg6,h⟩ := grd_some h
     refine Tri.f 3 [.g true] [.keep [0,3,4] []] rfl ⟨hg6,hg5,hd4,trivial⟩ ?_
     obtain ⟨hg7,h⟩ := grd_some h
     refine Tri.f 1 [] [.keep [0,3,4] []] rfl ⟨hg7,trivial⟩ ?_
     cases h
     exact Tri.nil ⟨rfl,rfl⟩
    ·obtain ⟨hg8,h⟩ := grd_some h
     obtain ⟨hg9,h⟩ := grd_some h
     obtain ⟨hg10,h⟩ := grd_some h
     refine Tri.f 3 [.g false] [.keep [0,3,4] []] rfl ⟨hg10,hg9,hg8,hd4,trivial⟩ ?_
     cases h
     exact Tri.nil ⟨rfl,rfl⟩
   ·refine Tri.f 1 [.g false] [.keep [3,4] []] rfl ⟨hd2,trivial⟩ ?_
    cases h
    exact Tri.out 0 rfl ⟨nofun,rfl,rfl⟩
  ·intro e σ' hne hq
   obtain ⟨rfl,rfl⟩ := hq
   refine TriX.exit (K' := [.code [] 5]) rfl ?_
   refine Tri.f 1 [] [.keep [4,27] []] rfl trivial ?_
   rcases bif_some h with ⟨hd12,h⟩ | ⟨hd12,h⟩
   ·obtain ⟨hg13,h⟩ := grd_some h
    refine Tri.f 2 [.g true] [.keep [2] []] rfl ⟨hg13,hd12,trivial⟩ ?_
    cases h
    exact Tri.ret rfl ⟨.inl rfl,rfl,rfl⟩
   ·refine Tri.f 2 [.g false] [.keep [2] []] rfl ⟨hd12,trivial⟩ ?_
    cases h
    exact Tri.ret rfl ⟨.inl rfl,rfl,rfl⟩
noncomputable def E60 : Env := ⟨Tryd.prog,tys,(Tryd.f46.body).getD .skip,5,tysOk,mixedOk⟩
abbrev K34 (r : Bool) (σ' : ASt) : Prop := isRes E60.T Tryd.f46 (.bool r) [] σ'
noncomputable def m_spec_l2Good (a0 : Int) : Option Bool :=
(m_spec_l1In a0 (0 : Int) (31 : Int)).bind fun v1 =>
some v1
theorem W8 (a0 : Int) (r : Bool) (h : m_spec_l2Good a0 = some r) : AM.Spec Tryd.prog 46 [.i a0] [] (.bool r) [] := by
 refine spec_of (E := E60) Tryd.func46 rfl rfl rfl rfl ?_
 refine Tri.f 1 [] [.keep [0] []] rfl trivial ?_
 obtain ⟨v1,hk1,h⟩ := bind_some h
 refine Tri.f 1 [.v (.bool v1)] [.keep [2] []] rfl ⟨fun _ => W4 a0 (0 : Int) (31 : Int) v1 hk1,trivial⟩ ?_
 cases h
 exact Tri.ret rfl ⟨.inl rfl,rfl,rfl⟩
noncomputable def E61 : Env := ⟨Tryd.prog,tys,(Tryd.f65.body).getD .skip,5,tysOk,mixedOk⟩
abbrev K35 (r : Int) (σ' : ASt) : Prop := isRes E61.T Tryd.f65 (.i r) [] σ'
noncomputable def m_spec_l2Bit (a0 : Int) : Option Int :=
(m_spec_CountCoalitions a0).bind fun v1 =>
some v1
theorem W9 (a0 r : Int) (h : m_spec_l2Bit a0 = some r) : AM.Spec Tryd.prog 65 [.i a0] [] (.i r) [] := by
 refine spec_of (E := E61) Tryd.func65 rfl rfl rfl rfl ?_
 refine Tri.f 1 [] [.keep [0] []] rfl trivial ?_
 obtain ⟨v1,hk1,h⟩ := bind_some h
 refine Tri.f 1 [.v (.i v1)] [.keep [2] []] rfl ⟨fun _ => W5 a0 v1 hk1,trivial⟩ ?_
 cases h
 exact Tri.ret rfl ⟨.inl rfl,rfl,rfl⟩
noncomputable def E62 : Env := ⟨Tryd.prog,tys,(Tryd.f47.body).getD .skip,19,tysOk,mixedOk⟩
abbrev K36 (r : Bool) (σ' : ASt) : Prop := isRes E62.T Tryd.f47 (.bool r) [] σ'
noncomputable def m_spec_HasPlayer (a0 a1 : Int) : Option Bool :=
(m_spec_l1In a1 (0 : Int) (4 : Int)).bind fun v1 =>
bif v1 then
(bif decide (a0 ≥ 0) then
((m_spec_l2Bit a1).bind fun v2 =>
grd (v2 ≠ 0) <|
grd ((2 : Int) ≠ 0) <|
some (((IntKind.i64.wrap (a0.tdiv v2)).tmod (2 : Int)) == 1))
else
(some false))
else
(some false)
theorem W10 (a0 a1 : Int) (r : Bool) (h : m_spec_HasPlayer a0 a1 = some r) : AM.Spec Tryd.prog 47 [.i a0,.i a1] [] (.bool r) [] := by
 refine spec_of (E := E62) Tryd.func47 rfl rfl rfl rfl ?_
 refine Tri.f 1 [] [.keep [0,1] []] rfl trivial ?_
 obtain ⟨v1,hk1,h⟩ := bind_some h
 rcases bif_some h with ⟨hd2,h⟩ | ⟨hd2,h⟩
 ·rcases bif_some h with ⟨hd3,h⟩ | ⟨hd3,h⟩
  ·obtain ⟨v2,hk4,h⟩ := bind_some h
   obtain ⟨hg5,h⟩ := grd_some h
   obtain ⟨hg6,h⟩ := grd_some h
   refine Tri.f 1 [.v (.bool v1),.g true,.g true,.v (.i v2)] [.keep [4] []] rfl ⟨hg6,hg5,fun _ => W9 a1 v2 hk4,hd3,hd2,fun _ => W4 a1 (0 : Int) (4 : Int) v1 hk1,trivial⟩ ?_
   cases h
   exact Tri.ret rfl ⟨.inl rfl,rfl,rfl⟩
  ·refine Tri.f 1 [.v (.bool v1),.g true,.g false] [.keep [4] []] rfl ⟨hd3,hd2,fun _ => W4 a1 (0 : Int) (4 : Int) v1 hk1,trivial⟩ ?_
   cases h
   exact Tri.ret rfl ⟨.inl rfl,rfl,rfl⟩
 ·refine Tri.f 1 [.v (.bool v1),.g false,.g false] [.keep [4] []] rfl ⟨rfl,hd2,fun _ => W4 a1 (0 : Int) (4 : Int) v1 hk1,trivial⟩ ?_
  cases h
  exact Tri.ret rfl ⟨.inl rfl,rfl,rfl⟩
noncomputable def E63 : Env := ⟨Tryd.prog,tys,(Tryd.f22.body).getD .skip,24,tysOk,mixedOk⟩
abbrev K37 (r : List UInt8) (σ' : ASt) : Prop := isRes E63.T Tryd.f22 (.str r) [] σ'
noncomputable def l_spec_FormatCoalition_0 (a0 : Int) : ((List UInt8) × Int) → Option (((List UInt8) × Int) ⊕ ((List UInt8)))
 | (v2,v3) => (
bif decide (v3 < 5) then
((m_spec_HasPlayer a0 v3).bind fun v4 =>
bif v4 then
(grd (0 ≤ v3 ∧ v3 ≤ IntKind.i64.wrap (v3 + 1) ∧ IntKind.i64.wrap (v3 + 1) ≤ (([97,98,99,100,101] : List UInt8).length : Int)) <|
grd (((v2.length + ((([97,98,99,100,101] : List UInt8).drop v3.toNat).take ((IntKind.i64.wrap (v3 + 1)).toNat - v3.toNat)).length : Nat) : Int) ≤ 9223372036854775807) <|
some (.inl (v2 ++ ((([97,98,99,100,101] : List UInt8).drop v3.toNat).take ((IntKind.i64.wrap (v3 + 1)).toNat - v3.toNat)),IntKind.i64.wrap (v3 + 1))))
else
(some (.inl (v2,IntKind.i64.wrap (v3 + 1)))))
else
(some (.inr v2)))
noncomputable def m_spec_FormatCoalition (a0 : Int) : Option (List UInt8) :=
(m_spec_l2Good a0).bind fun v1 =>
bif !v1 then
(some [])
else
((iter (l_spec_FormatCoalition_0 a0) ([],(0 : Int))).bind fun
| v5 => (
bif v5 == [] then
(some ([45] : List UInt8))
else
(some v5)))
theorem W11 (a0 : Int) (r : List UInt8) (h : m_spec_FormatCoalition a0 = some r) : AM.Spec Tryd.prog 22 [.i a0] [] (.str r) [] := by
 refine spec_of (E := E63) Tryd.func22 rfl rfl rfl rfl ?_
 refine Tri.f 1 [] [.keep [0] []] rfl trivial ?_
 obtain ⟨v1,hk1,h⟩ := bind_some h
 refine Tri.f 1 [.v (.bool v1)] [.keep [0,7] []] rfl ⟨fun _ => W8 a0 v1 hk1,trivial⟩ ?_
 rcases bif_some h with ⟨hd2,h⟩ | ⟨hd2,h⟩
 ·refine Tri.f 2 [.g true] [.keep [2] []] rfl ⟨hd2,trivial⟩ ?_
  cases h
  exact Tri.ret rfl ⟨.inl rfl,rfl,rfl⟩
 ·refine Tri.f 3 [.g false] [.keep [0,3,4] []] rfl ⟨hd2,trivial⟩ ?_
  obtain ⟨v5,hk8,h⟩ := bind_some h
  refine Tri.loop (K1 := [.code [(3,0),(1,0),(0,0)] 0]) (K2 := [.blk 0,.code [] 4]) (fun (v2,v3) => ⟨[(0,.i a0),(3,.str v2),(4,.i v3)],[]⟩) (fun x e σ' => match x with | v5 => e = .exit 0 ∧ σ' = ⟨[(3,.str v5)],[]⟩) hk8 rfl rfl ?_ ?_
  ·intro s x hs
   clear h
   have h := hs
   clear hs
   obtain ⟨v2,v3⟩ := s
   refine Tri.f 1 [] [.keep [0,3,4,9] []] rfl trivial ?_
   rcases bif_some h with ⟨hd3,h⟩ | ⟨hd3,h⟩
   ·obtain ⟨v4,hk4,h⟩ := bind_some h
    refine Tri.f 2 [.g true,.v (.bool v4)] [.keep [0,3,4,14] []] rfl ⟨fun _ => W10 a0 v3 v4 hk4,hd3,trivial⟩ ?_
    rcases bif_some h with ⟨hd5,h⟩ | ⟨hd5,h⟩
    ·obtain ⟨hg6,h⟩ := grd_some h
     obtain ⟨hg7,h⟩ := grd_some h
     refine Tri.f 3 [.g true] [.keep [0,3,4] []] rfl ⟨hg7,hg6,hd5,trivial⟩ ?_
     cases h
     exact Tri.nil ⟨rfl,rfl⟩
    ·refine Tri.f 2 [.g false] [.keep [0,3,4] []] rfl ⟨hd5,trivial⟩ ?_
     cases h
     exact Tri.nil ⟨rfl,rfl⟩
   ·refine Tri.f 1 [.g false] [.keep [3] []] rfl ⟨hd3,trivial⟩ ?_
    cases h
    exact Tri.out 0 rfl ⟨nofun,rfl,rfl⟩
  ·intro e σ' hne hq
   obtain ⟨rfl,rfl⟩ := hq
   refine TriX.exit (K' := [.code [] 4]) rfl ?_
   refine Tri.f 1 [] [.keep [3,22] []] rfl trivial ?_
   rcases bif_some h with ⟨hd9,h⟩ | ⟨hd9,h⟩
   ·refine Tri.f 2 [.g true] [.keep [2] []] rfl ⟨hd9,trivial⟩ ?_
    cases h
    exact Tri.ret rfl ⟨.inl rfl,rfl,rfl⟩
   ·refine Tri.f 2 [.g false] [.keep [2] []] rfl ⟨hd9,trivial⟩ ?_
    cases h
    exact Tri.ret rfl ⟨.inl rfl,rfl,rfl⟩
noncomputable def E64 : Env := ⟨Tryd.prog,tys,(Tryd.f7.body).getD .skip,40,tysOk,mixedOk⟩
abbrev K38 (r : List UInt8) (σ' : ASt) : Prop := isRes E64.T Tryd.f7 (.str r) [] σ'
noncomputable def l_spec_FormatGame_0 (a1 : List Int) : ((List UInt8) × Int) → Option (((List UInt8) × Int) ⊕ ((List UInt8)))
 | (v3,v4) => (
bif decide (v4 < (a1.length : Int)) then
(grd (0 ≤ v4 ∧ v4 < (a1.length : Int)) <|
bif (a1.getD v4.toNat 0) != 0 then
((m_spec_FormatCoalition v4).bind fun v5 =>
grd (((v3.length + v5.length : Nat) : Int) ≤ 9223372036854775807) <|
grd ((((v3 ++ v5).length + ([32] : List UInt8).length : Nat) : Int) ≤ 9223372036854775807) <|
grd (0 ≤ v4 ∧ v4 < (a1.length : Int)) <|
(m_spec_FormatInt (a1.getD v4.toNat 0)).bind fun v6 =>
grd (((((v3 ++ v5) ++ ([32] : List UInt8)).length + v6.length : Nat) : Int) ≤ 9223372036854775807) <|
grd ((((((v3 ++ v5) ++ ([32] : List UInt8)) ++ v6).length + ([10] : List UInt8).length : Nat) : Int) ≤ 9223372036854775807) <|
some (.inl ((((v3 ++ v5) ++ ([32] : List UInt8)) ++ v6) ++ ([10] : List UInt8),IntKind.i64.wrap (v4 + 1))))
else
(some (.inl (v3,IntKind.i64.wrap (v4 + 1)))))
else
(some (.inr v3)))
noncomputable def m_spec_FormatGame (a0 : Int) (a1 : List Int) : Option (List UInt8) :=
(m_spec_IsValidGame a0 a1).bind fun v1 =>
bif !v1 then
(some [])
else
((m_spec_FormatInt a0).bind fun v2 =>
grd (((([112,108,97,121,101,114,115,32] : List UInt8).length + v2.length : Nat) : Int) ≤ 9223372036854775807) <|
grd ((((([112,108,97,121,101,114,115,32] : List UInt8) ++ v2).length + ([10] : List UInt8).length : Nat) : Int) ≤ 9223372036854775807) <|
(iter (l_spec_FormatGame_0 a1) ((([112,108,97,121,101,114,115,32] : List UInt8) ++ v2) ++ ([10] : List UInt8),(1 : Int))).bind fun
| v7 => (
some v7))
theorem W12 (a0 : Int) (a1 : List Int) (r : List UInt8) (h : m_spec_FormatGame a0 a1 = some r) : AM.Spec Tryd.prog 7 [.agg [.i a0,.list (.ints a1)]] [] (.str r) [] := by
 refine spec_of (E := E64) Tryd.func7 rfl rfl rfl rfl ?_
 refine Tri.f 1 [] [.keep [1] [1]] rfl trivial ?_
 obtain ⟨v1,hk1,h⟩ := bind_some h
 refine Tri.f 1 [.v (.bool v1)] [.keep [1,7] [1]] rfl ⟨fun _ => W6 a0 a1 v1 hk1,trivial⟩ ?_
 rcases bif_some h with ⟨hd2,h⟩ | ⟨hd2,h⟩
 ·refine Tri.f 2 [.g true] [.keep [2] []] rfl ⟨hd2,trivial⟩ ?_
  cases h
  exact Tri.ret rfl ⟨.inl rfl,rfl,rfl⟩
 ·obtain ⟨v2,hk3,h⟩ := bind_some h
  obtain ⟨hg4,h⟩ := grd_some h
  obtain ⟨hg5,h⟩ := grd_some h
  refine Tri.f 3 [.g false,.v (.str v2)] [.keep [1,3,4] [1]] rfl ⟨hg5,hg4,fun _ => W7 a0 v2 hk3,hd2,trivial⟩ ?_
  obtain ⟨v7,hk16,h⟩ := bind_some h
  refine Tri.loop (K1 := [.code [(3,0),(1,0),(0,0)] 0]) (K2 := [.blk 0,.code [] 4]) (fun (v3,v4) => ⟨[(1,.ptr 1 0),(3,.str v3),(4,.i v4)],[(1,.box [.i a0,.list (.ints a1)])]⟩) (fun x e σ' => match x with | v7 => e = .exit 0 ∧ σ' = ⟨[(3,.str v7)],[]⟩) hk16 rfl rfl ?_ ?_
  ·intro s x hs
   clear h
   have h := hs
   clear hs
   obtain ⟨v3,v4⟩ := s
   refine Tri.f 1 [] [.keep [1,3,4,17] [1]] rfl trivial ?_
   rcases bif_some h with ⟨hd6,h⟩ | ⟨hd6,h⟩
   ·obtain ⟨hg7,h⟩ := grd_some h
    refine Tri.f 2 [.g true] [.keep [1,3,4,25] [1]] rfl ⟨hg7,hd6,trivial⟩ ?_
    rcases bif_some h with ⟨hd8,h⟩ | ⟨hd8,h⟩
    ·obtain ⟨v5,hk9,h⟩ := bind_some h
     obtain ⟨hg10,h⟩ := grd_some h
     obtain ⟨hg11,h⟩ := grd_some h
     obtain ⟨hg12,h⟩ := grd_some h
     obtain ⟨v6,hk13,h⟩ := bind_some h
     obtain ⟨hg14,h⟩ := grd_some h
     obtain ⟨hg15,h⟩ := grd_some h
     refine Tri.f 3 [.g true,.v (.str v5),.v (.str v6)] [.keep [1,3,4] [1]] rfl ⟨hg15,hg14,fun _ => W7 (a1.getD v4.toNat 0) v6 hk13,hg12,hg11,hg10,fun _ => W11 v4 v5 hk9,hd8,trivial⟩ ?_
     cases h
     exact Tri.nil ⟨rfl,rfl⟩
    ·refine Tri.f 2 [.g false] [.keep [1,3,4] [1]] rfl ⟨hd8,trivial⟩ ?_
     cases h
     exact Tri.nil ⟨rfl,rfl⟩
   ·refine Tri.f 1 [.g false] [.keep [3] []] rfl ⟨hd6,trivial⟩ ?_
    cases h
    exact Tri.out 0 rfl ⟨nofun,rfl,rfl⟩
  ·intro e σ' hne hq
   obtain ⟨rfl,rfl⟩ := hq
   refine TriX.exit (K' := [.code [] 4]) rfl ?_
   refine Tri.f 1 [] [.keep [2] []] rfl trivial ?_
   cases h
   exact Tri.ret rfl ⟨.inl rfl,rfl,rfl⟩
noncomputable def E65 : Env := ⟨Tryd.prog,tys,(Tryd.f35.body).getD .skip,15,tysOk,mixedOk⟩
abbrev K39 (r : Bool) (σ' : ASt) : Prop := isRes E65.T Tryd.f35 (.bool r) [] σ'
noncomputable def m_impl_within (a0 a1 a2 : Int) : Option Bool :=
bif decide (a0 ≥ a1) then
(some (decide (a0 ≤ a2)))
else
(some false)
theorem W13 (a0 a1 a2 : Int) (r : Bool) (h : m_impl_within a0 a1 a2 = some r) : AM.Spec Tryd.prog 35 [.i a0,.i a1,.i a2] [] (.bool r) [] := by
 refine spec_of (E := E65) Tryd.func35 rfl rfl rfl rfl ?_
 refine Tri.f 1 [] [.keep [0,1,2] []] rfl trivial ?_
 rcases bif_some h with ⟨hd1,h⟩ | ⟨hd1,h⟩
 ·refine Tri.f 1 [.g true] [.keep [6] []] rfl ⟨hd1,trivial⟩ ?_
  cases h
  exact Tri.ret rfl ⟨.inl rfl,rfl,rfl⟩
 ·refine Tri.f 1 [.g false] [.keep [6] []] rfl ⟨hd1,trivial⟩ ?_
  cases h
  exact Tri.ret rfl ⟨.inl rfl,rfl,rfl⟩
noncomputable def E66 : Env := ⟨Tryd.prog,tys,(Tryd.f49.body).getD .skip,6,tysOk,mixedOk⟩
abbrev K40 (r : Bool) (σ' : ASt) : Prop := isRes E66.T Tryd.f49 (.bool r) [] σ'
noncomputable def m_impl_IsValidGame_1 (a0 : Int) : Option Bool :=
(m_impl_within a0 (-500 : Int) (500 : Int)).bind fun v1 =>
some (!v1)
theorem W14 (a0 : Int) (r : Bool) (h : m_impl_IsValidGame_1 a0 = some r) : AM.Spec Tryd.prog 49 [.i a0] [] (.bool r) [] := by
 refine spec_of (E := E66) Tryd.func49 rfl rfl rfl rfl ?_
 refine Tri.f 1 [] [.keep [0] []] rfl trivial ?_
 obtain ⟨v1,hk1,h⟩ := bind_some h
 refine Tri.f 1 [.v (.bool v1)] [.keep [2] []] rfl ⟨fun _ => W13 a0 (-500 : Int) (500 : Int) v1 hk1,trivial⟩ ?_
 cases h
 exact Tri.ret rfl ⟨.inl rfl,rfl,rfl⟩
noncomputable def E67 : Env := ⟨Tryd.prog,tys,(Tryd.f66.body).getD .skip,19,tysOk,mixedOk⟩
abbrev K41 (r : Int) (σ' : ASt) : Prop := isRes E67.T Tryd.f66 (.i r) [] σ'
noncomputable def l_slices_IndexFunc_int_int_impl_IsValidGame_1_0 (a0 : List Int) (v1 : Int) : Option (Int ⊕ (Unit ⊕ Int)) :=
bif decide (v1 < (a0.length : Int)) then
(grd (0 ≤ v1 ∧ v1 < (a0.length : Int)) <|
(m_impl_IsValidGame_1 (a0.getD v1.toNat 0)).bind fun v2 =>
bif v2 then
(some (.inr (.inr v1)))
else
(some (.inl (IntKind.i64.wrap (v1 + 1)))))
else
(some (.inr (.inl ())))
noncomputable def m_slices_IndexFunc_int_int_impl_IsValidGame_1 (a0 : List Int) : Option Int :=
(iter (l_slices_IndexFunc_int_int_impl_IsValidGame_1_0 a0) (0 : Int)).bind fun
| (.inl _) => (
some (-1 : Int))
| (.inr r) => some r
theorem W15 (a0 : List Int) (r : Int) (h : m_slices_IndexFunc_int_int_impl_IsValidGame_1 a0 = some r) : AM.Spec Tryd.prog 66 [.list (.ints a0),.func 49 [] []] [] (.i r) [] := by
 refine spec_of (E := E67) Tryd.func66 rfl rfl rfl rfl ?_
 refine Tri.f 2 [] [.keep [0,1,7,8] []] rfl trivial ?_
 obtain ⟨x1,hk5,h⟩ := bind_some h
 refine Tri.loop (K1 := [.code [(1,0),(1,0),(0,0)] 0]) (K2 := [.blk 0,.code [] 2]) (fun v1 => ⟨[(0,.list (.ints a0)),(1,.func 49 [] []),(7,.i (a0.length : Int)),(8,.i v1)],[]⟩) (fun x e σ' => match x with | (.inl _) => e = .exit 0 ∧ σ' = ⟨[],[]⟩ | (.inr r) => e = .ret ∧ K41 r σ') hk5 rfl rfl ?_ ?_
 ·intro v1 x hs
  clear h
  have h := hs
  clear hs
  refine Tri.f 1 [] [.keep [0,1,7,8,9] []] rfl trivial ?_
  rcases bif_some h with ⟨hd1,h⟩ | ⟨hd1,h⟩
  ·refine Tri.f 2 [.g true] [.keep [0,1,5,7,8] []] rfl ⟨hd1,trivial⟩ ?_
   obtain ⟨hg2,h⟩ := grd_some h
   obtain ⟨v2,hk3,h⟩ := bind_some h
   refine Tri.f 1 [.v (.bool v2)] [.keep [0,1,5,7,8,16] []] rfl ⟨fun _ => W14 (a0.getD v1.toNat 0) v2 hk3,hg2,trivial⟩ ?_
   rcases bif_some h with ⟨hd4,h⟩ | ⟨hd4,h⟩
   ·refine Tri.f 2 [.g true] [.keep [4] []] rfl ⟨hd4,trivial⟩ ?_
    cases h
    exact Tri.ret rfl ⟨nofun,rfl,rfl,rfl⟩
   ·refine Tri.f 2 [.g false] [.keep [0,1,7,8] []] rfl ⟨hd4,trivial⟩ ?_
    cases h
    exact Tri.nil ⟨rfl,rfl⟩
  ·refine Tri.f 1 [.g false] [.keep [] []] rfl ⟨hd1,trivial⟩ ?_
   cases h
   exact Tri.out 0 rfl ⟨nofun,rfl,rfl⟩
 ·intro e σ' hne hq
  rcases x1 with _ | r
  ·obtain ⟨rfl,rfl⟩ := hq
   refine TriX.exit (K' := [.code [] 2]) rfl ?_
   refine Tri.f 1 [] [.keep [4] []] rfl trivial ?_
   cases h
   exact Tri.ret rfl ⟨.inl rfl,rfl,rfl⟩
  ·obtain ⟨rfl,hq⟩ := hq
   cases h
   exact TriX.ret ⟨.inl rfl,hq⟩
noncomputable def E68 : Env := ⟨Tryd.prog,tys,(Tryd.f48.body).getD .skip,9,tysOk,mixedOk⟩
abbrev K42 (r : Bool) (σ' : ASt) : Prop := isRes E68.T Tryd.f48 (.bool r) [] σ'
noncomputable def m_slices_ContainsFunc_int_int_impl_IsValidGame_1 (a0 : List Int) : Option Bool :=
(m_slices_IndexFunc_int_int_impl_IsValidGame_1 a0).bind fun v1 =>
some (decide (v1 ≥ 0))
theorem W16 (a0 : List Int) (r : Bool) (h : m_slices_ContainsFunc_int_int_impl_IsValidGame_1 a0 = some r) : AM.Spec Tryd.prog 48 [.list (.ints a0),.func 49 [] []] [] (.bool r) [] := by
 refine spec_of (E := E68) Tryd.func48 rfl rfl rfl rfl ?_
 refine Tri.f 1 [] [.keep [0,1] []] rfl trivial ?_
 obtain ⟨v1,hk1,h⟩ := bind_some h
 refine Tri.f 1 [.v (.i v1)] [.keep [4] []] rfl ⟨fun _ => W15 a0 v1 hk1,trivial⟩ ?_
 cases h
 exact Tri.ret rfl ⟨.inl rfl,rfl,rfl⟩
noncomputable def E69 : Env := ⟨Tryd.prog,tys,(Tryd.f24.body).getD .skip,27,tysOk,mixedOk⟩
abbrev K43 (r : Bool) (σ' : ASt) : Prop := isRes E69.T Tryd.f24 (.bool r) [] σ'
noncomputable def m_impl_IsValidGame (a0 : Int) (a1 : List Int) : Option Bool :=
(m_impl_within a0 (1 : Int) (5 : Int)).bind fun v1 =>
bif !v1 then
(some false)
else
(grd (0 ≤ a0) <|
bif (a1.length : Int) != (IntKind.i64.wrap ((1 : Int) * 2 ^ (min a0.toNat 64))) then
(some false)
else
(grd ((0 : Int) ≤ (0 : Int) ∧ (0 : Int) < (a1.length : Int)) <|
bif (a1.getD ((0 : Int).toNat) 0) != 0 then
(some false)
else
((m_slices_ContainsFunc_int_int_impl_IsValidGame_1 a1).bind fun v2 =>
some (!v2))))
theorem W17 (a0 : Int) (a1 : List Int) (r : Bool) (h : m_impl_IsValidGame a0 a1 = some r) : AM.Spec Tryd.prog 24 [.agg [.i a0,.list (.ints a1)]] [] (.bool r) [] := by
 refine spec_of (E := E69) Tryd.func24 rfl rfl rfl rfl ?_
 refine Tri.f 1 [] [.keep [1] [1]] rfl trivial ?_
 obtain ⟨v1,hk1,h⟩ := bind_some h
 rcases bif_some h with ⟨hd2,h⟩ | ⟨hd2,h⟩
 ·refine Tri.f 1 [.v (.bool v1),.g true,.g true] [.keep [1,22] [1]] rfl ⟨rfl,hd2,fun _ => W13 a0 (1 : Int) (5 : Int) v1 hk1,trivial⟩ ?_
  refine Tri.f 2 [.g true] [.keep [2] []] rfl ⟨rfl,trivial⟩ ?_
  cases h
  exact Tri.ret rfl ⟨.inl rfl,rfl,rfl⟩
 ·obtain ⟨hg3,h⟩ := grd_some h
  rcases bif_some h with ⟨hd4,h⟩ | ⟨hd4,h⟩
  ·refine Tri.f 1 [.v (.bool v1),.g false,.g true] [.keep [1,22] [1]] rfl ⟨hd4,hg3,hd2,fun _ => W13 a0 (1 : Int) (5 : Int) v1 hk1,trivial⟩ ?_
   refine Tri.f 2 [.g true] [.keep [2] []] rfl ⟨rfl,trivial⟩ ?_
   cases h
   exact Tri.ret rfl ⟨.inl rfl,rfl,rfl⟩
  ·obtain ⟨hg5,h⟩ := grd_some h
   refine Tri.f 1 [.v (.bool v1),.g false,.g false] [.keep [1,22] [1]] rfl ⟨hg5,hd4,hg3,hd2,fun _ => W13 a0 (1 : Int) (5 : Int) v1 hk1,trivial⟩ ?_
   rcases bif_some h with ⟨hd6,h⟩ | ⟨hd6,h⟩
   ·refine Tri.f 2 [.g true] [.keep [2] []] rfl ⟨hd6,trivial⟩ ?_
    cases h
    exact Tri.ret rfl ⟨.inl rfl,rfl,rfl⟩
   ·obtain ⟨v2,hk7,h⟩ := bind_some h
    refine Tri.f 2 [.g false,.v (.bool v2)] [.keep [2] []] rfl ⟨fun _ => W16 a1 v2 hk7,hd6,trivial⟩ ?_
    cases h
    exact Tri.ret rfl ⟨.inl rfl,rfl,rfl⟩
def Tryd.itoaL_ren : Go.Shelf.Ren := ⟨fun | 171 => 50 | 243 => 67 | 246 => 73 | 283 => 75 | 284 => 76 | 285 => 77 | 286 => 78 | 129 => 80 | 317 => 79 | 318 => 81 | 319 => 82 | 320 => 83 | 337 => 84 | 338 => 85 | n => n,fun | 3 => 3 | 9 => 9 | 2 => 2 | 4 => 4 | 171 => 80 | 0 => 0 | 53 => 81 | 37 => 35 | 5 => 5 | 173 => 84 | 212 => 86 | 51 => 87 | 20 => 20 | 213 => 88 | 46 => 79 | 232 => 91 | 233 => 92 | n => n,fun | 17 => 0 | 18 => 1 | 19 => 2 | n => n⟩
theorem Tryd.itoaL : Go.Proofs.LaysM.n171 Tryd.prog Tryd.itoaL_ren where
 mixed := by kernel_rfl
 f129 := Tryd.func80.trans (congrArg some (by kernel_rfl))
 f171 := Tryd.func50.trans (congrArg some (by kernel_rfl))
 f243 := Tryd.func67.trans (congrArg some (by kernel_rfl))
 f246 := Tryd.func73.trans (congrArg some (by kernel_rfl))
 f283 := Tryd.func75.trans (congrArg some (by kernel_rfl))
 f284 := Tryd.func76.trans (congrArg some (by kernel_rfl))
 f285 := Tryd.func77.trans (congrArg some (by kernel_rfl))
 f286 := Tryd.func78.trans (congrArg some (by kernel_rfl))
 f317 := Tryd.func79.trans (congrArg some (by kernel_rfl))
 f318 := Tryd.func81.trans (congrArg some (by kernel_rfl))
 f319 := Tryd.func82.trans (congrArg some (by kernel_rfl))
 f320 := Tryd.func83.trans (congrArg some (by kernel_rfl))
 f337 := Tryd.func84.trans (congrArg some (by kernel_rfl))
 f338 := Tryd.func85.trans (congrArg some (by kernel_rfl))
 t0 := Tryd.underlying0
 a0 := Tryd.isAgg0
 z0 := Tryd.sizeOf0
 v0 := Tryd.zeroValue0
 t2 := Tryd.underlying2
 a2 := Tryd.isAgg2
 z2 := Tryd.sizeOf2
 v2 := Tryd.zeroValue2
 t3 := Tryd.underlying3
 a3 := Tryd.isAgg3
 z3 := Tryd.sizeOf3
 v3 := Tryd.zeroValue3
 t4 := Tryd.underlying4
 a4 := Tryd.isAgg4
 z4 := Tryd.sizeOf4
 v4 := Tryd.zeroValue4
 t5 := Tryd.underlying5
 a5 := Tryd.isAgg5
 z5 := Tryd.sizeOf5
 v5 := Tryd.zeroValue5
 t9 := Tryd.underlying9
 a9 := Tryd.isAgg9
 z9 := Tryd.sizeOf9
 v9 := Tryd.zeroValue9
 t20 := Tryd.underlying20
 a20 := Tryd.isAgg20
 z20 := Tryd.sizeOf20
 v20 := Tryd.zeroValue20
 t37 := Tryd.underlying35
 a37 := Tryd.isAgg35
 z37 := Tryd.sizeOf35
 v37 := Tryd.zeroValue35
 t46 := Tryd.underlying79
 a46 := Tryd.isAgg79
 z46 := Tryd.sizeOf79
 v46 := Tryd.zeroValue79
 t51 := Tryd.underlying87
 a51 := Tryd.isAgg87
 z51 := Tryd.sizeOf87
 v51 := Tryd.zeroValue87
 t53 := Tryd.underlying81
 a53 := Tryd.isAgg81
 z53 := Tryd.sizeOf81
 v53 := Tryd.zeroValue81
 t171 := Tryd.underlying80
 a171 := Tryd.isAgg80
 z171 := Tryd.sizeOf80
 v171 := Tryd.zeroValue80
 t173 := Tryd.underlying84
 a173 := Tryd.isAgg84
 z173 := Tryd.sizeOf84
 v173 := Tryd.zeroValue84
 t212 := Tryd.underlying86
 a212 := Tryd.isAgg86
 z212 := Tryd.sizeOf86
 v212 := Tryd.zeroValue86
 t213 := Tryd.underlying88
 a213 := Tryd.isAgg88
 z213 := Tryd.sizeOf88
 t232 := Tryd.underlying91
 a232 := Tryd.isAgg91
 z232 := Tryd.sizeOf91
 v232 := Tryd.zeroValue91
 t233 := Tryd.underlying92
 a233 := Tryd.isAgg92
 z233 := Tryd.sizeOf92
 v233 := Tryd.zeroValue92
 g17 := by kernel_rfl
 g18 := by kernel_rfl
 g19 := by kernel_rfl
 i0 := by kernel_rfl
 i2 := by kernel_rfl
 i3 := by kernel_rfl
 i4 := by kernel_rfl
 i5 := by kernel_rfl
 i9 := by kernel_rfl
 i20 := by kernel_rfl
 i37 := by kernel_rfl
 i46 := by kernel_rfl
 i51 := by kernel_rfl
 i53 := by kernel_rfl
 i171 := by kernel_rfl
 i173 := by kernel_rfl
 i212 := by kernel_rfl
 i232 := by kernel_rfl
 i233 := by kernel_rfl
 m17 := by kernel_rfl
 m18 := by kernel_rfl
 m19 := by kernel_rfl
noncomputable def m_strconv_Itoa (a0 : Int) : Option (List UInt8) :=
grd (-9223372036854775808 ≤ a0 ∧ a0 ≤ 9223372036854775807) <|
some (Lib.itoa a0)
theorem W18 (a0 : Int) (r : List UInt8) (h : m_strconv_Itoa a0 = some r) : AM.Spec Tryd.prog 50 [.i a0] [] (.str r) [] := by
 obtain ⟨⟨h1,h2⟩,h⟩ := grd_some h
 cases h
 exact spec_itoa (P := Tryd.prog) (f := 50) ⟨_,Tryd.func50,by decide,rfl⟩ (show Tryd.prog.globalNamed tabName = some 0 by kernel_rfl) (fun w ht => Any.strconv_Itoa Tryd.itoaL a0 h1 h2 w ht)
noncomputable def E70 : Env := ⟨Tryd.prog,tys,(Tryd.f25.body).getD .skip,5,tysOk,mixedOk⟩
abbrev K44 (r : List UInt8) (σ' : ASt) : Prop := isRes E70.T Tryd.f25 (.str r) [] σ'
noncomputable def m_impl_FormatInt (a0 : Int) : Option (List UInt8) :=
(m_strconv_Itoa a0).bind fun v1 =>
some v1
theorem W19 (a0 : Int) (r : List UInt8) (h : m_impl_FormatInt a0 = some r) : AM.Spec Tryd.prog 25 [.i a0] [] (.str r) [] := by
 refine spec_of (E := E70) Tryd.func25 rfl rfl rfl rfl ?_
 refine Tri.f 1 [] [.keep [0] []] rfl trivial ?_
 obtain ⟨v1,hk1,h⟩ := bind_some h
 refine Tri.f 1 [.v (.str v1)] [.keep [2] []] rfl ⟨fun _ => W18 a0 v1 hk1,trivial⟩ ?_
 cases h
 exact Tri.ret rfl ⟨.inl rfl,rfl,rfl⟩
noncomputable def E71 : Env := ⟨Tryd.prog,tys,(Tryd.f68.body).getD .skip,18,tysOk,mixedOk⟩
abbrev K45 (r : Bool) (σ' : ASt) : Prop := isRes E71.T Tryd.f68 (.bool r) [] σ'
noncomputable def m_impl_HasPlayer (a0 a1 : Int) : Option Bool :=
bif decide (a0 ≥ 0) then
((m_impl_within a1 (0 : Int) (4 : Int)).bind fun v1 =>
bif v1 then
(grd (0 ≤ a1) <|
some ((bitsOf .and .i64 (a0.fdiv (2 ^ (min a1.toNat 64))) (1 : Int)) == 1))
else
(some false))
else
(some false)
theorem W20 (a0 a1 : Int) (r : Bool) (h : m_impl_HasPlayer a0 a1 = some r) : AM.Spec Tryd.prog 68 [.i a0,.i a1] [] (.bool r) [] := by
 refine spec_of (E := E71) Tryd.func68 rfl rfl rfl rfl ?_
 refine Tri.f 1 [] [.keep [0,1] []] rfl trivial ?_
 rcases bif_some h with ⟨hd1,h⟩ | ⟨hd1,h⟩
 ·obtain ⟨v1,hk2,h⟩ := bind_some h
  rcases bif_some h with ⟨hd3,h⟩ | ⟨hd3,h⟩
  ·obtain ⟨hg4,h⟩ := grd_some h
   refine Tri.f 1 [.g true,.v (.bool v1),.g true] [.keep [4] []] rfl ⟨hg4,hd3,fun _ => W13 a1 (0 : Int) (4 : Int) v1 hk2,hd1,trivial⟩ ?_
   cases h
   exact Tri.ret rfl ⟨.inl rfl,rfl,rfl⟩
  ·refine Tri.f 1 [.g true,.v (.bool v1),.g false] [.keep [4] []] rfl ⟨hd3,fun _ => W13 a1 (0 : Int) (4 : Int) v1 hk2,hd1,trivial⟩ ?_
   cases h
   exact Tri.ret rfl ⟨.inl rfl,rfl,rfl⟩
 ·refine Tri.f 1 [.g false,.g false] [.keep [4] []] rfl ⟨rfl,hd1,trivial⟩ ?_
  cases h
  exact Tri.ret rfl ⟨.inl rfl,rfl,rfl⟩
noncomputable def E72 : Env := ⟨Tryd.prog,tys,(Tryd.f51.body).getD .skip,21,tysOk,mixedOk⟩
abbrev K46 (r : List Int) (σ' : ASt) : Prop := isRes E72.T Tryd.f51 (.sl 1000 0) [(1000,.arr 3 0 0 (.ints r))] σ'
noncomputable def l_impl_MembersOf_0 (a0 : Int) : (Int × (List Int)) → Option ((Int × (List Int)) ⊕ ((List Int)))
 | (v2,v3) => (
bif decide (v2 < 5) then
((m_impl_HasPlayer a0 v2).bind fun v4 =>
bif v4 then
(grd (v3.length + ([v2] : List Int).length ≤ room) <|
some (.inl (IntKind.i64.wrap (v2 + 1),v3 ++ [v2])))
else
(some (.inl (IntKind.i64.wrap (v2 + 1),v3))))
else
(some (.inr v3)))
noncomputable def m_impl_MembersOf (a0 : Int) : Option (List Int) :=
(m_impl_within a0 (0 : Int) (31 : Int)).bind fun v1 =>
bif !v1 then
(some [])
else
((iter (l_impl_MembersOf_0 a0) ((0 : Int),[])).bind fun
| v5 => (
some v5))
theorem W21 (a0 : Int) (r : List Int) (h : m_impl_MembersOf a0 = some r) : AM.Spec Tryd.prog 51 [.i a0] [] (.sl 1000 0) [(1000,.arr 3 0 0 (.ints r))] := by
 refine spec_of (E := E72) Tryd.func51 rfl rfl rfl rfl ?_
 refine Tri.f 1 [] [.keep [0] []] rfl trivial ?_
 obtain ⟨v1,hk1,h⟩ := bind_some h
 refine Tri.f 1 [.v (.bool v1)] [.keep [0,7] []] rfl ⟨fun _ => W13 a0 (0 : Int) (31 : Int) v1 hk1,trivial⟩ ?_
 rcases bif_some h with ⟨hd2,h⟩ | ⟨hd2,h⟩
 ·refine Tri.f 2 [.g true] [.own 2 [] 1100 3,.swap 1100 1000,.keep [2] [1000]] rfl ⟨hd2,trivial⟩ ?_
  cases h
  exact Tri.ret rfl ⟨.inl rfl,rfl,rfl⟩
 ·refine Tri.f 3 [.g false] [.keep [0,3,9] [8]] rfl ⟨hd2,trivial⟩ ?_
  obtain ⟨v5,hk7,h⟩ := bind_some h
  refine Tri.loop (K1 := [.code [(3,0),(1,0),(0,0)] 0]) (K2 := [.blk 0,.code [] 4]) (fun (v2,v3) => ⟨[(0,.i a0),(3,.sl 8 0),(9,.i v2)],[(8,.arr 3 0 0 (.ints v3))]⟩) (fun x e σ' => match x with | v5 => e = .exit 0 ∧ σ' = ⟨[(3,.sl 8 0)],[(8,.arr 3 0 0 (.ints v5))]⟩) hk7 rfl rfl ?_ ?_
  ·intro s x hs
   clear h
   have h := hs
   clear hs
   obtain ⟨v2,v3⟩ := s
   refine Tri.f 1 [] [.keep [0,3,9,10] [8]] rfl trivial ?_
   rcases bif_some h with ⟨hd3,h⟩ | ⟨hd3,h⟩
   ·refine Tri.f 2 [.g true] [.keep [0,3,4,9] [8]] rfl ⟨hd3,trivial⟩ ?_
    obtain ⟨v4,hk4,h⟩ := bind_some h
    refine Tri.f 1 [.v (.bool v4)] [.keep [0,3,4,9,14] [8]] rfl ⟨fun _ => W20 a0 v2 v4 hk4,trivial⟩ ?_
    rcases bif_some h with ⟨hd5,h⟩ | ⟨hd5,h⟩
    ·obtain ⟨hg6,h⟩ := grd_some h
     refine Tri.f 3 [.g true] [.rever 8,.keep [0,3,9] [8]] rfl ⟨hg6,hd5,trivial⟩ ?_
     cases h
     exact Tri.nil ⟨rfl,rfl⟩
    ·refine Tri.f 2 [.g false] [.keep [0,3,9] [8]] rfl ⟨hd5,trivial⟩ ?_
     cases h
     exact Tri.nil ⟨rfl,rfl⟩
   ·refine Tri.f 1 [.g false] [.keep [3] [8]] rfl ⟨hd3,trivial⟩ ?_
    cases h
    exact Tri.out 0 rfl ⟨nofun,rfl,rfl⟩
  ·intro e σ' hne hq
   obtain ⟨rfl,rfl⟩ := hq
   refine TriX.exit (K' := [.code [] 4]) rfl ?_
   refine Tri.f 1 [] [.swap 8 1000,.keep [2] [1000]] rfl trivial ?_
   cases h
   exact Tri.ret rfl ⟨.inl rfl,rfl,rfl⟩
noncomputable def E73 : Env := ⟨Tryd.prog,tys,(Tryd.f26.body).getD .skip,27,tysOk,mixedOk⟩
abbrev K47 (r : List UInt8) (σ' : ASt) : Prop := isRes E73.T Tryd.f26 (.str r) [] σ'
noncomputable def l_impl_FormatCoalition_0 (v2 : List Int) : ((List UInt8) × Int) → Option (((List UInt8) × Int) ⊕ ((List UInt8)))
 | (v3,v4) => (
bif decide (v4 < (v2.length : Int)) then
(grd (0 ≤ v4 ∧ v4 < (v2.length : Int)) <|
grd (0 ≤ IntKind.u8.wrap (IntKind.i64.wrap ((97 : Int) + (v2.getD v4.toNat 0))) ∧ IntKind.u8.wrap (IntKind.i64.wrap ((97 : Int) + (v2.getD v4.toNat 0))) < 256) <|
grd (((v3.length + [UInt8.ofNat (IntKind.u8.wrap (IntKind.i64.wrap ((97 : Int) + (v2.getD v4.toNat 0)))).toNat].length : Nat) : Int) ≤ 9223372036854775807) <|
some (.inl (v3 ++ [UInt8.ofNat (IntKind.u8.wrap (IntKind.i64.wrap ((97 : Int) + (v2.getD v4.toNat 0)))).toNat],IntKind.i64.wrap (v4 + 1))))
else
(some (.inr v3)))
noncomputable def m_impl_FormatCoalition (a0 : Int) : Option (List UInt8) :=
(m_impl_within a0 (0 : Int) (31 : Int)).bind fun v1 =>
bif !v1 then
(some [])
else
((m_impl_MembersOf a0).bind fun v2 =>
(iter (l_impl_FormatCoalition_0 v2) ([],(0 : Int))).bind fun
| v5 => (
bif v5 == [] then
(some ([45] : List UInt8))
else
(some v5)))
theorem W22 (a0 : Int) (r : List UInt8) (h : m_impl_FormatCoalition a0 = some r) : AM.Spec Tryd.prog 26 [.i a0] [] (.str r) [] := by
 refine spec_of (E := E73) Tryd.func26 rfl rfl rfl rfl ?_
 refine Tri.f 1 [] [.keep [0] []] rfl trivial ?_
 obtain ⟨v1,hk1,h⟩ := bind_some h
 refine Tri.f 1 [.v (.bool v1)] [.keep [0,8] []] rfl ⟨fun _ => W13 a0 (0 : Int) (31 : Int) v1 hk1,trivial⟩ ?_
 rcases bif_some h with ⟨hd2,h⟩ | ⟨hd2,h⟩
 ·refine Tri.f 2 [.g true] [.keep [2] []] rfl ⟨hd2,trivial⟩ ?_
  cases h
  exact Tri.ret rfl ⟨.inl rfl,rfl,rfl⟩
 ·refine Tri.f 2 [.g false] [.keep [0,3] []] rfl ⟨hd2,trivial⟩ ?_
  obtain ⟨v2,hk3,h⟩ := bind_some h
  refine Tri.f 1 [.r ⟨[],.sl 1100 0,[(1100,.arr 3 0 0 (.ints v2))]⟩] [.keep [3,10,11,12] [1100]] rfl ⟨fun _ => (W21 a0 v2 hk3).swap 1000 1100,trivial⟩ ?_
  obtain ⟨v5,hk8,h⟩ := bind_some h
  refine Tri.loop (K1 := [.code [(3,0),(1,0),(0,0)] 0]) (K2 := [.blk 0,.code [] 4]) (fun (v3,v4) => ⟨[(3,.str v3),(10,.sl 1100 0),(11,.i (v2.length : Int)),(12,.i v4)],[(1100,.arr 3 0 0 (.ints v2))]⟩) (fun x e σ' => match x with | v5 => e = .exit 0 ∧ σ' = ⟨[(3,.str v5)],[]⟩) hk8 rfl rfl ?_ ?_
  ·intro s x hs
   clear h
   have h := hs
   clear hs
   obtain ⟨v3,v4⟩ := s
   refine Tri.f 1 [] [.keep [3,10,11,12,13] [1100]] rfl trivial ?_
   rcases bif_some h with ⟨hd4,h⟩ | ⟨hd4,h⟩
   ·obtain ⟨hg5,h⟩ := grd_some h
    obtain ⟨hg6,h⟩ := grd_some h
    obtain ⟨hg7,h⟩ := grd_some h
    refine Tri.f 3 [.g true] [.keep [3,10,11,12] [1100]] rfl ⟨hg7,hg6,hg5,hd4,trivial⟩ ?_
    refine Tri.f 1 [] [.keep [3,10,11,12] [1100]] rfl trivial ?_
    cases h
    exact Tri.nil ⟨rfl,rfl⟩
   ·refine Tri.f 1 [.g false] [.keep [3] []] rfl ⟨hd4,trivial⟩ ?_
    cases h
    exact Tri.out 0 rfl ⟨nofun,rfl,rfl⟩
  ·intro e σ' hne hq
   obtain ⟨rfl,rfl⟩ := hq
   refine TriX.exit (K' := [.code [] 4]) rfl ?_
   refine Tri.f 1 [] [.keep [3,25] []] rfl trivial ?_
   rcases bif_some h with ⟨hd9,h⟩ | ⟨hd9,h⟩
   ·refine Tri.f 2 [.g true] [.keep [2] []] rfl ⟨hd9,trivial⟩ ?_
    cases h
    exact Tri.ret rfl ⟨.inl rfl,rfl,rfl⟩
   ·refine Tri.f 2 [.g false] [.keep [2] []] rfl ⟨hd9,trivial⟩ ?_
    cases h
    exact Tri.ret rfl ⟨.inl rfl,rfl,rfl⟩
noncomputable def E74 : Env := ⟨Tryd.prog,tys,(Tryd.f9.body).getD .skip,35,tysOk,mixedOk⟩
abbrev K48 (r : List UInt8) (σ' : ASt) : Prop := isRes E74.T Tryd.f9 (.str r) [] σ'
noncomputable def l_impl_FormatGame_0 (a1 : List Int) : ((List UInt8) × Int) → Option (((List UInt8) × Int) ⊕ ((List UInt8)))
 | (v3,v4) => (
bif decide (v4 < (a1.length : Int)) then
(grd (0 ≤ v4 ∧ v4 < (a1.length : Int)) <|
bif (a1.getD v4.toNat 0) != 0 then
((m_impl_FormatCoalition v4).bind fun v5 =>
grd (((v5.length + ([32] : List UInt8).length : Nat) : Int) ≤ 9223372036854775807) <|
(m_impl_FormatInt (a1.getD v4.toNat 0)).bind fun v6 =>
grd ((((v5 ++ ([32] : List UInt8)).length + v6.length : Nat) : Int) ≤ 9223372036854775807) <|
grd (((((v5 ++ ([32] : List UInt8)) ++ v6).length + ([10] : List UInt8).length : Nat) : Int) ≤ 9223372036854775807) <|
grd (((v3.length + (((v5 ++ ([32] : List UInt8)) ++ v6) ++ ([10] : List UInt8)).length : Nat) : Int) ≤ 9223372036854775807) <|
some (.inl (v3 ++ (((v5 ++ ([32] : List UInt8)) ++ v6) ++ ([10] : List UInt8)),IntKind.i64.wrap (v4 + 1))))
else
(some (.inl (v3,IntKind.i64.wrap (v4 + 1)))))
else
(some (.inr v3)))
noncomputable def m_impl_FormatGame (a0 : Int) (a1 : List Int) : Option (List UInt8) :=
(m_impl_IsValidGame a0 a1).bind fun v1 =>
bif !v1 then
(some [])
else
((m_impl_FormatInt a0).bind fun v2 =>
grd (((([112,108,97,121,101,114,115,32] : List UInt8).length + v2.length : Nat) : Int) ≤ 9223372036854775807) <|
grd ((((([112,108,97,121,101,114,115,32] : List UInt8) ++ v2).length + ([10] : List UInt8).length : Nat) : Int) ≤ 9223372036854775807) <|
(iter (l_impl_FormatGame_0 a1) ((([112,108,97,121,101,114,115,32] : List UInt8) ++ v2) ++ ([10] : List UInt8),(0 : Int))).bind fun
| v7 => (
some v7))
theorem W23 (a0 : Int) (a1 : List Int) (r : List UInt8) (h : m_impl_FormatGame a0 a1 = some r) : AM.Spec Tryd.prog 9 [.agg [.i a0,.list (.ints a1)]] [] (.str r) [] := by
 refine spec_of (E := E74) Tryd.func9 rfl rfl rfl rfl ?_
 refine Tri.f 1 [] [.keep [1] [1]] rfl trivial ?_
 obtain ⟨v1,hk1,h⟩ := bind_some h
 refine Tri.f 1 [.v (.bool v1)] [.keep [1,8] [1]] rfl ⟨fun _ => W17 a0 a1 v1 hk1,trivial⟩ ?_
 rcases bif_some h with ⟨hd2,h⟩ | ⟨hd2,h⟩
 ·refine Tri.f 2 [.g true] [.keep [2] []] rfl ⟨hd2,trivial⟩ ?_
  cases h
  exact Tri.ret rfl ⟨.inl rfl,rfl,rfl⟩
 ·obtain ⟨v2,hk3,h⟩ := bind_some h
  obtain ⟨hg4,h⟩ := grd_some h
  obtain ⟨hg5,h⟩ := grd_some h
  refine Tri.f 3 [.g false,.v (.str v2)] [.keep [3,15,16,17] []] rfl ⟨hg5,hg4,fun _ => W19 a0 v2 hk3,hd2,trivial⟩ ?_
  obtain ⟨v7,hk15,h⟩ := bind_some h
  refine Tri.loop (K1 := [.code [(3,0),(1,0),(0,0)] 0]) (K2 := [.blk 0,.code [] 4]) (fun (v3,v4) => ⟨[(3,.str v3),(15,.list (.ints a1)),(16,.i (a1.length : Int)),(17,.i v4)],[]⟩) (fun x e σ' => match x with | v7 => e = .exit 0 ∧ σ' = ⟨[(3,.str v7)],[]⟩) hk15 rfl rfl ?_ ?_
  ·intro s x hs
   clear h
   have h := hs
   clear hs
   obtain ⟨v3,v4⟩ := s
   refine Tri.f 1 [] [.keep [3,15,16,17,18] []] rfl trivial ?_
   rcases bif_some h with ⟨hd6,h⟩ | ⟨hd6,h⟩
   ·obtain ⟨hg7,h⟩ := grd_some h
    refine Tri.f 3 [.g true] [.keep [3,4,5,15,16,17,23] []] rfl ⟨hg7,hd6,trivial⟩ ?_
    rcases bif_some h with ⟨hd8,h⟩ | ⟨hd8,h⟩
    ·obtain ⟨v5,hk9,h⟩ := bind_some h
     obtain ⟨hg10,h⟩ := grd_some h
     obtain ⟨v6,hk11,h⟩ := bind_some h
     obtain ⟨hg12,h⟩ := grd_some h
     obtain ⟨hg13,h⟩ := grd_some h
     obtain ⟨hg14,h⟩ := grd_some h
     refine Tri.f 3 [.g true,.v (.str v5),.v (.str v6)] [.keep [3,15,16,17] []] rfl ⟨hg14,hg13,hg12,fun _ => W19 (a1.getD v4.toNat 0) v6 hk11,hg10,fun _ => W22 v4 v5 hk9,hd8,trivial⟩ ?_
     cases h
     exact Tri.nil ⟨rfl,rfl⟩
    ·refine Tri.f 2 [.g false] [.keep [3,15,16,17] []] rfl ⟨hd8,trivial⟩ ?_
     cases h
     exact Tri.nil ⟨rfl,rfl⟩
   ·refine Tri.f 1 [.g false] [.keep [3] []] rfl ⟨hd6,trivial⟩ ?_
    cases h
    exact Tri.out 0 rfl ⟨nofun,rfl,rfl⟩
  ·intro e σ' hne hq
   obtain ⟨rfl,rfl⟩ := hq
   refine TriX.exit (K' := [.code [] 4]) rfl ?_
   refine Tri.f 1 [] [.keep [2] []] rfl trivial ?_
   cases h
   exact Tri.ret rfl ⟨.inl rfl,rfl,rfl⟩
noncomputable def E75 : Env := ⟨Tryd.prog,tys,(Tryd.f27.body).getD .skip,26,tysOk,mixedOk⟩
abbrev K49 (r : Bool) (σ' : ASt) : Prop := isRes E75.T Tryd.f27 (.bool r) [] σ'
noncomputable def l_laws_eqIntS_0 (a0 a1 : List Int) (v1 : Int) : Option (Int ⊕ (Unit ⊕ Bool)) :=
bif decide (v1 < (a0.length : Int)) then
(grd (0 ≤ v1 ∧ v1 < (a0.length : Int)) <|
grd (0 ≤ v1 ∧ v1 < (a1.length : Int)) <|
bif (a0.getD v1.toNat 0) != (a1.getD v1.toNat 0) then
(some (.inr (.inr false)))
else
(some (.inl (IntKind.i64.wrap (v1 + 1)))))
else
(some (.inr (.inl ())))
noncomputable def m_laws_eqIntS (a0 a1 : List Int) : Option Bool :=
bif (a0.length : Int) != (a1.length : Int) then
(some false)
else
((iter (l_laws_eqIntS_0 a0 a1) (0 : Int)).bind fun
| (.inl _) => (
some true)
| (.inr r) => some r)
theorem W24 (a0 a1 : List Int) (r : Bool) (h : m_laws_eqIntS a0 a1 = some r) : AM.Spec Tryd.prog 27 [.list (.ints a0),.list (.ints a1)] [] (.bool r) [] := by
 refine spec_of (E := E75) Tryd.func27 rfl rfl rfl rfl ?_
 refine Tri.f 2 [] [.keep [0,1,10] []] rfl trivial ?_
 rcases bif_some h with ⟨hd1,h⟩ | ⟨hd1,h⟩
 ·refine Tri.f 2 [.g true] [.keep [4] []] rfl ⟨hd1,trivial⟩ ?_
  cases h
  exact Tri.ret rfl ⟨.inl rfl,rfl,rfl⟩
 ·refine Tri.f 2 [.g false] [.keep [0,1,5] []] rfl ⟨hd1,trivial⟩ ?_
  obtain ⟨x1,hk6,h⟩ := bind_some h
  refine Tri.loop (K1 := [.code [(2,0),(1,0),(0,0)] 0]) (K2 := [.blk 0,.code [] 3]) (fun v1 => ⟨[(0,.list (.ints a0)),(1,.list (.ints a1)),(5,.i v1)],[]⟩) (fun x e σ' => match x with | (.inl _) => e = .exit 0 ∧ σ' = ⟨[],[]⟩ | (.inr r) => e = .ret ∧ K49 r σ') hk6 rfl rfl ?_ ?_
  ·intro v1 x hs
   clear h
   have h := hs
   clear hs
   refine Tri.f 1 [] [.keep [0,1,5,14] []] rfl trivial ?_
   rcases bif_some h with ⟨hd2,h⟩ | ⟨hd2,h⟩
   ·obtain ⟨hg3,h⟩ := grd_some h
    obtain ⟨hg4,h⟩ := grd_some h
    refine Tri.f 2 [.g true] [.keep [0,1,5,25] []] rfl ⟨hg4,hg3,hd2,trivial⟩ ?_
    rcases bif_some h with ⟨hd5,h⟩ | ⟨hd5,h⟩
    ·refine Tri.f 2 [.g true] [.keep [4] []] rfl ⟨hd5,trivial⟩ ?_
     cases h
     exact Tri.ret rfl ⟨nofun,rfl,rfl,rfl⟩
    ·refine Tri.f 2 [.g false] [.keep [0,1,5] []] rfl ⟨hd5,trivial⟩ ?_
     cases h
     exact Tri.nil ⟨rfl,rfl⟩
   ·refine Tri.f 1 [.g false] [.keep [] []] rfl ⟨hd2,trivial⟩ ?_
    cases h
    exact Tri.out 0 rfl ⟨nofun,rfl,rfl⟩
  ·intro e σ' hne hq
   rcases x1 with _ | r
   ·obtain ⟨rfl,rfl⟩ := hq
    refine TriX.exit (K' := [.code [] 3]) rfl ?_
    refine Tri.f 1 [] [.keep [4] []] rfl trivial ?_
    cases h
    exact Tri.ret rfl ⟨.inl rfl,rfl,rfl⟩
   ·obtain ⟨rfl,hq⟩ := hq
    cases h
    exact TriX.ret ⟨.inl rfl,hq⟩
noncomputable def E76 : Env := ⟨Tryd.prog,tys,(Tryd.f10.body).getD .skip,16,tysOk,mixedOk⟩
abbrev K50 (r : Bool) (σ' : ASt) : Prop := isRes E76.T Tryd.f10 (.bool r) [] σ'
noncomputable def m_laws_eqGame (a0 : Int) (a1 : List Int) (a2 : Int) (a3 : List Int) : Option Bool :=
bif a0 != a2 then
(some false)
else
((m_laws_eqIntS a1 a3).bind fun v1 =>
bif !v1 then
(some false)
else
(some true))
theorem W25 (a0 : Int) (a1 : List Int) (a2 : Int) (a3 : List Int) (r : Bool) (h : m_laws_eqGame a0 a1 a2 a3 = some r) : AM.Spec Tryd.prog 10 [.agg [.i a0,.list (.ints a1)],.agg [.i a2,.list (.ints a3)]] [] (.bool r) [] := by
 refine spec_of (E := E76) Tryd.func10 rfl rfl rfl rfl ?_
 refine Tri.f 2 [] [.keep [2,3,9] [2,3]] rfl trivial ?_
 rcases bif_some h with ⟨hd1,h⟩ | ⟨hd1,h⟩
 ·refine Tri.f 2 [.g true] [.keep [4] []] rfl ⟨hd1,trivial⟩ ?_
  cases h
  exact Tri.ret rfl ⟨.inl rfl,rfl,rfl⟩
 ·obtain ⟨v1,hk2,h⟩ := bind_some h
  refine Tri.f 2 [.g false,.v (.bool v1)] [.keep [15] []] rfl ⟨fun _ => W24 a1 a3 v1 hk2,hd1,trivial⟩ ?_
  rcases bif_some h with ⟨hd3,h⟩ | ⟨hd3,h⟩
  ·refine Tri.f 2 [.g true] [.keep [4] []] rfl ⟨hd3,trivial⟩ ?_
   cases h
   exact Tri.ret rfl ⟨.inl rfl,rfl,rfl⟩
  ·refine Tri.f 2 [.g false] [.keep [4] []] rfl ⟨hd3,trivial⟩ ?_
   cases h
   exact Tri.ret rfl ⟨.inl rfl,rfl,rfl⟩
noncomputable def E77 : Env := ⟨Tryd.prog,tys,(Tryd.f3.body).getD .skip,27,tysOk,mixedOk⟩
abbrev K51 (r : Bool) (σ' : ASt) : Prop := isRes E77.T Tryd.f3 (.bool r) [] σ'
noncomputable def m_laws_FnExactFormatGame (a0 : Int) (a1 : List Int) : Option Bool :=
(m_laws_szGame a0 a1 (1048576 : Int)).bind fun v1 =>
bif decide (v1 < 0) then
(some true)
else
((m_laws_toGame a0 a1).bind fun (v2,v3) =>
(m_spec_FormatGame v2 v3).bind fun v4 =>
(m_laws_toGame a0 a1).bind fun (v5,v6) =>
(m_impl_FormatGame v5 v6).bind fun v7 =>
bif !(v7 == v4) then
(some false)
else
((m_laws_toGame a0 a1).bind fun (v8,v9) =>
(m_laws_eqGame v5 v6 v8 v9).bind fun v10 =>
bif !v10 then
(some false)
else
(some true)))
theorem w_laws_FnExactFormatGame (a0 : Int) (a1 : List Int) (r : Bool) (h : m_laws_FnExactFormatGame a0 a1 = some r) : AM.Spec Tryd.prog 3 [.agg [.i a0,.list (.ints a1)]] [] (.bool r) [] := by
 refine spec_of (E := E77) Tryd.func3 rfl rfl rfl rfl ?_
 refine Tri.f 2 [] [.keep [1,3] [1]] rfl trivial ?_
 obtain ⟨v1,hk1,h⟩ := bind_some h
 refine Tri.f 2 [.v (.i v1)] [.keep [1,11] [1]] rfl ⟨fun _ => W1 a0 a1 (1048576 : Int) v1 hk1,trivial⟩ ?_
 rcases bif_some h with ⟨hd2,h⟩ | ⟨hd2,h⟩
 ·refine Tri.f 2 [.g true] [.keep [2] []] rfl ⟨hd2,trivial⟩ ?_
  cases h
  exact Tri.ret rfl ⟨.inl rfl,rfl,rfl⟩
 ·obtain ⟨⟨v2,v3⟩,hk3,h⟩ := bind_some h
  obtain ⟨v4,hk4,h⟩ := bind_some h
  refine Tri.f 2 [.g false,.r ⟨[],.agg [.i v2,.sl 1100 0],[(1100,.arr 3 0 0 (.ints v3))]⟩,.v (.str v4)] [.keep [1,4] [1]] rfl ⟨fun _ => W12 v2 v3 v4 hk4,fun _ => (W3 a0 a1 (v2,v3) hk3).swap 1000 1100,hd2,trivial⟩ ?_
  obtain ⟨⟨v5,v6⟩,hk5,h⟩ := bind_some h
  obtain ⟨v7,hk6,h⟩ := bind_some h
  refine Tri.f 3 [.r ⟨[],.agg [.i v5,.sl 1101 0],[(1101,.arr 3 0 0 (.ints v6))]⟩,.v (.str v7)] [.keep [1,5,21] [1,5,1101]] rfl ⟨fun _ => W23 v5 v6 v7 hk6,fun _ => (W3 a0 a1 (v5,v6) hk5).swap 1000 1101,trivial⟩ ?_
  rcases bif_some h with ⟨hd7,h⟩ | ⟨hd7,h⟩
  ·refine Tri.f 2 [.g true] [.keep [2] []] rfl ⟨hd7,trivial⟩ ?_
   cases h
   exact Tri.ret rfl ⟨.inl rfl,rfl,rfl⟩
  ·obtain ⟨⟨v8,v9⟩,hk8,h⟩ := bind_some h
   obtain ⟨v10,hk9,h⟩ := bind_some h
   refine Tri.f 2 [.g false,.r ⟨[],.agg [.i v8,.sl 1102 0],[(1102,.arr 3 0 0 (.ints v9))]⟩,.v (.bool v10)] [.keep [26] []] rfl ⟨fun _ => W25 v5 v6 v8 v9 v10 hk9,fun _ => (W3 a0 a1 (v8,v9) hk8).swap 1000 1102,hd7,trivial⟩ ?_
   rcases bif_some h with ⟨hd10,h⟩ | ⟨hd10,h⟩
   ·refine Tri.f 2 [.g true] [.keep [2] []] rfl ⟨hd10,trivial⟩ ?_
    cases h
    exact Tri.ret rfl ⟨.inl rfl,rfl,rfl⟩
   ·refine Tri.f 2 [.g false] [.keep [2] []] rfl ⟨hd10,trivial⟩ ?_
    cases h
    exact Tri.ret rfl ⟨.inl rfl,rfl,rfl⟩
end Go.Proofs.YtdaoggmpohnjhaaDoor
