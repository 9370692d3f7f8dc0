/- models and walks -/
import Derived.Test.YtbkpiknmlomjnaaGWeakDuality
namespace Go.Proofs.Ytbkpiknmlomjnaa
open Go.AM
set_option maxRecDepth 100000
set_option maxHeartbeats 4000000
noncomputable def E232 : Env := ⟨Try.prog,tys,(Try.f5.body).getD .skip,31,tysOk,mixedOk⟩
abbrev K144 (r : (List (List Int)) × (List Int) × (List Q) × (List Q)) (σ' : ASt) : Prop := isRes E232.T Try.f5 (.tuple [.agg [.sl 1000 0,.sl 1001 0,.sl 1002 0],.sl 1003 0]) [(1000,.arr 25 0 0 (.intss r.1)),(1001,.arr 3 0 0 (.ints r.2.1)),(1002,.arr 32 0 0 (.rats r.2.2.1)),(1003,.arr 32 0 0 (.rats r.2.2.2))] σ'
noncomputable def m_spec_DrawIsFeasible (a0 : List UInt8) : Option ((List (List Int)) × (List Int) × (List Q) × (List Q)) :=
(m_spec_l1New_io4 [] [] [] a0).bind fun (v1,v2,v3,_,_,_) =>
(m_spec_l5Bent_io1 v1 v2 v3).bind fun (v7,v8,v9,v10,v11) =>
(m_spec_SolveLP v7 v8 v9).bind fun (_,_,_,_,v16,_,_) =>
bif decide ((v16.length : Int) > 0) then
((m_spec_l1Once_io1 v1 v10 v11 (4 : Int)).bind fun (v19,v20,v21) =>
bif !v19 then
(some (v7,v8,v9,v16))
else
((m_spec_l4Draw_io1 v1 v20 v21 (v9.length : Int)).bind fun (v22,_,_) =>
some (v7,v8,v9,v22)))
else
((m_spec_l4Draw_io1 v1 v10 v11 (v9.length : Int)).bind fun (v25,_,_) =>
some (v7,v8,v9,v25))
theorem W57 (a0 : List UInt8) (r : (List (List Int)) × (List Int) × (List Q) × (List Q)) (h : m_spec_DrawIsFeasible a0 = some r) : AM.Spec Try.prog 5 [.list (.bytes a0)] [] (.tuple [.agg [.sl 1000 0,.sl 1001 0,.sl 1002 0],.sl 1003 0]) [(1000,.arr 25 0 0 (.intss r.1)),(1001,.arr 3 0 0 (.ints r.2.1)),(1002,.arr 32 0 0 (.rats r.2.2.1)),(1003,.arr 32 0 0 (.rats r.2.2.2))] := by
 refine spec_of (E := E232) Try.func5 rfl rfl rfl rfl ?_
 refine Tri.f 1 [] [.keep [0,2] [2],.ownc 2 0 1100 25,.ownc 2 1 1101 3,.ownc 2 2 1102 32,.keep [0,2] [2,1100,1101,1102]] rfl trivial ?_
 obtain ⟨⟨v1,v2,v3,v4,v5,v6⟩,hk1,h⟩ := bind_some h
 obtain ⟨⟨v7,v8,v9,v10,v11⟩,hk2,h⟩ := bind_some h
 refine Tri.f 2 [.r ⟨[2,1100,1101,1102],.ptr 1103 0,[(1103,.box [.list (.bytes v1),.i v2,.i v3]),(1104,.arr 25 0 0 (.intss v4)),(1105,.arr 3 0 0 (.ints v5)),(1106,.arr 32 0 0 (.rats v6)),(2,.box [.sl 1104 0,.sl 1105 0,.sl 1106 0])]⟩,.r ⟨[1103],.agg [.sl 1107 0,.sl 1108 0,.sl 1109 0],[(1107,.arr 25 0 0 (.intss v7)),(1108,.arr 3 0 0 (.ints v8)),(1109,.arr 32 0 0 (.rats v9)),(1103,.box [.undf,.i v10,.i v11])]⟩] [.keep [2,4,5] [2,5,1103,1104,1105,1106,1107,1108,1109]] rfl ⟨(fun vf => (((((W14 (vf 1103 0) v1 v2 v3 (v7,v8,v9,v10,v11) hk2).swap 1000 1107).swap 1001 1108).swap 1002 1109).swap 2020 1103)),fun _ => ((((((((W1 [] [] [] a0 (v1,v2,v3,v4,v5,v6) hk1).swap 1000 1103).swap 1001 1104).swap 1002 1105).swap 1003 1106).swap 2000 2).swap 2001 1100).swap 2002 1101).swap 2003 1102,trivial⟩ ?_
 obtain ⟨⟨v12,v13,v14,v15,v16,v17,v18⟩,hk3,h⟩ := bind_some h
 rcases bif_some h with ⟨hd4,h⟩ | ⟨hd4,h⟩
 ·obtain ⟨⟨v19,v20,v21⟩,hk5,h⟩ := bind_some h
  refine Tri.f 2 [.r ⟨[],.agg [.i v12,.sl 1110 0,.sl 1111 0,.sl 1112 0,.i v13,.i v14,.i v15],[(1110,.arr 32 0 0 (.rats v16)),(1111,.arr 32 0 0 (.rats v17)),(1112,.arr 32 0 0 (.rats v18))]⟩,.g true,.r ⟨[1103],.bool v19,[(1103,.box [.undf,.i v20,.i v21])]⟩] [.keep [2,4,5,6,21] [2,5,6,1103,1104,1105,1106,1107,1108,1109,1110,1111,1112]] rfl ⟨(fun vf => ((W4 (vf 1103 0) v1 v10 v11 (4 : Int) (v19,v20,v21) hk5).swap 2100 1103)),hd4,fun _ => (((W54 v7 v8 v9 (v12,v13,v14,v15,v16,v17,v18) hk3).swap 1000 1110).swap 1001 1111).swap 1002 1112,trivial⟩ ?_
  rcases bif_some h with ⟨hd6,h⟩ | ⟨hd6,h⟩
  ·refine Tri.f 2 [.g true] [.swap 1107 1000,.swap 1108 1001,.swap 1109 1002,.swap 1110 1003,.keep [2,3] [2,1000,1001,1002,1003]] rfl ⟨hd6,trivial⟩ ?_
   cases h
   exact Tri.ret rfl ⟨.inl rfl,rfl,rfl⟩
  ·obtain ⟨⟨v22,v23,v24⟩,hk7,h⟩ := bind_some h
   refine Tri.f 2 [.g false,.r ⟨[1103],.sl 1113 0,[(1113,.arr 32 0 0 (.rats v22)),(1103,.box [.undf,.i v23,.i v24])]⟩] [.swap 1107 1000,.swap 1108 1001,.swap 1109 1002,.swap 1113 1003,.keep [2,3] [2,1000,1001,1002,1003]] rfl ⟨(fun vf => (((W56 (vf 1103 0) v1 v20 v21 (v9.length : Int) (v22,v23,v24) hk7).swap 1000 1113).swap 2280 1103)),hd6,trivial⟩ ?_
   cases h
   exact Tri.ret rfl ⟨.inl rfl,rfl,rfl⟩
 ·refine Tri.f 2 [.r ⟨[],.agg [.i v12,.sl 1110 0,.sl 1111 0,.sl 1112 0,.i v13,.i v14,.i v15],[(1110,.arr 32 0 0 (.rats v16)),(1111,.arr 32 0 0 (.rats v17)),(1112,.arr 32 0 0 (.rats v18))]⟩,.g false] [.keep [2,4,5,6,21] [2,5,6,1103,1104,1105,1106,1107,1108,1109,1110,1111,1112]] rfl ⟨hd4,fun _ => (((W54 v7 v8 v9 (v12,v13,v14,v15,v16,v17,v18) hk3).swap 1000 1110).swap 1001 1111).swap 1002 1112,trivial⟩ ?_
  obtain ⟨⟨v25,v26,v27⟩,hk8,h⟩ := bind_some h
  refine Tri.f 2 [.g false,.r ⟨[1103],.sl 1114 0,[(1114,.arr 32 0 0 (.rats v25)),(1103,.box [.undf,.i v26,.i v27])]⟩] [.swap 1107 1000,.swap 1108 1001,.swap 1109 1002,.swap 1114 1003,.keep [2,3] [2,1000,1001,1002,1003]] rfl ⟨(fun vf => (((W56 (vf 1103 0) v1 v10 v11 (v9.length : Int) (v25,v26,v27) hk8).swap 1000 1114).swap 2280 1103)),rfl,trivial⟩ ?_
  cases h
  exact Tri.ret rfl ⟨.inl rfl,rfl,rfl⟩
noncomputable def E233 : Env := ⟨Try.prog,tys,(Try.f7.body).getD .skip,20,tysOk,mixedOk⟩
abbrev K145 (r : Int) (σ' : ASt) : Prop := isRes E233.T Try.f7 (.i r) [] σ'
noncomputable def m_laws_at0 (a0 : List UInt8) (a1 : Int) : Option Int :=
bif decide (a1 < (a0.length : Int)) then
(grd (0 ≤ a1 ∧ a1 < (a0.length : Int)) <|
some (IntKind.i64.wrap (((a0.getD a1.toNat 0).toNat : Int))))
else
(grd ((256 : Int) ≠ 0) <|
some ((IntKind.i64.wrap ((IntKind.i64.wrap (a1 * 7)) + (a0.length : Int))).tmod (256 : Int)))
theorem W58 (a0 : List UInt8) (a1 r : Int) (h : m_laws_at0 a0 a1 = some r) : AM.Spec Try.prog 7 [.list (.bytes a0),.i a1] [] (.i r) [] := by
 refine spec_of (E := E233) Try.func7 rfl rfl rfl rfl ?_
 refine Tri.f 2 [] [.keep [0,1,8] []] rfl trivial ?_
 rcases bif_some h with ⟨hd1,h⟩ | ⟨hd1,h⟩
 ·obtain ⟨hg2,h⟩ := grd_some h
  refine Tri.f 2 [.g true] [.keep [4] []] rfl ⟨hg2,hd1,trivial⟩ ?_
  cases h
  exact Tri.ret rfl ⟨.inl rfl,rfl,rfl⟩
 ·obtain ⟨hg3,h⟩ := grd_some h
  refine Tri.f 2 [.g false] [.keep [4] []] rfl ⟨hg3,hd1,trivial⟩ ?_
  cases h
  exact Tri.ret rfl ⟨.inl rfl,rfl,rfl⟩
noncomputable def E234 : Env := ⟨Try.prog,tys,(Try.f24.body).getD .skip,15,tysOk,mixedOk⟩
abbrev K146 (r : Bool) (σ' : ASt) : Prop := isRes E234.T Try.f24 (.bool r) [] σ'
noncomputable def m_impl_within (a0 a1 a2 : Int) : Option Bool :=
bif decide (a0 ≥ a1) then
(some (decide (a0 ≤ a2)))
else
(some false)
theorem W59 (a0 a1 a2 : Int) (r : Bool) (h : m_impl_within a0 a1 a2 = some r) : AM.Spec Try.prog 24 [.i a0,.i a1,.i a2] [] (.bool r) [] := by
 refine spec_of (E := E234) Try.func24 rfl rfl rfl rfl ?_
 refine Tri.f 1 [] [.keep [0,1,2] []] rfl trivial ?_
 rcases bif_some h with ⟨hd1,h⟩ | ⟨hd1,h⟩
 ·refine Tri.f 1 [.g true] [.keep [6] []] rfl ⟨hd1,trivial⟩ ?_
  cases h
  exact Tri.ret rfl ⟨.inl rfl,rfl,rfl⟩
 ·refine Tri.f 1 [.g false] [.keep [6] []] rfl ⟨hd1,trivial⟩ ?_
  cases h
  exact Tri.ret rfl ⟨.inl rfl,rfl,rfl⟩
noncomputable def E235 : Env := ⟨Try.prog,tys,(Try.f64.body).getD .skip,15,tysOk,mixedOk⟩
abbrev K147 (r : Int) (σ' : ASt) : Prop := isRes E235.T Try.f64 (.i r) [] σ'
noncomputable def l_impl_common_0 : (Int × Int) → Option ((Int × Int) ⊕ Int)
 | (v1,v2) => (
bif v2 != 0 then
(grd (v2 ≠ 0) <|
some (.inl (v2,v1.tmod v2)))
else
(some (.inr v1)))
noncomputable def m_impl_common (a0 a1 : Int) : Option Int :=
(iter (l_impl_common_0) (a0,a1)).bind fun
| v3 => (
some (if IntKind.i64.wrap (0 - v3) > v3 then IntKind.i64.wrap (0 - v3) else v3))
theorem W60 (a0 a1 r : Int) (h : m_impl_common a0 a1 = some r) : AM.Spec Try.prog 64 [.i a0,.i a1] [] (.i r) [] := by
 refine spec_of (E := E235) Try.func64 rfl rfl rfl rfl ?_
 refine Tri.f 1 [] [.keep [0,1] []] rfl trivial ?_
 obtain ⟨v3,hk3,h⟩ := bind_some h
 refine Tri.loop (K1 := [.code [(1,0),(0,0),(0,0)] 0]) (K2 := [.blk 0,.code [] 2]) (fun (v1,v2) => ⟨[(0,.i v1),(1,.i v2)],[]⟩) (fun x e σ' => match x with | v3 => e = .exit 0 ∧ σ' = ⟨[(0,.i v3)],[]⟩) hk3 rfl rfl ?_ ?_
 ·intro s x hs
  clear h
  have h := hs
  clear hs
  obtain ⟨v1,v2⟩ := s
  refine Tri.f 1 [] [.keep [0,1,6] []] rfl trivial ?_
  rcases bif_some h with ⟨hd1,h⟩ | ⟨hd1,h⟩
  ·obtain ⟨hg2,h⟩ := grd_some h
   refine Tri.f 2 [.g true] [.keep [0,1] []] rfl ⟨hg2,hd1,trivial⟩ ?_
   cases h
   exact Tri.nil ⟨rfl,rfl⟩
  ·refine Tri.f 1 [.g false] [.keep [0] []] rfl ⟨hd1,trivial⟩ ?_
   cases h
   exact Tri.out 0 rfl ⟨nofun,rfl,rfl⟩
 ·intro e σ' hne hq
  obtain ⟨rfl,rfl⟩ := hq
  refine TriX.exit (K' := [.code [] 2]) rfl ?_
  refine Tri.f 1 [] [.keep [4] []] rfl trivial ?_
  cases h
  exact Tri.ret rfl ⟨.inl rfl,rfl,rfl⟩
noncomputable def E236 : Env := ⟨Try.prog,tys,(Try.f32.body).getD .skip,19,tysOk,mixedOk⟩
abbrev K148 (r : Bool) (σ' : ASt) : Prop := isRes E236.T Try.f32 (.bool r) [] σ'
noncomputable def m_impl_IsValidRat (a0 a1 : Int) : Option Bool :=
(m_impl_within a1 (1 : Int) (1000000000 : Int)).bind fun v1 =>
bif v1 then
((m_impl_within a0 (-1000000000 : Int) (1000000000 : Int)).bind fun v2 =>
bif v2 then
((m_impl_common a0 a1).bind fun v3 =>
some (v3 == 1))
else
(some false))
else
(some false)
theorem W61 (a0 a1 : Int) (r : Bool) (h : m_impl_IsValidRat a0 a1 = some r) : AM.Spec Try.prog 32 [.agg [.i a0,.i a1]] [] (.bool r) [] := by
 refine spec_of (E := E236) Try.func32 rfl rfl rfl rfl ?_
 refine Tri.f 1 [] [.keep [1] [1]] rfl trivial ?_
 obtain ⟨v1,hk1,h⟩ := bind_some h
 rcases bif_some h with ⟨hd2,h⟩ | ⟨hd2,h⟩
 ·obtain ⟨v2,hk3,h⟩ := bind_some h
  rcases bif_some h with ⟨hd4,h⟩ | ⟨hd4,h⟩
  ·obtain ⟨v3,hk5,h⟩ := bind_some h
   refine Tri.f 1 [.v (.bool v1),.g true,.v (.bool v2),.g true,.v (.i v3)] [.keep [2] []] rfl ⟨fun _ => W60 a0 a1 v3 hk5,hd4,fun _ => W59 a0 (-1000000000 : Int) (1000000000 : Int) v2 hk3,hd2,fun _ => W59 a1 (1 : Int) (1000000000 : Int) v1 hk1,trivial⟩ ?_
   cases h
   exact Tri.ret rfl ⟨.inl rfl,rfl,rfl⟩
  ·refine Tri.f 1 [.v (.bool v1),.g true,.v (.bool v2),.g false] [.keep [2] []] rfl ⟨hd4,fun _ => W59 a0 (-1000000000 : Int) (1000000000 : Int) v2 hk3,hd2,fun _ => W59 a1 (1 : Int) (1000000000 : Int) v1 hk1,trivial⟩ ?_
   cases h
   exact Tri.ret rfl ⟨.inl rfl,rfl,rfl⟩
 ·refine Tri.f 1 [.v (.bool v1),.g false,.g false] [.keep [2] []] rfl ⟨rfl,hd2,fun _ => W59 a1 (1 : Int) (1000000000 : Int) v1 hk1,trivial⟩ ?_
  cases h
  exact Tri.ret rfl ⟨.inl rfl,rfl,rfl⟩
noncomputable def E237 : Env := ⟨Try.prog,tys,(Try.f79.body).getD .skip,6,tysOk,mixedOk⟩
abbrev K149 (r : Bool) (σ' : ASt) : Prop := isRes E237.T Try.f79 (.bool r) [] σ'
noncomputable def m_impl_AllValid_1 (a0 a1 : Int) : Option Bool :=
(m_impl_IsValidRat a0 a1).bind fun v1 =>
some (!v1)
theorem W62 (a0 a1 : Int) (r : Bool) (h : m_impl_AllValid_1 a0 a1 = some r) : AM.Spec Try.prog 79 [.agg [.i a0,.i a1]] [] (.bool r) [] := by
 refine spec_of (E := E237) Try.func79 rfl rfl rfl rfl ?_
 refine Tri.f 1 [] [.keep [1] [1]] rfl trivial ?_
 obtain ⟨v1,hk1,h⟩ := bind_some h
 refine Tri.f 1 [.v (.bool v1)] [.keep [2] []] rfl ⟨fun _ => W61 a0 a1 v1 hk1,trivial⟩ ?_
 cases h
 exact Tri.ret rfl ⟨.inl rfl,rfl,rfl⟩
noncomputable def E238 : Env := ⟨Try.prog,tys,(Try.f81.body).getD .skip,19,tysOk,mixedOk⟩
abbrev K150 (r : Int) (σ' : ASt) : Prop := isRes E238.T Try.f81 (.i r) [] σ'
noncomputable def l_slices_IndexFunc_impl_Rat_impl_Rat_impl_AllValid_1_0 (a0 : List Q) (v1 : Int) : Option (Int ⊕ (Unit ⊕ Int)) :=
bif decide (v1 < (a0.length : Int)) then
(grd (0 ≤ v1 ∧ v1 < (a0.length : Int)) <|
(m_impl_AllValid_1 ((a0.getD v1.toNat ⟨0,0⟩).num) ((a0.getD v1.toNat ⟨0,0⟩).den)).bind fun v2 =>
bif v2 then
(some (.inr (.inr v1)))
else
(some (.inl (IntKind.i64.wrap (v1 + 1)))))
else
(some (.inr (.inl ())))
noncomputable def m_slices_IndexFunc_impl_Rat_impl_Rat_impl_AllValid_1 (a0 : List Q) : Option Int :=
(iter (l_slices_IndexFunc_impl_Rat_impl_Rat_impl_AllValid_1_0 a0) (0 : Int)).bind fun
| (.inl _) => (
some (-1 : Int))
| (.inr r) => some r
theorem W63 (a0 : List Q) (r : Int) (h : m_slices_IndexFunc_impl_Rat_impl_Rat_impl_AllValid_1 a0 = some r) : AM.Spec Try.prog 81 [.list (.rats a0),.func 79 [] []] [] (.i r) [] := by
 refine spec_of (E := E238) Try.func81 rfl rfl rfl rfl ?_
 refine Tri.f 2 [] [.keep [0,1,7,8] []] rfl trivial ?_
 obtain ⟨x1,hk5,h⟩ := bind_some h
 refine Tri.loop (K1 := [.code [(1,0),(1,0),(0,0)] 0]) (K2 := [.blk 0,.code [] 2]) (fun v1 => ⟨[(0,.list (.rats a0)),(1,.func 79 [] []),(7,.i (a0.length : Int)),(8,.i v1)],[]⟩) (fun x e σ' => match x with | (.inl _) => e = .exit 0 ∧ σ' = ⟨[],[]⟩ | (.inr r) => e = .ret ∧ K150 r σ') hk5 rfl rfl ?_ ?_
 ·intro v1 x hs
  clear h
  have h := hs
  clear hs
  refine Tri.f 1 [] [.keep [0,1,7,8,9] []] rfl trivial ?_
  rcases bif_some h with ⟨hd1,h⟩ | ⟨hd1,h⟩
  ·refine Tri.f 2 [.g true] [.keep [0,1,5,7,8] []] rfl ⟨hd1,trivial⟩ ?_
   obtain ⟨hg2,h⟩ := grd_some h
   obtain ⟨v2,hk3,h⟩ := bind_some h
   refine Tri.f 1 [.v (.bool v2)] [.keep [0,1,5,7,8,16] []] rfl ⟨fun _ => W62 ((a0.getD v1.toNat ⟨0,0⟩).num) ((a0.getD v1.toNat ⟨0,0⟩).den) v2 hk3,hg2,trivial⟩ ?_
   rcases bif_some h with ⟨hd4,h⟩ | ⟨hd4,h⟩
   ·refine Tri.f 2 [.g true] [.keep [4] []] rfl ⟨hd4,trivial⟩ ?_
    cases h
    exact Tri.ret rfl ⟨nofun,rfl,rfl,rfl⟩
   ·refine Tri.f 2 [.g false] [.keep [0,1,7,8] []] rfl ⟨hd4,trivial⟩ ?_
    cases h
    exact Tri.nil ⟨rfl,rfl⟩
  ·refine Tri.f 1 [.g false] [.keep [] []] rfl ⟨hd1,trivial⟩ ?_
   cases h
   exact Tri.out 0 rfl ⟨nofun,rfl,rfl⟩
 ·intro e σ' hne hq
  rcases x1 with _ | r
  ·obtain ⟨rfl,rfl⟩ := hq
   refine TriX.exit (K' := [.code [] 2]) rfl ?_
   refine Tri.f 1 [] [.keep [4] []] rfl trivial ?_
   cases h
   exact Tri.ret rfl ⟨.inl rfl,rfl,rfl⟩
  ·obtain ⟨rfl,hq⟩ := hq
   cases h
   exact TriX.ret ⟨.inl rfl,hq⟩
noncomputable def E239 : Env := ⟨Try.prog,tys,(Try.f60.body).getD .skip,9,tysOk,mixedOk⟩
abbrev K151 (r : Bool) (σ' : ASt) : Prop := isRes E239.T Try.f60 (.bool r) [] σ'
noncomputable def m_slices_ContainsFunc_impl_Rat_impl_Rat_impl_AllValid_1 (a0 : List Q) : Option Bool :=
(m_slices_IndexFunc_impl_Rat_impl_Rat_impl_AllValid_1 a0).bind fun v1 =>
some (decide (v1 ≥ 0))
theorem W64 (a0 : List Q) (r : Bool) (h : m_slices_ContainsFunc_impl_Rat_impl_Rat_impl_AllValid_1 a0 = some r) : AM.Spec Try.prog 60 [.list (.rats a0),.func 79 [] []] [] (.bool r) [] := by
 refine spec_of (E := E239) Try.func60 rfl rfl rfl rfl ?_
 refine Tri.f 1 [] [.keep [0,1] []] rfl trivial ?_
 obtain ⟨v1,hk1,h⟩ := bind_some h
 refine Tri.f 1 [.v (.i v1)] [.keep [4] []] rfl ⟨fun _ => W63 a0 v1 hk1,trivial⟩ ?_
 cases h
 exact Tri.ret rfl ⟨.inl rfl,rfl,rfl⟩
noncomputable def E240 : Env := ⟨Try.prog,tys,(Try.f57.body).getD .skip,6,tysOk,mixedOk⟩
abbrev K152 (r : Bool) (σ' : ASt) : Prop := isRes E240.T Try.f57 (.bool r) [] σ'
noncomputable def m_impl_AllValid (a0 : List Q) : Option Bool :=
(m_slices_ContainsFunc_impl_Rat_impl_Rat_impl_AllValid_1 a0).bind fun v1 =>
some (!v1)
theorem W65 (a0 : List Q) (r : Bool) (h : m_impl_AllValid a0 = some r) : AM.Spec Try.prog 57 [.list (.rats a0)] [] (.bool r) [] := by
 refine spec_of (E := E240) Try.func57 rfl rfl rfl rfl ?_
 refine Tri.f 1 [] [.keep [0] []] rfl trivial ?_
 obtain ⟨v1,hk1,h⟩ := bind_some h
 refine Tri.f 1 [.v (.bool v1)] [.keep [2] []] rfl ⟨fun _ => W64 a0 v1 hk1,trivial⟩ ?_
 cases h
 exact Tri.ret rfl ⟨.inl rfl,rfl,rfl⟩
noncomputable def E241 : Env := ⟨Try.prog,tys,(Try.f58.body).getD .skip,6,tysOk,mixedOk⟩
abbrev K153 (r : Bool) (σ' : ASt) : Prop := isRes E241.T Try.f58 (.bool r) [] σ'
noncomputable def m_impl_IsValidLP_1 (a0 : Int) : Option Bool :=
(m_impl_within a0 (-5000 : Int) (5000 : Int)).bind fun v1 =>
some (!v1)
theorem W66 (a0 : Int) (r : Bool) (h : m_impl_IsValidLP_1 a0 = some r) : AM.Spec Try.prog 58 [.i a0] [] (.bool r) [] := by
 refine spec_of (E := E241) Try.func58 rfl rfl rfl rfl ?_
 refine Tri.f 1 [] [.keep [0] []] rfl trivial ?_
 obtain ⟨v1,hk1,h⟩ := bind_some h
 refine Tri.f 1 [.v (.bool v1)] [.keep [2] []] rfl ⟨fun _ => W59 a0 (-5000 : Int) (5000 : Int) v1 hk1,trivial⟩ ?_
 cases h
 exact Tri.ret rfl ⟨.inl rfl,rfl,rfl⟩
noncomputable def E242 : Env := ⟨Try.prog,tys,(Try.f80.body).getD .skip,19,tysOk,mixedOk⟩
abbrev K154 (r : Int) (σ' : ASt) : Prop := isRes E242.T Try.f80 (.i r) [] σ'
noncomputable def l_slices_IndexFunc_int_int_impl_IsValidLP_1_0 (a0 : List Int) (v1 : Int) : Option (Int ⊕ (Unit ⊕ Int)) :=
bif decide (v1 < (a0.length : Int)) then
(grd (0 ≤ v1 ∧ v1 < (a0.length : Int)) <|
(m_impl_IsValidLP_1 (a0.getD v1.toNat 0)).bind fun v2 =>
bif v2 then
(some (.inr (.inr v1)))
else
(some (.inl (IntKind.i64.wrap (v1 + 1)))))
else
(some (.inr (.inl ())))
noncomputable def m_slices_IndexFunc_int_int_impl_IsValidLP_1 (a0 : List Int) : Option Int :=
(iter (l_slices_IndexFunc_int_int_impl_IsValidLP_1_0 a0) (0 : Int)).bind fun
| (.inl _) => (
some (-1 : Int))
| (.inr r) => some r
theorem W67 (a0 : List Int) (r : Int) (h : m_slices_IndexFunc_int_int_impl_IsValidLP_1 a0 = some r) : AM.Spec Try.prog 80 [.list (.ints a0),.func 58 [] []] [] (.i r) [] := by
 refine spec_of (E := E242) Try.func80 rfl rfl rfl rfl ?_
 refine Tri.f 2 [] [.keep [0,1,7,8] []] rfl trivial ?_
 obtain ⟨x1,hk5,h⟩ := bind_some h
 refine Tri.loop (K1 := [.code [(1,0),(1,0),(0,0)] 0]) (K2 := [.blk 0,.code [] 2]) (fun v1 => ⟨[(0,.list (.ints a0)),(1,.func 58 [] []),(7,.i (a0.length : Int)),(8,.i v1)],[]⟩) (fun x e σ' => match x with | (.inl _) => e = .exit 0 ∧ σ' = ⟨[],[]⟩ | (.inr r) => e = .ret ∧ K154 r σ') hk5 rfl rfl ?_ ?_
 ·intro v1 x hs
  clear h
  have h := hs
  clear hs
  refine Tri.f 1 [] [.keep [0,1,7,8,9] []] rfl trivial ?_
  rcases bif_some h with ⟨hd1,h⟩ | ⟨hd1,h⟩
  ·refine Tri.f 2 [.g true] [.keep [0,1,5,7,8] []] rfl ⟨hd1,trivial⟩ ?_
   obtain ⟨hg2,h⟩ := grd_some h
   obtain ⟨v2,hk3,h⟩ := bind_some h
   refine Tri.f 1 [.v (.bool v2)] [.keep [0,1,5,7,8,16] []] rfl ⟨fun _ => W66 (a0.getD v1.toNat 0) v2 hk3,hg2,trivial⟩ ?_
   rcases bif_some h with ⟨hd4,h⟩ | ⟨hd4,h⟩
   ·refine Tri.f 2 [.g true] [.keep [4] []] rfl ⟨hd4,trivial⟩ ?_
    cases h
    exact Tri.ret rfl ⟨nofun,rfl,rfl,rfl⟩
   ·refine Tri.f 2 [.g false] [.keep [0,1,7,8] []] rfl ⟨hd4,trivial⟩ ?_
    cases h
    exact Tri.nil ⟨rfl,rfl⟩
  ·refine Tri.f 1 [.g false] [.keep [] []] rfl ⟨hd1,trivial⟩ ?_
   cases h
   exact Tri.out 0 rfl ⟨nofun,rfl,rfl⟩
 ·intro e σ' hne hq
  rcases x1 with _ | r
  ·obtain ⟨rfl,rfl⟩ := hq
   refine TriX.exit (K' := [.code [] 2]) rfl ?_
   refine Tri.f 1 [] [.keep [4] []] rfl trivial ?_
   cases h
   exact Tri.ret rfl ⟨.inl rfl,rfl,rfl⟩
  ·obtain ⟨rfl,hq⟩ := hq
   cases h
   exact TriX.ret ⟨.inl rfl,hq⟩
noncomputable def E243 : Env := ⟨Try.prog,tys,(Try.f59.body).getD .skip,9,tysOk,mixedOk⟩
abbrev K155 (r : Bool) (σ' : ASt) : Prop := isRes E243.T Try.f59 (.bool r) [] σ'
noncomputable def m_slices_ContainsFunc_int_int_impl_IsValidLP_1 (a0 : List Int) : Option Bool :=
(m_slices_IndexFunc_int_int_impl_IsValidLP_1 a0).bind fun v1 =>
some (decide (v1 ≥ 0))
theorem W68 (a0 : List Int) (r : Bool) (h : m_slices_ContainsFunc_int_int_impl_IsValidLP_1 a0 = some r) : AM.Spec Try.prog 59 [.list (.ints a0),.func 58 [] []] [] (.bool r) [] := by
 refine spec_of (E := E243) Try.func59 rfl rfl rfl rfl ?_
 refine Tri.f 1 [] [.keep [0,1] []] rfl trivial ?_
 obtain ⟨v1,hk1,h⟩ := bind_some h
 refine Tri.f 1 [.v (.i v1)] [.keep [4] []] rfl ⟨fun _ => W67 a0 v1 hk1,trivial⟩ ?_
 cases h
 exact Tri.ret rfl ⟨.inl rfl,rfl,rfl⟩
noncomputable def E244 : Env := ⟨Try.prog,tys,(Try.f23.body).getD .skip,55,tysOk,mixedOk⟩
abbrev K156 (r : Bool) (σ' : ASt) : Prop := isRes E244.T Try.f23 (.bool r) [] σ'
noncomputable def l_impl_IsValidLP_0 (a0 : List (List Int)) (a2 : List Q) (v2 : Int) : Option (Int ⊕ (Unit ⊕ Bool)) :=
bif decide (v2 < (a0.length : Int)) then
(grd (0 ≤ v2 ∧ v2 < (a0.length : Int)) <|
bif ((a0.getD v2.toNat []).length : Int) != (a2.length : Int) then
(some (.inr (.inr false)))
else
((m_slices_ContainsFunc_int_int_impl_IsValidLP_1 (a0.getD v2.toNat [])).bind fun v3 =>
bif v3 then
(some (.inr (.inr false)))
else
(some (.inl (IntKind.i64.wrap (v2 + 1))))))
else
(some (.inr (.inl ())))
noncomputable def m_impl_IsValidLP (a0 : List (List Int)) (a1 : List Int) (a2 : List Q) : Option Bool :=
bif decide ((a2.length : Int) > 70) then
(some false)
else
(bif decide ((a0.length : Int) > 8) then
(some false)
else
(bif (a1.length : Int) != (a0.length : Int) then
(some false)
else
((m_impl_AllValid a2).bind fun v1 =>
bif !v1 then
(some false)
else
((iter (l_impl_IsValidLP_0 a0 a2) (0 : Int)).bind fun
| (.inl _) => (
(m_slices_ContainsFunc_int_int_impl_IsValidLP_1 a1).bind fun v4 =>
some (!v4))
| (.inr r) => some r))))
theorem W69 (a0 : List (List Int)) (a1 : List Int) (a2 : List Q) (r : Bool) (h : m_impl_IsValidLP a0 a1 a2 = some r) : AM.Spec Try.prog 23 [.agg [.list (.intss a0),.list (.ints a1),.list (.rats a2)]] [] (.bool r) [] := by
 refine spec_of (E := E244) Try.func23 rfl rfl rfl rfl ?_
 refine Tri.f 1 [] [.keep [1] [1]] rfl trivial ?_
 rcases bif_some h with ⟨hd1,h⟩ | ⟨hd1,h⟩
 ·refine Tri.f 1 [.g true,.g true,.g true] [.keep [1,30] [1]] rfl ⟨rfl,rfl,hd1,trivial⟩ ?_
  refine Tri.f 2 [.g true] [.keep [2] []] rfl ⟨rfl,trivial⟩ ?_
  cases h
  exact Tri.ret rfl ⟨.inl rfl,rfl,rfl⟩
 ·rcases bif_some h with ⟨hd2,h⟩ | ⟨hd2,h⟩
  ·refine Tri.f 1 [.g false,.g true,.g true] [.keep [1,30] [1]] rfl ⟨rfl,hd2,hd1,trivial⟩ ?_
   refine Tri.f 2 [.g true] [.keep [2] []] rfl ⟨rfl,trivial⟩ ?_
   cases h
   exact Tri.ret rfl ⟨.inl rfl,rfl,rfl⟩
  ·rcases bif_some h with ⟨hd3,h⟩ | ⟨hd3,h⟩
   ·refine Tri.f 1 [.g false,.g false,.g true] [.keep [1,30] [1]] rfl ⟨hd3,hd2,hd1,trivial⟩ ?_
    refine Tri.f 2 [.g true] [.keep [2] []] rfl ⟨rfl,trivial⟩ ?_
    cases h
    exact Tri.ret rfl ⟨.inl rfl,rfl,rfl⟩
   ·obtain ⟨v1,hk4,h⟩ := bind_some h
    refine Tri.f 1 [.g false,.g false,.g false,.v (.bool v1)] [.keep [1,30] [1]] rfl ⟨fun _ => W65 a2 v1 hk4,hd3,hd2,hd1,trivial⟩ ?_
    rcases bif_some h with ⟨hd5,h⟩ | ⟨hd5,h⟩
    ·refine Tri.f 2 [.g true] [.keep [2] []] rfl ⟨hd5,trivial⟩ ?_
     cases h
     exact Tri.ret rfl ⟨.inl rfl,rfl,rfl⟩
    ·refine Tri.f 3 [.g false] [.keep [1,3,32,33,34] [1]] rfl ⟨hd5,trivial⟩ ?_
     obtain ⟨x1,hk11,h⟩ := bind_some h
     refine Tri.loop (K1 := [.code [(3,0),(1,0),(0,0)] 0]) (K2 := [.blk 0,.code [] 4]) (fun v2 => ⟨[(1,.ptr 1 0),(3,.func 58 [] []),(32,.list (.intss a0)),(33,.i (a0.length : Int)),(34,.i v2)],[(1,.box [.list (.intss a0),.list (.ints a1),.list (.rats a2)])]⟩) (fun x e σ' => match x with | (.inl _) => e = .exit 0 ∧ σ' = ⟨[(1,.ptr 1 0),(3,.func 58 [] [])],[(1,.box [.list (.intss a0),.list (.ints a1),.list (.rats a2)])]⟩ | (.inr r) => e = .ret ∧ K156 r σ') hk11 rfl rfl ?_ ?_
     ·intro v2 x hs
      clear h
      have h := hs
      clear hs
      refine Tri.f 1 [] [.keep [1,3,32,33,34,35] [1]] rfl trivial ?_
      rcases bif_some h with ⟨hd6,h⟩ | ⟨hd6,h⟩
      ·obtain ⟨hg7,h⟩ := grd_some h
       refine Tri.f 2 [.g true] [.keep [1,3,5,32,33,34] [1]] rfl ⟨hg7,hd6,trivial⟩ ?_
       rcases bif_some h with ⟨hd8,h⟩ | ⟨hd8,h⟩
       ·refine Tri.f 1 [.g true] [.keep [1,3,32,33,34,48] [1]] rfl ⟨hd8,trivial⟩ ?_
        refine Tri.f 2 [.g true] [.keep [2] []] rfl ⟨rfl,trivial⟩ ?_
        cases h
        exact Tri.ret rfl ⟨nofun,rfl,rfl,rfl⟩
       ·obtain ⟨v3,hk9,h⟩ := bind_some h
        refine Tri.f 1 [.g false,.v (.bool v3)] [.keep [1,3,32,33,34,48] [1]] rfl ⟨fun _ => W68 (a0.getD v2.toNat []) v3 hk9,hd8,trivial⟩ ?_
        rcases bif_some h with ⟨hd10,h⟩ | ⟨hd10,h⟩
        ·refine Tri.f 2 [.g true] [.keep [2] []] rfl ⟨hd10,trivial⟩ ?_
         cases h
         exact Tri.ret rfl ⟨nofun,rfl,rfl,rfl⟩
        ·refine Tri.f 2 [.g false] [.keep [1,3,32,33,34] [1]] rfl ⟨hd10,trivial⟩ ?_
         cases h
         exact Tri.nil ⟨rfl,rfl⟩
      ·refine Tri.f 1 [.g false] [.keep [1,3] [1]] rfl ⟨hd6,trivial⟩ ?_
       cases h
       exact Tri.out 0 rfl ⟨nofun,rfl,rfl⟩
     ·intro e σ' hne hq
      rcases x1 with _ | r
      ·obtain ⟨rfl,rfl⟩ := hq
       refine TriX.exit (K' := [.code [] 4]) rfl ?_
       obtain ⟨v4,hk12,h⟩ := bind_some h
       refine Tri.f 1 [.v (.bool v4)] [.keep [2] []] rfl ⟨fun _ => W68 a1 v4 hk12,trivial⟩ ?_
       cases h
       exact Tri.ret rfl ⟨.inl rfl,rfl,rfl⟩
      ·obtain ⟨rfl,hq⟩ := hq
       cases h
       exact TriX.ret ⟨.inl rfl,hq⟩
noncomputable def E245 : Env := ⟨Try.prog,tys,(Try.f25.body).getD .skip,25,tysOk,mixedOk⟩
abbrev K157 (r : List Int) (σ' : ASt) : Prop := isRes E245.T Try.f25 (.sl 1000 0) [(1000,.arr 3 0 0 (.ints r))] σ'
noncomputable def l_impl_column_0 (a0 : List (List Int)) (a3 : Int) : (Int × (List Int)) → Option ((Int × (List Int)) ⊕ ((List Int)))
 | (v1,v2) => (
bif decide (v1 < (a0.length : Int)) then
(grd (0 ≤ v1 ∧ v1 < (a0.length : Int)) <|
grd (0 ≤ a3 ∧ a3 < ((a0.getD v1.toNat []).length : Int)) <|
grd (v2.length + ([(a0.getD v1.toNat []).getD a3.toNat 0] : List Int).length ≤ room) <|
some (.inl (IntKind.i64.wrap (v1 + 1),v2 ++ [(a0.getD v1.toNat []).getD a3.toNat 0])))
else
(some (.inr v2)))
noncomputable def m_impl_column (a0 : List (List Int)) (_a1 : List Int) (_a2 : List Q) (a3 : Int) : Option (List Int) :=
(iter (l_impl_column_0 a0 a3) ((0 : Int),[])).bind fun
| v3 => (
some v3)
theorem W70 (a0 : List (List Int)) (a1 : List Int) (a2 : List Q) (a3 : Int) (r : List Int) (h : m_impl_column a0 a1 a2 a3 = some r) : AM.Spec Try.prog 25 [.agg [.list (.intss a0),.list (.ints a1),.list (.rats a2)],.i a3] [] (.sl 1000 0) [(1000,.arr 3 0 0 (.ints r))] := by
 refine spec_of (E := E245) Try.func25 rfl rfl rfl rfl ?_
 refine Tri.f 3 [] [.keep [1,5,10,11,12] [8]] rfl trivial ?_
 obtain ⟨v3,hk5,h⟩ := bind_some h
 refine Tri.loop (K1 := [.code [(2,0),(1,0),(0,0)] 0]) (K2 := [.blk 0,.code [] 3]) (fun (v1,v2) => ⟨[(1,.i a3),(5,.sl 8 0),(10,.list (.intss a0)),(11,.i (a0.length : Int)),(12,.i v1)],[(8,.arr 3 0 0 (.ints v2))]⟩) (fun x e σ' => match x with | v3 => e = .exit 0 ∧ σ' = ⟨[(5,.sl 8 0)],[(8,.arr 3 0 0 (.ints v3))]⟩) hk5 rfl rfl ?_ ?_
 ·intro s x hs
  clear h
  have h := hs
  clear hs
  obtain ⟨v1,v2⟩ := s
  refine Tri.f 1 [] [.keep [1,5,10,11,12,13] [8]] rfl trivial ?_
  rcases bif_some h with ⟨hd1,h⟩ | ⟨hd1,h⟩
  ·obtain ⟨hg2,h⟩ := grd_some h
   obtain ⟨hg3,h⟩ := grd_some h
   obtain ⟨hg4,h⟩ := grd_some h
   refine Tri.f 3 [.g true] [.keep [1,5,10,11,12] [8]] rfl ⟨hg4,hg3,hg2,hd1,trivial⟩ ?_
   refine Tri.f 1 [] [.rever 8,.keep [1,5,10,11,12] [8]] rfl trivial ?_
   cases h
   exact Tri.nil ⟨rfl,rfl⟩
  ·refine Tri.f 1 [.g false] [.keep [5] [8]] rfl ⟨hd1,trivial⟩ ?_
   cases h
   exact Tri.out 0 rfl ⟨nofun,rfl,rfl⟩
 ·intro e σ' hne hq
  obtain ⟨rfl,rfl⟩ := hq
  refine TriX.exit (K' := [.code [] 3]) rfl ?_
  refine Tri.f 1 [] [.swap 8 1000,.keep [4] [1000]] rfl trivial ?_
  cases h
  exact Tri.ret rfl ⟨.inl rfl,rfl,rfl⟩
noncomputable def E246 : Env := ⟨Try.prog,tys,(Try.f9.body).getD .skip,20,tysOk,mixedOk⟩
abbrev K158 (r : List Int) (σ' : ASt) : Prop := isRes E246.T Try.f9 (.sl 1000 0) [(1000,.arr 3 0 0 (.ints r))] σ'
noncomputable def m_impl_ColumnOf (a0 : List (List Int)) (a1 : List Int) (a2 : List Q) (a3 : Int) : Option (List Int) :=
(m_impl_IsValidLP a0 a1 a2).bind fun v1 =>
bif !v1 then
(some [])
else
((m_impl_within a3 (0 : Int) (IntKind.i64.wrap ((a2.length : Int) - 1))).bind fun v2 =>
bif !v2 then
(some [])
else
((m_impl_column a0 a1 a2 a3).bind fun v3 =>
some v3))
theorem W71 (a0 : List (List Int)) (a1 : List Int) (a2 : List Q) (a3 : Int) (r : List Int) (h : m_impl_ColumnOf a0 a1 a2 a3 = some r) : AM.Spec Try.prog 9 [.agg [.list (.intss a0),.list (.ints a1),.list (.rats a2)],.i a3] [] (.sl 1000 0) [(1000,.arr 3 0 0 (.ints r))] := by
 refine spec_of (E := E246) Try.func9 rfl rfl rfl rfl ?_
 refine Tri.f 1 [] [.keep [1,2] [2]] rfl trivial ?_
 obtain ⟨v1,hk1,h⟩ := bind_some h
 rcases bif_some h with ⟨hd2,h⟩ | ⟨hd2,h⟩
 ·refine Tri.f 1 [.v (.bool v1),.g true] [.keep [1,2,16] [2]] rfl ⟨hd2,fun _ => W69 a0 a1 a2 v1 hk1,trivial⟩ ?_
  refine Tri.f 2 [.g true] [.own 4 [] 1100 3,.swap 1100 1000,.keep [4] [1000]] rfl ⟨rfl,trivial⟩ ?_
  cases h
  exact Tri.ret rfl ⟨.inl rfl,rfl,rfl⟩
 ·obtain ⟨v2,hk3,h⟩ := bind_some h
  refine Tri.f 1 [.v (.bool v1),.g false,.v (.bool v2)] [.keep [1,2,16] [2]] rfl ⟨fun _ => W59 a3 (0 : Int) (IntKind.i64.wrap ((a2.length : Int) - 1)) v2 hk3,hd2,fun _ => W69 a0 a1 a2 v1 hk1,trivial⟩ ?_
  rcases bif_some h with ⟨hd4,h⟩ | ⟨hd4,h⟩
  ·refine Tri.f 2 [.g true] [.own 4 [] 1101 3,.swap 1101 1000,.keep [4] [1000]] rfl ⟨hd4,trivial⟩ ?_
   cases h
   exact Tri.ret rfl ⟨.inl rfl,rfl,rfl⟩
  ·obtain ⟨v3,hk5,h⟩ := bind_some h
   refine Tri.f 2 [.g false,.r ⟨[],.sl 1102 0,[(1102,.arr 3 0 0 (.ints v3))]⟩] [.swap 1102 1000,.keep [4] [1000]] rfl ⟨fun _ => (W70 a0 a1 a2 a3 v3 hk5).swap 1000 1102,hd4,trivial⟩ ?_
   cases h
   exact Tri.ret rfl ⟨.inl rfl,rfl,rfl⟩
noncomputable def E247 : Env := ⟨Try.prog,tys,(Try.f8.body).getD .skip,26,tysOk,mixedOk⟩
abbrev K159 (r : Bool) (σ' : ASt) : Prop := isRes E247.T Try.f8 (.bool r) [] σ'
noncomputable def l_laws_sameInts_0 (a0 a1 : List Int) (v1 : Int) : Option (Int ⊕ (Unit ⊕ Bool)) :=
bif decide (v1 < (a0.length : Int)) then
(grd (0 ≤ v1 ∧ v1 < (a0.length : Int)) <|
grd (0 ≤ v1 ∧ v1 < (a1.length : Int)) <|
bif (a0.getD v1.toNat 0) != (a1.getD v1.toNat 0) then
(some (.inr (.inr false)))
else
(some (.inl (IntKind.i64.wrap (v1 + 1)))))
else
(some (.inr (.inl ())))
noncomputable def m_laws_sameInts (a0 a1 : List Int) : Option Bool :=
bif (a0.length : Int) != (a1.length : Int) then
(some false)
else
((iter (l_laws_sameInts_0 a0 a1) (0 : Int)).bind fun
| (.inl _) => (
some true)
| (.inr r) => some r)
theorem W72 (a0 a1 : List Int) (r : Bool) (h : m_laws_sameInts a0 a1 = some r) : AM.Spec Try.prog 8 [.list (.ints a0),.list (.ints a1)] [] (.bool r) [] := by
 refine spec_of (E := E247) Try.func8 rfl rfl rfl rfl ?_
 refine Tri.f 2 [] [.keep [0,1,10] []] rfl trivial ?_
 rcases bif_some h with ⟨hd1,h⟩ | ⟨hd1,h⟩
 ·refine Tri.f 2 [.g true] [.keep [4] []] rfl ⟨hd1,trivial⟩ ?_
  cases h
  exact Tri.ret rfl ⟨.inl rfl,rfl,rfl⟩
 ·refine Tri.f 2 [.g false] [.keep [0,1,5] []] rfl ⟨hd1,trivial⟩ ?_
  obtain ⟨x1,hk6,h⟩ := bind_some h
  refine Tri.loop (K1 := [.code [(2,0),(1,0),(0,0)] 0]) (K2 := [.blk 0,.code [] 3]) (fun v1 => ⟨[(0,.list (.ints a0)),(1,.list (.ints a1)),(5,.i v1)],[]⟩) (fun x e σ' => match x with | (.inl _) => e = .exit 0 ∧ σ' = ⟨[],[]⟩ | (.inr r) => e = .ret ∧ K159 r σ') hk6 rfl rfl ?_ ?_
  ·intro v1 x hs
   clear h
   have h := hs
   clear hs
   refine Tri.f 1 [] [.keep [0,1,5,14] []] rfl trivial ?_
   rcases bif_some h with ⟨hd2,h⟩ | ⟨hd2,h⟩
   ·obtain ⟨hg3,h⟩ := grd_some h
    obtain ⟨hg4,h⟩ := grd_some h
    refine Tri.f 2 [.g true] [.keep [0,1,5,25] []] rfl ⟨hg4,hg3,hd2,trivial⟩ ?_
    rcases bif_some h with ⟨hd5,h⟩ | ⟨hd5,h⟩
    ·refine Tri.f 2 [.g true] [.keep [4] []] rfl ⟨hd5,trivial⟩ ?_
     cases h
     exact Tri.ret rfl ⟨nofun,rfl,rfl,rfl⟩
    ·refine Tri.f 2 [.g false] [.keep [0,1,5] []] rfl ⟨hd5,trivial⟩ ?_
     cases h
     exact Tri.nil ⟨rfl,rfl⟩
   ·refine Tri.f 1 [.g false] [.keep [] []] rfl ⟨hd2,trivial⟩ ?_
    cases h
    exact Tri.out 0 rfl ⟨nofun,rfl,rfl⟩
  ·intro e σ' hne hq
   rcases x1 with _ | r
   ·obtain ⟨rfl,rfl⟩ := hq
    refine TriX.exit (K' := [.code [] 3]) rfl ?_
    refine Tri.f 1 [] [.keep [4] []] rfl trivial ?_
    cases h
    exact Tri.ret rfl ⟨.inl rfl,rfl,rfl⟩
   ·obtain ⟨rfl,hq⟩ := hq
    cases h
    exact TriX.ret ⟨.inl rfl,hq⟩
noncomputable def E248 : Env := ⟨Try.prog,tys,(Try.f61.body).getD .skip,11,tysOk,mixedOk⟩
abbrev K160 (r : Bool) (σ' : ASt) : Prop := isRes E248.T Try.f61 (.bool r) [] σ'
noncomputable def m_impl_notNegative_1 (a0 a1 : Int) : Option Bool :=
(m_impl_IsValidRat a0 a1).bind fun v1 =>
bif !v1 then
(some true)
else
(some (decide (a0 < 0)))
theorem W73 (a0 a1 : Int) (r : Bool) (h : m_impl_notNegative_1 a0 a1 = some r) : AM.Spec Try.prog 61 [.agg [.i a0,.i a1]] [] (.bool r) [] := by
 refine spec_of (E := E248) Try.func61 rfl rfl rfl rfl ?_
 refine Tri.f 1 [] [.keep [1] [1]] rfl trivial ?_
 obtain ⟨v1,hk1,h⟩ := bind_some h
 rcases bif_some h with ⟨hd2,h⟩ | ⟨hd2,h⟩
 ·refine Tri.f 1 [.v (.bool v1),.g true] [.keep [2] []] rfl ⟨hd2,fun _ => W61 a0 a1 v1 hk1,trivial⟩ ?_
  cases h
  exact Tri.ret rfl ⟨.inl rfl,rfl,rfl⟩
 ·refine Tri.f 1 [.v (.bool v1),.g false] [.keep [2] []] rfl ⟨hd2,fun _ => W61 a0 a1 v1 hk1,trivial⟩ ?_
  cases h
  exact Tri.ret rfl ⟨.inl rfl,rfl,rfl⟩
abbrev K161 (r : Int) (σ' : ASt) : Prop := isRes E238.T Try.f81 (.i r) [] σ'
noncomputable def l_slices_IndexFunc_impl_Rat_impl_Rat_impl_notNegative_1_0 (a0 : List Q) (v1 : Int) : Option (Int ⊕ (Unit ⊕ Int)) :=
bif decide (v1 < (a0.length : Int)) then
(grd (0 ≤ v1 ∧ v1 < (a0.length : Int)) <|
(m_impl_notNegative_1 ((a0.getD v1.toNat ⟨0,0⟩).num) ((a0.getD v1.toNat ⟨0,0⟩).den)).bind fun v2 =>
bif v2 then
(some (.inr (.inr v1)))
else
(some (.inl (IntKind.i64.wrap (v1 + 1)))))
else
(some (.inr (.inl ())))
noncomputable def m_slices_IndexFunc_impl_Rat_impl_Rat_impl_notNegative_1 (a0 : List Q) : Option Int :=
(iter (l_slices_IndexFunc_impl_Rat_impl_Rat_impl_notNegative_1_0 a0) (0 : Int)).bind fun
| (.inl _) => (
some (-1 : Int))
| (.inr r) => some r
theorem W74 (a0 : List Q) (r : Int) (h : m_slices_IndexFunc_impl_Rat_impl_Rat_impl_notNegative_1 a0 = some r) : AM.Spec Try.prog 81 [.list (.rats a0),.func 61 [] []] [] (.i r) [] := by
 refine spec_of (E := E238) Try.func81 rfl rfl rfl rfl ?_
 refine Tri.f 2 [] [.keep [0,1,7,8] []] rfl trivial ?_
 obtain ⟨x1,hk5,h⟩ := bind_some h
 refine Tri.loop (K1 := [.code [(1,0),(1,0),(0,0)] 0]) (K2 := [.blk 0,.code [] 2]) (fun v1 => ⟨[(0,.list (.rats a0)),(1,.func 61 [] []),(7,.i (a0.length : Int)),(8,.i v1)],[]⟩) (fun x e σ' => match x with | (.inl _) => e = .exit 0 ∧ σ' = ⟨[],[]⟩ | (.inr r) => e = .ret ∧ K161 r σ') hk5 rfl rfl ?_ ?_
 ·intro v1 x hs
  clear h
  have h := hs
  clear hs
  refine Tri.f 1 [] [.keep [0,1,7,8,9] []] rfl trivial ?_
  rcases bif_some h with ⟨hd1,h⟩ | ⟨hd1,h⟩
  ·refine Tri.f 2 [.g true] [.keep [0,1,5,7,8] []] rfl ⟨hd1,trivial⟩ ?_
   obtain ⟨hg2,h⟩ := grd_some h
   obtain ⟨v2,hk3,h⟩ := bind_some h
   refine Tri.f 1 [.v (.bool v2)] [.keep [0,1,5,7,8,16] []] rfl ⟨fun _ => W73 ((a0.getD v1.toNat ⟨0,0⟩).num) ((a0.getD v1.toNat ⟨0,0⟩).den) v2 hk3,hg2,trivial⟩ ?_
   rcases bif_some h with ⟨hd4,h⟩ | ⟨hd4,h⟩
   ·refine Tri.f 2 [.g true] [.keep [4] []] rfl ⟨hd4,trivial⟩ ?_
    cases h
    exact Tri.ret rfl ⟨nofun,rfl,rfl,rfl⟩
   ·refine Tri.f 2 [.g false] [.keep [0,1,7,8] []] rfl ⟨hd4,trivial⟩ ?_
    cases h
    exact Tri.nil ⟨rfl,rfl⟩
  ·refine Tri.f 1 [.g false] [.keep [] []] rfl ⟨hd1,trivial⟩ ?_
   cases h
   exact Tri.out 0 rfl ⟨nofun,rfl,rfl⟩
 ·intro e σ' hne hq
  rcases x1 with _ | r
  ·obtain ⟨rfl,rfl⟩ := hq
   refine TriX.exit (K' := [.code [] 2]) rfl ?_
   refine Tri.f 1 [] [.keep [4] []] rfl trivial ?_
   cases h
   exact Tri.ret rfl ⟨.inl rfl,rfl,rfl⟩
  ·obtain ⟨rfl,hq⟩ := hq
   cases h
   exact TriX.ret ⟨.inl rfl,hq⟩
abbrev K162 (r : Bool) (σ' : ASt) : Prop := isRes E239.T Try.f60 (.bool r) [] σ'
noncomputable def m_slices_ContainsFunc_impl_Rat_impl_Rat_impl_notNegative_1 (a0 : List Q) : Option Bool :=
(m_slices_IndexFunc_impl_Rat_impl_Rat_impl_notNegative_1 a0).bind fun v1 =>
some (decide (v1 ≥ 0))
theorem W75 (a0 : List Q) (r : Bool) (h : m_slices_ContainsFunc_impl_Rat_impl_Rat_impl_notNegative_1 a0 = some r) : AM.Spec Try.prog 60 [.list (.rats a0),.func 61 [] []] [] (.bool r) [] := by
 refine spec_of (E := E239) Try.func60 rfl rfl rfl rfl ?_
 refine Tri.f 1 [] [.keep [0,1] []] rfl trivial ?_
 obtain ⟨v1,hk1,h⟩ := bind_some h
 refine Tri.f 1 [.v (.i v1)] [.keep [4] []] rfl ⟨fun _ => W74 a0 v1 hk1,trivial⟩ ?_
 cases h
 exact Tri.ret rfl ⟨.inl rfl,rfl,rfl⟩
noncomputable def E249 : Env := ⟨Try.prog,tys,(Try.f27.body).getD .skip,14,tysOk,mixedOk⟩
abbrev K163 (r : Bool) (σ' : ASt) : Prop := isRes E249.T Try.f27 (.bool r) [] σ'
noncomputable def m_impl_notNegative (a0 : List Q) (a1 : Int) : Option Bool :=
bif (a0.length : Int) == a1 then
((m_slices_ContainsFunc_impl_Rat_impl_Rat_impl_notNegative_1 a0).bind fun v1 =>
some (!v1))
else
(some false)
theorem W76 (a0 : List Q) (a1 : Int) (r : Bool) (h : m_impl_notNegative a0 a1 = some r) : AM.Spec Try.prog 27 [.list (.rats a0),.i a1] [] (.bool r) [] := by
 refine spec_of (E := E249) Try.func27 rfl rfl rfl rfl ?_
 refine Tri.f 1 [] [.keep [0,1] []] rfl trivial ?_
 rcases bif_some h with ⟨hd1,h⟩ | ⟨hd1,h⟩
 ·obtain ⟨v1,hk2,h⟩ := bind_some h
  refine Tri.f 1 [.g true,.v (.bool v1)] [.keep [4] []] rfl ⟨fun _ => W75 a0 v1 hk2,hd1,trivial⟩ ?_
  cases h
  exact Tri.ret rfl ⟨.inl rfl,rfl,rfl⟩
 ·refine Tri.f 1 [.g false] [.keep [4] []] rfl ⟨hd1,trivial⟩ ?_
  cases h
  exact Tri.ret rfl ⟨.inl rfl,rfl,rfl⟩
noncomputable def E250 : Env := ⟨Try.prog,tys,(Try.f29.body).getD .skip,5,tysOk,mixedOk⟩
abbrev K164 (r : Int × Int) (σ' : ASt) : Prop := isRes E250.T Try.f29 (.agg [.i r.1,.i r.2]) [] σ'
noncomputable def m_impl_whole (a0 : Int) : Option (Int × Int) :=
some (a0,(1 : Int))
theorem W77 (a0 : Int) (r : Int × Int) (h : m_impl_whole a0 = some r) : AM.Spec Try.prog 29 [.i a0] [] (.agg [.i r.1,.i r.2]) [] := by
 refine spec_of (E := E250) Try.func29 rfl rfl rfl rfl ?_
 refine Tri.f 2 [] [.keep [2] [2]] rfl trivial ?_
 cases h
 exact Tri.ret rfl ⟨.inl rfl,rfl,rfl⟩
noncomputable def E251 : Env := ⟨Try.prog,tys,(Try.f82.body).getD .skip,24,tysOk,mixedOk⟩
abbrev K165 (r : Bool × (List Q)) (σ' : ASt) : Prop := isRes E251.T Try.f82 (.tuple [.sl 1000 0,.bool r.1]) [(1000,.arr 32 0 0 (.rats r.2))] σ'
noncomputable def l_impl_IntsToRats_0 (a0 : List Int) : (Int × (List Q)) → Option ((Int × (List Q)) ⊕ ((List Q) ⊕ ((Bool × (List Q)))))
 | (v1,v2) => (
bif decide (v1 < (a0.length : Int)) then
(grd (0 ≤ v1 ∧ v1 < (a0.length : Int)) <|
(m_impl_within (a0.getD v1.toNat 0) (-1000000000 : Int) (1000000000 : Int)).bind fun v3 =>
bif !v3 then
(some (.inr (.inr (false,[]))))
else
((m_impl_whole (a0.getD v1.toNat 0)).bind fun (v4,v5) =>
grd (v2.length + ([⟨v4,v5⟩] : List Q).length ≤ room) <|
some (.inl (IntKind.i64.wrap (v1 + 1),v2 ++ [⟨v4,v5⟩]))))
else
(some (.inr (.inl v2))))
noncomputable def m_impl_IntsToRats (a0 : List Int) : Option (Bool × (List Q)) :=
(iter (l_impl_IntsToRats_0 a0) ((0 : Int),[])).bind fun
| (.inl v6) => (
some (true,v6))
| (.inr r) => some r
theorem W78 (a0 : List Int) (r : Bool × (List Q)) (h : m_impl_IntsToRats a0 = some r) : AM.Spec Try.prog 82 [.list (.ints a0)] [] (.tuple [.sl 1000 0,.bool r.1]) [(1000,.arr 32 0 0 (.rats r.2))] := by
 refine spec_of (E := E251) Try.func82 rfl rfl rfl rfl ?_
 refine Tri.f 3 [] [.keep [4,8,9,10] [7]] rfl trivial ?_
 obtain ⟨x1,hk7,h⟩ := bind_some h
 refine Tri.loop (K1 := [.code [(2,0),(1,0),(0,0)] 0]) (K2 := [.blk 0,.code [] 3]) (fun (v1,v2) => ⟨[(4,.sl 7 0),(8,.list (.ints a0)),(9,.i (a0.length : Int)),(10,.i v1)],[(7,.arr 32 0 0 (.rats v2))]⟩) (fun x e σ' => match x with | (.inl v6) => e = .exit 0 ∧ σ' = ⟨[(4,.sl 7 0)],[(7,.arr 32 0 0 (.rats v6))]⟩ | (.inr r) => e = .ret ∧ K165 r σ') hk7 rfl rfl ?_ ?_
 ·intro s x hs
  clear h
  have h := hs
  clear hs
  obtain ⟨v1,v2⟩ := s
  refine Tri.f 1 [] [.keep [4,8,9,10,11] [7]] rfl trivial ?_
  rcases bif_some h with ⟨hd1,h⟩ | ⟨hd1,h⟩
  ·obtain ⟨hg2,h⟩ := grd_some h
   refine Tri.f 2 [.g true] [.keep [4,6,8,9,10] [7]] rfl ⟨hg2,hd1,trivial⟩ ?_
   obtain ⟨v3,hk3,h⟩ := bind_some h
   refine Tri.f 1 [.v (.bool v3)] [.keep [4,6,8,9,10,16] [7]] rfl ⟨fun _ => W59 (a0.getD v1.toNat 0) (-1000000000 : Int) (1000000000 : Int) v3 hk3,trivial⟩ ?_
   rcases bif_some h with ⟨hd4,h⟩ | ⟨hd4,h⟩
   ·refine Tri.f 2 [.g true] [.own 2 [] 1100 32,.swap 1100 1000,.keep [2,3] [1000]] rfl ⟨hd4,trivial⟩ ?_
    cases h
    exact Tri.ret rfl ⟨nofun,rfl,rfl,rfl⟩
   ·obtain ⟨⟨v4,v5⟩,hk5,h⟩ := bind_some h
    obtain ⟨hg6,h⟩ := grd_some h
    refine Tri.f 3 [.g false,.v (.agg [.i v4,.i v5])] [.rever 7,.keep [4,8,9,10] [7]] rfl ⟨hg6,fun _ => W77 (a0.getD v1.toNat 0) (v4,v5) hk5,hd4,trivial⟩ ?_
    cases h
    exact Tri.nil ⟨rfl,rfl⟩
  ·refine Tri.f 1 [.g false] [.keep [4] [7]] rfl ⟨hd1,trivial⟩ ?_
   cases h
   exact Tri.out 0 rfl ⟨nofun,rfl,rfl⟩
 ·intro e σ' hne hq
  rcases x1 with v6 | r
  ·obtain ⟨rfl,rfl⟩ := hq
   refine TriX.exit (K' := [.code [] 3]) rfl ?_
   refine Tri.f 1 [] [.swap 7 1000,.keep [2,3] [1000]] rfl trivial ?_
   cases h
   exact Tri.ret rfl ⟨.inl rfl,rfl,rfl⟩
  ·obtain ⟨rfl,hq⟩ := hq
   cases h
   exact TriX.ret ⟨.inl rfl,hq⟩
noncomputable def E252 : Env := ⟨Try.prog,tys,(Try.f62.body).getD .skip,11,tysOk,mixedOk⟩
abbrev K166 (r : List Q) (σ' : ASt) : Prop := isRes E252.T Try.f62 (.sl 1000 0) [(1000,.arr 32 0 0 (.rats r))] σ'
noncomputable def m_impl_rats (a0 : List Int) : Option (List Q) :=
(m_impl_IntsToRats a0).bind fun (_,v2) =>
some v2
theorem W79 (a0 : List Int) (r : List Q) (h : m_impl_rats a0 = some r) : AM.Spec Try.prog 62 [.list (.ints a0)] [] (.sl 1000 0) [(1000,.arr 32 0 0 (.rats r))] := by
 refine spec_of (E := E252) Try.func62 rfl rfl rfl rfl ?_
 refine Tri.f 1 [] [.keep [0] []] rfl trivial ?_
 obtain ⟨⟨v1,v2⟩,hk1,h⟩ := bind_some h
 refine Tri.f 2 [.r ⟨[],.tuple [.sl 1100 0,.bool v1],[(1100,.arr 32 0 0 (.rats v2))]⟩] [.swap 1100 1000,.keep [2] [1000]] rfl ⟨fun _ => (W78 a0 (v1,v2) hk1).swap 1000 1100,trivial⟩ ?_
 cases h
 exact Tri.ret rfl ⟨.inl rfl,rfl,rfl⟩
noncomputable def E253 : Env := ⟨Try.prog,tys,(Try.f63.body).getD .skip,40,tysOk,mixedOk⟩
abbrev K167 (r : Int × Int × Bool) (σ' : ASt) : Prop := isRes E253.T Try.f63 (.tuple [.agg [.i r.1,.i r.2.1],.bool r.2.2]) [] σ'
noncomputable def m_impl_RatOf (a0 a1 : Int) : Option (Int × Int × Bool) :=
bif a1 == 0 then
(some (0,0,false))
else
((m_impl_within a0 (-1000000000000000000 : Int) (1000000000000000000 : Int)).bind fun v1 =>
bif !v1 then
(some (0,0,false))
else
((m_impl_within a1 (-1000000000000000000 : Int) (1000000000000000000 : Int)).bind fun v2 =>
bif !v2 then
(some (0,0,false))
else
((m_impl_common a0 a1).bind fun v3 =>
bif decide (a1 < 0) then
(grd ((IntKind.i64.wrap (0 - v3)) ≠ 0) <|
grd ((IntKind.i64.wrap (0 - v3)) ≠ 0) <|
(m_impl_IsValidRat (IntKind.i64.wrap (a0.tdiv (IntKind.i64.wrap (0 - v3)))) (IntKind.i64.wrap (a1.tdiv (IntKind.i64.wrap (0 - v3))))).bind fun v4 =>
bif !v4 then
(some (0,0,false))
else
(some (IntKind.i64.wrap (a0.tdiv (IntKind.i64.wrap (0 - v3))),IntKind.i64.wrap (a1.tdiv (IntKind.i64.wrap (0 - v3))),true)))
else
(grd (v3 ≠ 0) <|
grd (v3 ≠ 0) <|
(m_impl_IsValidRat (IntKind.i64.wrap (a0.tdiv v3)) (IntKind.i64.wrap (a1.tdiv v3))).bind fun v5 =>
bif !v5 then
(some (0,0,false))
else
(some (IntKind.i64.wrap (a0.tdiv v3),IntKind.i64.wrap (a1.tdiv v3),true))))))
theorem W80 (a0 a1 : Int) (r : Int × Int × Bool) (h : m_impl_RatOf a0 a1 = some r) : AM.Spec Try.prog 63 [.i a0,.i a1] [] (.tuple [.agg [.i r.1,.i r.2.1],.bool r.2.2]) [] := by
 refine spec_of (E := E253) Try.func63 rfl rfl rfl rfl ?_
 refine Tri.f 1 [] [.keep [0,1,4] [4]] rfl trivial ?_
 rcases bif_some h with ⟨hd1,h⟩ | ⟨hd1,h⟩
 ·refine Tri.f 1 [.g true,.g true] [.keep [0,1,4,19] [4]] rfl ⟨rfl,hd1,trivial⟩ ?_
  refine Tri.f 2 [.g true] [.keep [4,5] [4]] rfl ⟨rfl,trivial⟩ ?_
  cases h
  exact Tri.ret rfl ⟨.inl rfl,rfl,rfl⟩
 ·obtain ⟨v1,hk2,h⟩ := bind_some h
  rcases bif_some h with ⟨hd3,h⟩ | ⟨hd3,h⟩
  ·refine Tri.f 1 [.g false,.v (.bool v1),.g true] [.keep [0,1,4,19] [4]] rfl ⟨hd3,fun _ => W59 a0 (-1000000000000000000 : Int) (1000000000000000000 : Int) v1 hk2,hd1,trivial⟩ ?_
   refine Tri.f 2 [.g true] [.keep [4,5] [4]] rfl ⟨rfl,trivial⟩ ?_
   cases h
   exact Tri.ret rfl ⟨.inl rfl,rfl,rfl⟩
  ·obtain ⟨v2,hk4,h⟩ := bind_some h
   refine Tri.f 1 [.g false,.v (.bool v1),.g false,.v (.bool v2)] [.keep [0,1,4,19] [4]] rfl ⟨fun _ => W59 a1 (-1000000000000000000 : Int) (1000000000000000000 : Int) v2 hk4,hd3,fun _ => W59 a0 (-1000000000000000000 : Int) (1000000000000000000 : Int) v1 hk2,hd1,trivial⟩ ?_
   rcases bif_some h with ⟨hd5,h⟩ | ⟨hd5,h⟩
   ·refine Tri.f 2 [.g true] [.keep [4,5] [4]] rfl ⟨hd5,trivial⟩ ?_
    cases h
    exact Tri.ret rfl ⟨.inl rfl,rfl,rfl⟩
   ·obtain ⟨v3,hk6,h⟩ := bind_some h
    refine Tri.f 3 [.g false,.v (.i v3)] [.keep [0,1,4,6,25] [4]] rfl ⟨fun _ => W60 a0 a1 v3 hk6,hd5,trivial⟩ ?_
    rcases bif_some h with ⟨hd7,h⟩ | ⟨hd7,h⟩
    ·obtain ⟨hg8,h⟩ := grd_some h
     obtain ⟨hg9,h⟩ := grd_some h
     refine Tri.f 3 [.g true] [.keep [4,7] [4,7]] rfl ⟨hg9,hg8,hd7,trivial⟩ ?_
     obtain ⟨v4,hk10,h⟩ := bind_some h
     refine Tri.f 1 [.v (.bool v4)] [.keep [4,7,37] [4,7]] rfl ⟨fun _ => W61 (IntKind.i64.wrap (a0.tdiv (IntKind.i64.wrap (0 - v3)))) (IntKind.i64.wrap (a1.tdiv (IntKind.i64.wrap (0 - v3)))) v4 hk10,trivial⟩ ?_
     rcases bif_some h with ⟨hd11,h⟩ | ⟨hd11,h⟩
     ·refine Tri.f 2 [.g true] [.keep [4,5] [4]] rfl ⟨hd11,trivial⟩ ?_
      cases h
      exact Tri.ret rfl ⟨.inl rfl,rfl,rfl⟩
     ·refine Tri.f 2 [.g false] [.keep [4,5] [4]] rfl ⟨hd11,trivial⟩ ?_
      cases h
      exact Tri.ret rfl ⟨.inl rfl,rfl,rfl⟩
    ·obtain ⟨hg12,h⟩ := grd_some h
     obtain ⟨hg13,h⟩ := grd_some h
     refine Tri.f 2 [.g false] [.keep [4,7] [4,7]] rfl ⟨hg13,hg12,hd7,trivial⟩ ?_
     obtain ⟨v5,hk14,h⟩ := bind_some h
     refine Tri.f 1 [.v (.bool v5)] [.keep [4,7,37] [4,7]] rfl ⟨fun _ => W61 (IntKind.i64.wrap (a0.tdiv v3)) (IntKind.i64.wrap (a1.tdiv v3)) v5 hk14,trivial⟩ ?_
     rcases bif_some h with ⟨hd15,h⟩ | ⟨hd15,h⟩
     ·refine Tri.f 2 [.g true] [.keep [4,5] [4]] rfl ⟨hd15,trivial⟩ ?_
      cases h
      exact Tri.ret rfl ⟨.inl rfl,rfl,rfl⟩
     ·refine Tri.f 2 [.g false] [.keep [4,5] [4]] rfl ⟨hd15,trivial⟩ ?_
      cases h
      exact Tri.ret rfl ⟨.inl rfl,rfl,rfl⟩
noncomputable def E254 : Env := ⟨Try.prog,tys,(Try.f30.body).getD .skip,28,tysOk,mixedOk⟩
abbrev K168 (r : Int × Int × Bool) (σ' : ASt) : Prop := isRes E254.T Try.f30 (.tuple [.agg [.i r.1,.i r.2.1],.bool r.2.2]) [] σ'
noncomputable def m_impl_MulRat (a0 a1 a2 a3 : Int) : Option (Int × Int × Bool) :=
(m_impl_IsValidRat a0 a1).bind fun v1 =>
bif !v1 then
(some (0,0,false))
else
((m_impl_IsValidRat a2 a3).bind fun v2 =>
bif !v2 then
(some (0,0,false))
else
((m_impl_RatOf (IntKind.i64.wrap (a0 * a2)) (IntKind.i64.wrap (a1 * a3))).bind fun (v3,v4,v5) =>
some (v3,v4,v5)))
theorem W81 (a0 a1 a2 a3 : Int) (r : Int × Int × Bool) (h : m_impl_MulRat a0 a1 a2 a3 = some r) : AM.Spec Try.prog 30 [.agg [.i a0,.i a1],.agg [.i a2,.i a3]] [] (.tuple [.agg [.i r.1,.i r.2.1],.bool r.2.2]) [] := by
 refine spec_of (E := E254) Try.func30 rfl rfl rfl rfl ?_
 refine Tri.f 1 [] [.keep [2,3,4] [2,3,4]] rfl trivial ?_
 obtain ⟨v1,hk1,h⟩ := bind_some h
 rcases bif_some h with ⟨hd2,h⟩ | ⟨hd2,h⟩
 ·refine Tri.f 1 [.v (.bool v1),.g true] [.keep [2,3,4,13] [2,3,4]] rfl ⟨hd2,fun _ => W61 a0 a1 v1 hk1,trivial⟩ ?_
  refine Tri.f 2 [.g true] [.keep [4,5] [4]] rfl ⟨rfl,trivial⟩ ?_
  cases h
  exact Tri.ret rfl ⟨.inl rfl,rfl,rfl⟩
 ·obtain ⟨v2,hk3,h⟩ := bind_some h
  refine Tri.f 1 [.v (.bool v1),.g false,.v (.bool v2)] [.keep [2,3,4,13] [2,3,4]] rfl ⟨fun _ => W61 a2 a3 v2 hk3,hd2,fun _ => W61 a0 a1 v1 hk1,trivial⟩ ?_
  rcases bif_some h with ⟨hd4,h⟩ | ⟨hd4,h⟩
  ·refine Tri.f 2 [.g true] [.keep [4,5] [4]] rfl ⟨hd4,trivial⟩ ?_
   cases h
   exact Tri.ret rfl ⟨.inl rfl,rfl,rfl⟩
  ·obtain ⟨⟨v3,v4,v5⟩,hk5,h⟩ := bind_some h
   refine Tri.f 2 [.g false,.v (.tuple [.agg [.i v3,.i v4],.bool v5])] [.keep [4,5] [4]] rfl ⟨fun _ => W80 (IntKind.i64.wrap (a0 * a2)) (IntKind.i64.wrap (a1 * a3)) (v3,v4,v5) hk5,hd4,trivial⟩ ?_
   cases h
   exact Tri.ret rfl ⟨.inl rfl,rfl,rfl⟩
noncomputable def E255 : Env := ⟨Try.prog,tys,(Try.f31.body).getD .skip,34,tysOk,mixedOk⟩
abbrev K169 (r : Int × Int × Bool) (σ' : ASt) : Prop := isRes E255.T Try.f31 (.tuple [.agg [.i r.1,.i r.2.1],.bool r.2.2]) [] σ'
noncomputable def m_impl_AddRat (a0 a1 a2 a3 : Int) : Option (Int × Int × Bool) :=
(m_impl_IsValidRat a0 a1).bind fun v1 =>
bif !v1 then
(some (0,0,false))
else
((m_impl_IsValidRat a2 a3).bind fun v2 =>
bif !v2 then
(some (0,0,false))
else
((m_impl_RatOf (IntKind.i64.wrap ((IntKind.i64.wrap (a0 * a3)) + (IntKind.i64.wrap (a2 * a1)))) (IntKind.i64.wrap (a1 * a3))).bind fun (v3,v4,v5) =>
some (v3,v4,v5)))
theorem W82 (a0 a1 a2 a3 : Int) (r : Int × Int × Bool) (h : m_impl_AddRat a0 a1 a2 a3 = some r) : AM.Spec Try.prog 31 [.agg [.i a0,.i a1],.agg [.i a2,.i a3]] [] (.tuple [.agg [.i r.1,.i r.2.1],.bool r.2.2]) [] := by
 refine spec_of (E := E255) Try.func31 rfl rfl rfl rfl ?_
 refine Tri.f 1 [] [.keep [2,3,4] [2,3,4]] rfl trivial ?_
 obtain ⟨v1,hk1,h⟩ := bind_some h
 rcases bif_some h with ⟨hd2,h⟩ | ⟨hd2,h⟩
 ·refine Tri.f 1 [.v (.bool v1),.g true] [.keep [2,3,4,13] [2,3,4]] rfl ⟨hd2,fun _ => W61 a0 a1 v1 hk1,trivial⟩ ?_
  refine Tri.f 2 [.g true] [.keep [4,5] [4]] rfl ⟨rfl,trivial⟩ ?_
  cases h
  exact Tri.ret rfl ⟨.inl rfl,rfl,rfl⟩
 ·obtain ⟨v2,hk3,h⟩ := bind_some h
  refine Tri.f 1 [.v (.bool v1),.g false,.v (.bool v2)] [.keep [2,3,4,13] [2,3,4]] rfl ⟨fun _ => W61 a2 a3 v2 hk3,hd2,fun _ => W61 a0 a1 v1 hk1,trivial⟩ ?_
  rcases bif_some h with ⟨hd4,h⟩ | ⟨hd4,h⟩
  ·refine Tri.f 2 [.g true] [.keep [4,5] [4]] rfl ⟨hd4,trivial⟩ ?_
   cases h
   exact Tri.ret rfl ⟨.inl rfl,rfl,rfl⟩
  ·obtain ⟨⟨v3,v4,v5⟩,hk5,h⟩ := bind_some h
   refine Tri.f 2 [.g false,.v (.tuple [.agg [.i v3,.i v4],.bool v5])] [.keep [4,5] [4]] rfl ⟨fun _ => W80 (IntKind.i64.wrap ((IntKind.i64.wrap (a0 * a3)) + (IntKind.i64.wrap (a2 * a1)))) (IntKind.i64.wrap (a1 * a3)) (v3,v4,v5) hk5,hd4,trivial⟩ ?_
   cases h
   exact Tri.ret rfl ⟨.inl rfl,rfl,rfl⟩
noncomputable def E256 : Env := ⟨Try.prog,tys,(Try.f12.body).getD .skip,52,tysOk,mixedOk⟩
abbrev K170 (r : Int × Int × Bool) (σ' : ASt) : Prop := isRes E256.T Try.f12 (.tuple [.agg [.i r.1,.i r.2.1],.bool r.2.2]) [] σ'
noncomputable def l_impl_DotRat_0 (a0 a1 : List Q) : (Int × Int × Int) → Option ((Int × Int × Int) ⊕ ((Int × Int) ⊕ ((Int × Int × Bool))))
 | (v3,v4,v5) => (
bif decide (v3 < (a0.length : Int)) then
(grd (0 ≤ v3 ∧ v3 < (a0.length : Int)) <|
grd (0 ≤ v3 ∧ v3 < (a1.length : Int)) <|
(m_impl_MulRat ((a0.getD v3.toNat ⟨0,0⟩).num) ((a0.getD v3.toNat ⟨0,0⟩).den) ((a1.getD v3.toNat ⟨0,0⟩).num) ((a1.getD v3.toNat ⟨0,0⟩).den)).bind fun (v6,v7,v8) =>
(m_impl_AddRat v4 v5 v6 v7).bind fun (v9,v10,v11) =>
bif !v8 then
(some (.inr (.inr (0,0,false))))
else
(bif !v11 then
(some (.inr (.inr (0,0,false))))
else
(some (.inl (IntKind.i64.wrap (v3 + 1),v9,v10)))))
else
(some (.inr (.inl (v4,v5)))))
noncomputable def m_impl_DotRat (a0 a1 : List Q) : Option (Int × Int × Bool) :=
bif (a0.length : Int) != (a1.length : Int) then
(some (0,0,false))
else
((m_impl_whole (0 : Int)).bind fun (v1,v2) =>
(iter (l_impl_DotRat_0 a0 a1) ((0 : Int),v1,v2)).bind fun
| (.inl (v12,v13)) => (
some (v12,v13,true))
| (.inr r) => some r)
theorem W83 (a0 a1 : List Q) (r : Int × Int × Bool) (h : m_impl_DotRat a0 a1 = some r) : AM.Spec Try.prog 12 [.list (.rats a0),.list (.rats a1)] [] (.tuple [.agg [.i r.1,.i r.2.1],.bool r.2.2]) [] := by
 refine spec_of (E := E256) Try.func12 rfl rfl rfl rfl ?_
 refine Tri.f 2 [] [.keep [0,1,4,16] [4]] rfl trivial ?_
 rcases bif_some h with ⟨hd1,h⟩ | ⟨hd1,h⟩
 ·refine Tri.f 2 [.g true] [.keep [4,5] [4]] rfl ⟨hd1,trivial⟩ ?_
  cases h
  exact Tri.ret rfl ⟨.inl rfl,rfl,rfl⟩
 ·obtain ⟨⟨v1,v2⟩,hk2,h⟩ := bind_some h
  refine Tri.f 3 [.g false,.v (.agg [.i v1,.i v2])] [.keep [0,1,4,6,20,21] [4,6]] rfl ⟨fun _ => W77 (0 : Int) (v1,v2) hk2,hd1,trivial⟩ ?_
  obtain ⟨x1,hk10,h⟩ := bind_some h
  refine Tri.loop (K1 := [.code [(3,0),(1,0),(0,0)] 0]) (K2 := [.blk 0,.code [] 4]) (fun (v3,v4,v5) => ⟨[(0,.list (.rats a0)),(1,.list (.rats a1)),(4,.ptr 4 0),(6,.ptr 6 0),(20,.i (a0.length : Int)),(21,.i v3)],[(4,.box [.i 0,.i 0]),(6,.box [.i v4,.i v5])]⟩) (fun x e σ' => match x with | (.inl (v12,v13)) => e = .exit 0 ∧ σ' = ⟨[(4,.ptr 4 0),(6,.ptr 6 0)],[(4,.box [.i 0,.i 0]),(6,.box [.i v12,.i v13])]⟩ | (.inr r) => e = .ret ∧ K170 r σ') hk10 rfl rfl ?_ ?_
  ·intro s x hs
   clear h
   have h := hs
   clear hs
   obtain ⟨v3,v4,v5⟩ := s
   refine Tri.f 1 [] [.keep [0,1,4,6,20,21,22] [4,6]] rfl trivial ?_
   rcases bif_some h with ⟨hd3,h⟩ | ⟨hd3,h⟩
   ·refine Tri.f 2 [.g true] [.keep [0,1,4,6,7,20,21] [4,6]] rfl ⟨hd3,trivial⟩ ?_
    obtain ⟨hg4,h⟩ := grd_some h
    obtain ⟨hg5,h⟩ := grd_some h
    obtain ⟨⟨v6,v7,v8⟩,hk6,h⟩ := bind_some h
    obtain ⟨⟨v9,v10,v11⟩,hk7,h⟩ := bind_some h
    refine Tri.f 2 [.v (.tuple [.agg [.i v6,.i v7],.bool v8]),.v (.tuple [.agg [.i v9,.i v10],.bool v11])] [.keep [0,1,4,6,9,10,11,20,21] [4,6,10]] rfl ⟨fun _ => W82 v4 v5 v6 v7 (v9,v10,v11) hk7,fun _ => W81 ((a0.getD v3.toNat ⟨0,0⟩).num) ((a0.getD v3.toNat ⟨0,0⟩).den) ((a1.getD v3.toNat ⟨0,0⟩).num) ((a1.getD v3.toNat ⟨0,0⟩).den) (v6,v7,v8) hk6,hg5,hg4,trivial⟩ ?_
    rcases bif_some h with ⟨hd8,h⟩ | ⟨hd8,h⟩
    ·refine Tri.f 1 [.g true] [.keep [0,1,4,6,10,20,21,47] [4,6,10]] rfl ⟨hd8,trivial⟩ ?_
     refine Tri.f 2 [.g true] [.keep [4,5] [4]] rfl ⟨rfl,trivial⟩ ?_
     cases h
     exact Tri.ret rfl ⟨nofun,rfl,rfl,rfl⟩
    ·refine Tri.f 1 [.g false] [.keep [0,1,4,6,10,20,21,47] [4,6,10]] rfl ⟨hd8,trivial⟩ ?_
     rcases bif_some h with ⟨hd9,h⟩ | ⟨hd9,h⟩
     ·refine Tri.f 2 [.g true] [.keep [4,5] [4]] rfl ⟨hd9,trivial⟩ ?_
      cases h
      exact Tri.ret rfl ⟨nofun,rfl,rfl,rfl⟩
     ·refine Tri.f 3 [.g false] [.keep [0,1,4,6,20,21] [4,6]] rfl ⟨hd9,trivial⟩ ?_
      cases h
      exact Tri.nil ⟨rfl,rfl⟩
   ·refine Tri.f 1 [.g false] [.keep [4,6] [4,6]] rfl ⟨hd3,trivial⟩ ?_
    cases h
    exact Tri.out 0 rfl ⟨nofun,rfl,rfl⟩
  ·intro e σ' hne hq
   rcases x1 with ⟨v12,v13⟩ | r
   ·obtain ⟨rfl,rfl⟩ := hq
    refine TriX.exit (K' := [.code [] 4]) rfl ?_
    refine Tri.f 1 [] [.keep [4,5] [4]] rfl trivial ?_
    cases h
    exact Tri.ret rfl ⟨.inl rfl,rfl,rfl⟩
   ·obtain ⟨rfl,hq⟩ := hq
    cases h
    exact TriX.ret ⟨.inl rfl,hq⟩
noncomputable def E257 : Env := ⟨Try.prog,tys,(Try.f28.body).getD .skip,38,tysOk,mixedOk⟩
abbrev K171 (r : Bool) (σ' : ASt) : Prop := isRes E257.T Try.f28 (.bool r) [] σ'
noncomputable def l_impl_gives_0 (a0 : List (List Int)) (a3 : List Q) (a4 : List Int) (v1 : Int) : Option (Int ⊕ (Unit ⊕ Bool)) :=
bif decide (v1 < (a0.length : Int)) then
(grd (0 ≤ v1 ∧ v1 < (a0.length : Int)) <|
(m_impl_rats (a0.getD v1.toNat [])).bind fun v2 =>
(m_impl_DotRat v2 a3).bind fun (v3,v4,v5) =>
bif !v5 then
(some (.inr (.inr false)))
else
(grd (0 ≤ v1 ∧ v1 < (a4.length : Int)) <|
(m_impl_whole (a4.getD v1.toNat 0)).bind fun (v6,v7) =>
bif !(v3 == v6 && v4 == v7) then
(some (.inr (.inr false)))
else
(some (.inl (IntKind.i64.wrap (v1 + 1))))))
else
(some (.inr (.inl ())))
noncomputable def m_impl_gives (a0 : List (List Int)) (_a1 : List Int) (_a2 a3 : List Q) (a4 : List Int) : Option Bool :=
(iter (l_impl_gives_0 a0 a3 a4) (0 : Int)).bind fun
| (.inl _) => (
some true)
| (.inr r) => some r
theorem W84 (a0 : List (List Int)) (a1 : List Int) (a2 a3 : List Q) (a4 : List Int) (r : Bool) (h : m_impl_gives a0 a1 a2 a3 a4 = some r) : AM.Spec Try.prog 28 [.agg [.list (.intss a0),.list (.ints a1),.list (.rats a2)],.list (.rats a3),.list (.ints a4)] [] (.bool r) [] := by
 refine spec_of (E := E257) Try.func28 rfl rfl rfl rfl ?_
 refine Tri.f 2 [] [.keep [1,2,12,13,14] []] rfl trivial ?_
 obtain ⟨x1,hk9,h⟩ := bind_some h
 refine Tri.loop (K1 := [.code [(1,0),(1,0),(0,0)] 0]) (K2 := [.blk 0,.code [] 2]) (fun v1 => ⟨[(1,.list (.rats a3)),(2,.list (.ints a4)),(12,.list (.intss a0)),(13,.i (a0.length : Int)),(14,.i v1)],[]⟩) (fun x e σ' => match x with | (.inl _) => e = .exit 0 ∧ σ' = ⟨[],[]⟩ | (.inr r) => e = .ret ∧ K171 r σ') hk9 rfl rfl ?_ ?_
 ·intro v1 x hs
  clear h
  have h := hs
  clear hs
  refine Tri.f 1 [] [.keep [1,2,12,13,14,15] []] rfl trivial ?_
  rcases bif_some h with ⟨hd1,h⟩ | ⟨hd1,h⟩
  ·obtain ⟨hg2,h⟩ := grd_some h
   refine Tri.f 2 [.g true] [.keep [1,2,7,8,12,13,14] []] rfl ⟨hg2,hd1,trivial⟩ ?_
   obtain ⟨v2,hk3,h⟩ := bind_some h
   obtain ⟨⟨v3,v4,v5⟩,hk4,h⟩ := bind_some h
   rcases bif_some h with ⟨hd5,h⟩ | ⟨hd5,h⟩
   ·refine Tri.f 2 [.r ⟨[],.sl 1100 0,[(1100,.arr 32 0 0 (.rats v2))]⟩,.v (.tuple [.agg [.i v3,.i v4],.bool v5]),.g true] [.keep [1,2,12,13,14,36] []] rfl ⟨hd5,fun _ => W83 v2 a3 (v3,v4,v5) hk4,fun _ => (W79 (a0.getD v1.toNat []) v2 hk3).swap 1000 1100,trivial⟩ ?_
    refine Tri.f 2 [.g true] [.keep [6] []] rfl ⟨rfl,trivial⟩ ?_
    cases h
    exact Tri.ret rfl ⟨nofun,rfl,rfl,rfl⟩
   ·obtain ⟨hg6,h⟩ := grd_some h
    obtain ⟨⟨v6,v7⟩,hk7,h⟩ := bind_some h
    refine Tri.f 2 [.r ⟨[],.sl 1100 0,[(1100,.arr 32 0 0 (.rats v2))]⟩,.v (.tuple [.agg [.i v3,.i v4],.bool v5]),.g false,.v (.agg [.i v6,.i v7])] [.keep [1,2,12,13,14,36] []] rfl ⟨fun _ => W77 (a4.getD v1.toNat 0) (v6,v7) hk7,hg6,hd5,fun _ => W83 v2 a3 (v3,v4,v5) hk4,fun _ => (W79 (a0.getD v1.toNat []) v2 hk3).swap 1000 1100,trivial⟩ ?_
    rcases bif_some h with ⟨hd8,h⟩ | ⟨hd8,h⟩
    ·refine Tri.f 2 [.g true] [.keep [6] []] rfl ⟨hd8,trivial⟩ ?_
     cases h
     exact Tri.ret rfl ⟨nofun,rfl,rfl,rfl⟩
    ·refine Tri.f 2 [.g false] [.keep [1,2,12,13,14] []] rfl ⟨hd8,trivial⟩ ?_
     cases h
     exact Tri.nil ⟨rfl,rfl⟩
  ·refine Tri.f 1 [.g false] [.keep [] []] rfl ⟨hd1,trivial⟩ ?_
   cases h
   exact Tri.out 0 rfl ⟨nofun,rfl,rfl⟩
 ·intro e σ' hne hq
  rcases x1 with _ | r
  ·obtain ⟨rfl,rfl⟩ := hq
   refine TriX.exit (K' := [.code [] 2]) rfl ?_
   refine Tri.f 1 [] [.keep [6] []] rfl trivial ?_
   cases h
   exact Tri.ret rfl ⟨.inl rfl,rfl,rfl⟩
  ·obtain ⟨rfl,hq⟩ := hq
   cases h
   exact TriX.ret ⟨.inl rfl,hq⟩
noncomputable def E258 : Env := ⟨Try.prog,tys,(Try.f11.body).getD .skip,21,tysOk,mixedOk⟩
abbrev K172 (r : Bool) (σ' : ASt) : Prop := isRes E258.T Try.f11 (.bool r) [] σ'
noncomputable def m_impl_IsFeasible (a0 : List (List Int)) (a1 : List Int) (a2 a3 : List Q) : Option Bool :=
(m_impl_IsValidLP a0 a1 a2).bind fun v1 =>
bif v1 then
((m_impl_notNegative a3 (a2.length : Int)).bind fun v2 =>
bif v2 then
((m_impl_gives a0 a1 a2 a3 a1).bind fun v3 =>
some v3)
else
(some false))
else
(some false)
theorem W85 (a0 : List (List Int)) (a1 : List Int) (a2 a3 : List Q) (r : Bool) (h : m_impl_IsFeasible a0 a1 a2 a3 = some r) : AM.Spec Try.prog 11 [.agg [.list (.intss a0),.list (.ints a1),.list (.rats a2)],.list (.rats a3)] [] (.bool r) [] := by
 refine spec_of (E := E258) Try.func11 rfl rfl rfl rfl ?_
 refine Tri.f 1 [] [.keep [1,2] [2]] rfl trivial ?_
 obtain ⟨v1,hk1,h⟩ := bind_some h
 rcases bif_some h with ⟨hd2,h⟩ | ⟨hd2,h⟩
 ·obtain ⟨v2,hk3,h⟩ := bind_some h
  rcases bif_some h with ⟨hd4,h⟩ | ⟨hd4,h⟩
  ·obtain ⟨v3,hk5,h⟩ := bind_some h
   refine Tri.f 1 [.v (.bool v1),.g true,.v (.bool v2),.g true,.v (.bool v3)] [.keep [4] []] rfl ⟨fun _ => W84 a0 a1 a2 a3 a1 v3 hk5,hd4,fun _ => W76 a3 (a2.length : Int) v2 hk3,hd2,fun _ => W69 a0 a1 a2 v1 hk1,trivial⟩ ?_
   cases h
   exact Tri.ret rfl ⟨.inl rfl,rfl,rfl⟩
  ·refine Tri.f 1 [.v (.bool v1),.g true,.v (.bool v2),.g false] [.keep [4] []] rfl ⟨hd4,fun _ => W76 a3 (a2.length : Int) v2 hk3,hd2,fun _ => W69 a0 a1 a2 v1 hk1,trivial⟩ ?_
   cases h
   exact Tri.ret rfl ⟨.inl rfl,rfl,rfl⟩
 ·refine Tri.f 1 [.v (.bool v1),.g false,.g false] [.keep [4] []] rfl ⟨rfl,hd2,fun _ => W69 a0 a1 a2 v1 hk1,trivial⟩ ?_
  cases h
  exact Tri.ret rfl ⟨.inl rfl,rfl,rfl⟩
noncomputable def E259 : Env := ⟨Try.prog,tys,(Try.f13.body).getD .skip,33,tysOk,mixedOk⟩
abbrev K173 (r : Int) (σ' : ASt) : Prop := isRes E259.T Try.f13 (.i r) [] σ'
noncomputable def m_impl_CompareRat (a0 a1 a2 a3 : Int) : Option Int :=
(m_impl_IsValidRat a0 a1).bind fun v1 =>
bif !v1 then
(some (0 : Int))
else
((m_impl_IsValidRat a2 a3).bind fun v2 =>
bif !v2 then
(some (0 : Int))
else
(bif decide ((IntKind.i64.wrap (a0 * a3)) < (IntKind.i64.wrap (a2 * a1))) then
(some (-1 : Int))
else
(bif decide ((IntKind.i64.wrap (a0 * a3)) > (IntKind.i64.wrap (a2 * a1))) then
(some (1 : Int))
else
(some (0 : Int)))))
theorem W86 (a0 a1 a2 a3 r : Int) (h : m_impl_CompareRat a0 a1 a2 a3 = some r) : AM.Spec Try.prog 13 [.agg [.i a0,.i a1],.agg [.i a2,.i a3]] [] (.i r) [] := by
 refine spec_of (E := E259) Try.func13 rfl rfl rfl rfl ?_
 refine Tri.f 1 [] [.keep [2,3] [2,3]] rfl trivial ?_
 obtain ⟨v1,hk1,h⟩ := bind_some h
 rcases bif_some h with ⟨hd2,h⟩ | ⟨hd2,h⟩
 ·refine Tri.f 1 [.v (.bool v1),.g true] [.keep [2,3,14] [2,3]] rfl ⟨hd2,fun _ => W61 a0 a1 v1 hk1,trivial⟩ ?_
  refine Tri.f 2 [.g true] [.keep [4] []] rfl ⟨rfl,trivial⟩ ?_
  cases h
  exact Tri.ret rfl ⟨.inl rfl,rfl,rfl⟩
 ·obtain ⟨v2,hk3,h⟩ := bind_some h
  refine Tri.f 1 [.v (.bool v1),.g false,.v (.bool v2)] [.keep [2,3,14] [2,3]] rfl ⟨fun _ => W61 a2 a3 v2 hk3,hd2,fun _ => W61 a0 a1 v1 hk1,trivial⟩ ?_
  rcases bif_some h with ⟨hd4,h⟩ | ⟨hd4,h⟩
  ·refine Tri.f 2 [.g true] [.keep [4] []] rfl ⟨hd4,trivial⟩ ?_
   cases h
   exact Tri.ret rfl ⟨.inl rfl,rfl,rfl⟩
  ·refine Tri.f 3 [.g false] [.keep [5,6,25] []] rfl ⟨hd4,trivial⟩ ?_
   rcases bif_some h with ⟨hd5,h⟩ | ⟨hd5,h⟩
   ·refine Tri.f 2 [.g true] [.keep [4] []] rfl ⟨hd5,trivial⟩ ?_
    cases h
    exact Tri.ret rfl ⟨.inl rfl,rfl,rfl⟩
   ·refine Tri.f 2 [.g false] [.keep [29] []] rfl ⟨hd5,trivial⟩ ?_
    rcases bif_some h with ⟨hd6,h⟩ | ⟨hd6,h⟩
    ·refine Tri.f 2 [.g true] [.keep [4] []] rfl ⟨hd6,trivial⟩ ?_
     cases h
     exact Tri.ret rfl ⟨.inl rfl,rfl,rfl⟩
    ·refine Tri.f 2 [.g false] [.keep [4] []] rfl ⟨hd6,trivial⟩ ?_
     cases h
     exact Tri.ret rfl ⟨.inl rfl,rfl,rfl⟩
noncomputable def E260 : Env := ⟨Try.prog,tys,(Try.f3.body).getD .skip,59,tysOk,mixedOk⟩
abbrev K174 (r : Bool) (σ' : ASt) : Prop := isRes E260.T Try.f3 (.bool r) [] σ'
noncomputable def m_laws_FnWeakDuality (a0 : List UInt8) : Option Bool :=
(m_laws_big a0).bind fun v1 =>
bif v1 then
(some true)
else
((m_spec_DrawIsFeasible a0).bind fun (v2,v3,v4,v5) =>
(m_spec_SolveLP v2 v3 v4).bind fun (v6,v7,v8,_,_,_,_) =>
(m_laws_at0 a0 (3 : Int)).bind fun v13 =>
grd ((4 : Int) ≠ 0) <|
(m_impl_ColumnOf v2 v3 v4 (v13.tmod (4 : Int))).bind fun v14 =>
(m_spec_ColumnOf v2 v3 v4 (v13.tmod (4 : Int))).bind fun v15 =>
(m_laws_sameInts v14 v15).bind fun v16 =>
bif !v16 then
(some false)
else
((m_impl_IsFeasible v2 v3 v4 v5).bind fun v17 =>
bif !v17 then
(some true)
else
((m_impl_DotRat v4 v5).bind fun (v18,v19,v20) =>
bif v6 != 2 then
(bif v6 != 1 then
(some true)
else
(bif !v20 then
(some true)
else
((m_impl_CompareRat v7 v8 v18 v19).bind fun v21 =>
some (decide (v21 ≤ 0)))))
else
(some false))))
theorem w_laws_FnWeakDuality (a0 : List UInt8) (r : Bool) (h : m_laws_FnWeakDuality a0 = some r) : AM.Spec Try.prog 3 [.list (.bytes a0)] [] (.bool r) [] := by
 refine spec_of (E := E260) Try.func3 rfl rfl rfl rfl ?_
 refine Tri.f 1 [] [.keep [0] []] rfl trivial ?_
 obtain ⟨v1,hk1,h⟩ := bind_some h
 refine Tri.f 1 [.v (.bool v1)] [.keep [0,10] []] rfl ⟨fun _ => W0 a0 v1 hk1,trivial⟩ ?_
 rcases bif_some h with ⟨hd2,h⟩ | ⟨hd2,h⟩
 ·refine Tri.f 2 [.g true] [.keep [2] []] rfl ⟨hd2,trivial⟩ ?_
  cases h
  exact Tri.ret rfl ⟨.inl rfl,rfl,rfl⟩
 ·obtain ⟨⟨v2,v3,v4,v5⟩,hk3,h⟩ := bind_some h
  refine Tri.f 2 [.g false,.r ⟨[],.tuple [.agg [.sl 1100 0,.sl 1101 0,.sl 1102 0],.sl 1103 0],[(1100,.arr 25 0 0 (.intss v2)),(1101,.arr 3 0 0 (.ints v3)),(1102,.arr 32 0 0 (.rats v4)),(1103,.arr 32 0 0 (.rats v5))]⟩] [.keep [0,3,4] [3,1100,1101,1102,1103]] rfl ⟨fun _ => ((((W57 a0 (v2,v3,v4,v5) hk3).swap 1000 1100).swap 1001 1101).swap 1002 1102).swap 1003 1103,hd2,trivial⟩ ?_
  obtain ⟨⟨v6,v7,v8,v9,v10,v11,v12⟩,hk4,h⟩ := bind_some h
  obtain ⟨v13,hk5,h⟩ := bind_some h
  obtain ⟨hg6,h⟩ := grd_some h
  refine Tri.f 2 [.r ⟨[],.agg [.i v6,.sl 1104 0,.sl 1105 0,.sl 1106 0,.i v7,.i v8,.i v9],[(1104,.arr 32 0 0 (.rats v10)),(1105,.arr 32 0 0 (.rats v11)),(1106,.arr 32 0 0 (.rats v12))]⟩,.v (.i v13)] [.keep [3,4,5,6] [3,5,1100,1101,1102,1103,1104,1105,1106]] rfl ⟨hg6,fun _ => W58 a0 (3 : Int) v13 hk5,fun _ => (((W54 v2 v3 v4 (v6,v7,v8,v9,v10,v11,v12) hk4).swap 1000 1104).swap 1001 1105).swap 1002 1106,trivial⟩ ?_
  obtain ⟨v14,hk7,h⟩ := bind_some h
  obtain ⟨v15,hk8,h⟩ := bind_some h
  obtain ⟨v16,hk9,h⟩ := bind_some h
  refine Tri.f 1 [.r ⟨[],.sl 1107 0,[(1107,.arr 3 0 0 (.ints v14))]⟩,.r ⟨[],.sl 1108 0,[(1108,.arr 3 0 0 (.ints v15))]⟩,.v (.bool v16)] [.keep [3,4,5,28] [3,5,1100,1101,1102,1103,1104,1105,1106]] rfl ⟨fun _ => W72 v14 v15 v16 hk9,fun _ => (W49 v2 v3 v4 (v13.tmod (4 : Int)) v15 hk8).swap 1000 1108,fun _ => (W71 v2 v3 v4 (v13.tmod (4 : Int)) v14 hk7).swap 1000 1107,trivial⟩ ?_
  rcases bif_some h with ⟨hd10,h⟩ | ⟨hd10,h⟩
  ·refine Tri.f 2 [.g true] [.keep [2] []] rfl ⟨hd10,trivial⟩ ?_
   cases h
   exact Tri.ret rfl ⟨.inl rfl,rfl,rfl⟩
  ·obtain ⟨v17,hk11,h⟩ := bind_some h
   refine Tri.f 2 [.g false,.v (.bool v17)] [.keep [3,4,5,32] [3,5,1100,1101,1102,1103,1104,1105,1106]] rfl ⟨fun _ => W85 v2 v3 v4 v5 v17 hk11,hd10,trivial⟩ ?_
   rcases bif_some h with ⟨hd12,h⟩ | ⟨hd12,h⟩
   ·refine Tri.f 2 [.g true] [.keep [2] []] rfl ⟨hd12,trivial⟩ ?_
    cases h
    exact Tri.ret rfl ⟨.inl rfl,rfl,rfl⟩
   ·obtain ⟨⟨v18,v19,v20⟩,hk13,h⟩ := bind_some h
    refine Tri.f 2 [.g false,.v (.tuple [.agg [.i v18,.i v19],.bool v20])] [.keep [5,7,8] [5,7,1104,1105,1106]] rfl ⟨fun _ => W83 v4 v5 (v18,v19,v20) hk13,hd12,trivial⟩ ?_
    rcases bif_some h with ⟨hd14,h⟩ | ⟨hd14,h⟩
    ·rcases bif_some h with ⟨hd15,h⟩ | ⟨hd15,h⟩
     ·refine Tri.f 1 [.g true,.g true,.g true] [.keep [2] []] rfl ⟨rfl,hd15,hd14,trivial⟩ ?_
      cases h
      exact Tri.ret rfl ⟨.inl rfl,rfl,rfl⟩
     ·rcases bif_some h with ⟨hd16,h⟩ | ⟨hd16,h⟩
      ·refine Tri.f 1 [.g true,.g false,.g true] [.keep [2] []] rfl ⟨hd16,hd15,hd14,trivial⟩ ?_
       cases h
       exact Tri.ret rfl ⟨.inl rfl,rfl,rfl⟩
      ·obtain ⟨v21,hk17,h⟩ := bind_some h
       refine Tri.f 1 [.g true,.g false,.g false,.v (.i v21)] [.keep [2] []] rfl ⟨fun _ => W86 v7 v8 v18 v19 v21 hk17,hd16,hd15,hd14,trivial⟩ ?_
       cases h
       exact Tri.ret rfl ⟨.inl rfl,rfl,rfl⟩
    ·refine Tri.f 1 [.g false] [.keep [2] []] rfl ⟨hd14,trivial⟩ ?_
     cases h
     exact Tri.ret rfl ⟨.inl rfl,rfl,rfl⟩
end Go.Proofs.Ytbkpiknmlomjnaa
