/- models and walks -/
import Derived.Test.YtjnbmknniadbpaaGreatGCorep
namespace Go.Proofs.YtjnbmknniadbpaaGreat
open Go.AM
set_option maxRecDepth 100000
set_option maxHeartbeats 4000000
noncomputable def E449 : Env := ⟨Tryz.prog,tys,(Tryz.f25.body).getD .skip,87,tysOk,mixedOk⟩
abbrev K292 (r : Int × (List Q) × (List Q)) (σ' : ASt) : Prop := isRes E449.T Tryz.f25 (.agg [.i r.1,.sl 1000 0,.sl 1001 0]) [(1000,.arr 31 0 0 (.rats r.2.1)),(1001,.arr 31 0 0 (.rats r.2.2))] σ'
noncomputable def l_spec_FindCore_0 (v10 : List Q) : (Int × (List Q)) → Option ((Int × (List Q)) ⊕ ((List Q)))
 | (v18,v19) => (
bif decide (v18 < (v10.length : Int)) then
(grd (0 ≤ v18 ∧ v18 < (v10.length : Int)) <|
(m_spec_l7Negated ((v10.getD v18.toNat ⟨0,0⟩).num) ((v10.getD v18.toNat ⟨0,0⟩).den)).bind fun (v20,v21) =>
grd (v19.length + ([⟨v20,v21⟩] : List Q).length ≤ room) <|
some (.inl (IntKind.i64.wrap (v18 + 1),v19 ++ [⟨v20,v21⟩])))
else
(some (.inr v19)))
noncomputable def m_spec_FindCore (a0 : Int) (a1 : List Int) : Option (Int × (List Q) × (List Q)) :=
(m_spec_BalancedLP a0 a1).bind fun (v1,v2,v3,v4) =>
bif !v1 then
(some (0,[],[]))
else
((m_spec_SolveLP v2 v3 v4).bind fun (v5,v6,v7,_,v9,v10,_) =>
(m_spec_GrandValue a0 a1).bind fun v12 =>
(m_spec_l3Int v12).bind fun (v13,v14) =>
(m_spec_AddRat v13 v14 v6 v7).bind fun (v15,v16,v17) =>
bif v5 != 1 then
(some ((3 : Int),[],[]))
else
(bif !v17 then
(some ((3 : Int),[],[]))
else
(bif decide (v15 < 0) then
(some ((2 : Int),[],v9))
else
((iter (l_spec_FindCore_0 v10) ((0 : Int),[])).bind fun
| v22 => (
grd (0 ≤ IntKind.i64.wrap (a0 - 1) ∧ IntKind.i64.wrap (a0 - 1) < (v22.length : Int)) <|
(m_spec_AddRat ((v22.getD ((IntKind.i64.wrap (a0 - 1)).toNat) ⟨0,0⟩).num) ((v22.getD ((IntKind.i64.wrap (a0 - 1)).toNat) ⟨0,0⟩).den) v15 v16).bind fun (v23,v24,v25) =>
bif !v25 then
(some ((3 : Int),[],[]))
else
(grd (0 ≤ IntKind.i64.wrap (a0 - 1) ∧ IntKind.i64.wrap (a0 - 1) < (v22.length : Int)) <|
some ((1 : Int),v22.set ((IntKind.i64.wrap (a0 - 1)).toNat) ⟨v23,v24⟩,[])))))))
theorem W129 (a0 : Int) (a1 : List Int) (r : Int × (List Q) × (List Q)) (h : m_spec_FindCore a0 a1 = some r) : AM.Spec Tryz.prog 25 [.agg [.i a0,.list (.ints a1)]] [] (.agg [.i r.1,.sl 1000 0,.sl 1001 0]) [(1000,.arr 31 0 0 (.rats r.2.1)),(1001,.arr 31 0 0 (.rats r.2.2))] := by
 refine spec_of (E := E449) Tryz.func25 rfl rfl rfl rfl ?_
 refine Tri.f 1 [] [.keep [1,2] [1,2],.ownc 2 1 1100 31,.ownc 2 2 1101 31,.keep [1,2] [1,2,1100,1101]] rfl trivial ?_
 obtain ⟨⟨v1,v2,v3,v4⟩,hk1,h⟩ := bind_some h
 refine Tri.f 2 [.r ⟨[],.tuple [.agg [.sl 1102 0,.sl 1103 0,.sl 1104 0],.bool v1],[(1102,.arr 25 0 0 (.intss v2)),(1103,.arr 3 0 0 (.ints v3)),(1104,.arr 31 0 0 (.rats v4))]⟩] [.keep [1,2,3,18] [1,2,3,1100,1101,1102,1103,1104]] rfl ⟨fun _ => (((W84 a0 a1 (v1,v2,v3,v4) hk1).swap 1000 1102).swap 1001 1103).swap 1002 1104,trivial⟩ ?_
 rcases bif_some h with ⟨hd2,h⟩ | ⟨hd2,h⟩
 ·refine Tri.f 2 [.g true] [.ownc 2 1 1105 31,.ownc 2 2 1106 31,.swap 1105 1000,.swap 1106 1001,.keep [2] [2,1000,1001]] rfl ⟨hd2,trivial⟩ ?_
  cases h
  exact Tri.ret rfl ⟨.inl rfl,rfl,rfl⟩
 ·obtain ⟨⟨v5,v6,v7,v8,v9,v10,v11⟩,hk3,h⟩ := bind_some h
  refine Tri.f 2 [.g false,.r ⟨[],.agg [.i v5,.sl 1107 0,.sl 1108 0,.sl 1109 0,.i v6,.i v7,.i v8],[(1107,.arr 31 0 0 (.rats v9)),(1108,.arr 31 0 0 (.rats v10)),(1109,.arr 31 0 0 (.rats v11))]⟩] [.keep [1,2,5] [1,2,5,1100,1101,1107,1108,1109]] rfl ⟨fun _ => (((W127 v2 v3 v4 (v5,v6,v7,v8,v9,v10,v11) hk3).swap 1000 1107).swap 1001 1108).swap 1002 1109,hd2,trivial⟩ ?_
  obtain ⟨v12,hk4,h⟩ := bind_some h
  obtain ⟨⟨v13,v14⟩,hk5,h⟩ := bind_some h
  obtain ⟨⟨v15,v16,v17⟩,hk6,h⟩ := bind_some h
  rcases bif_some h with ⟨hd7,h⟩ | ⟨hd7,h⟩
  ·refine Tri.f 2 [.v (.i v12),.v (.agg [.i v13,.i v14]),.v (.tuple [.agg [.i v15,.i v16],.bool v17]),.g true] [.keep [1,2,5,6,37] [1,2,5,6,1100,1101,1107,1108,1109]] rfl ⟨hd7,fun _ => W96 v13 v14 v6 v7 (v15,v16,v17) hk6,fun _ => W83 v12 (v13,v14) hk5,fun _ => W128 a0 a1 v12 hk4,trivial⟩ ?_
   refine Tri.f 2 [.g true] [.ownc 2 1 1110 31,.ownc 2 2 1111 31,.swap 1110 1000,.swap 1111 1001,.keep [2] [2,1000,1001]] rfl ⟨rfl,trivial⟩ ?_
   cases h
   exact Tri.ret rfl ⟨.inl rfl,rfl,rfl⟩
  ·refine Tri.f 2 [.v (.i v12),.v (.agg [.i v13,.i v14]),.v (.tuple [.agg [.i v15,.i v16],.bool v17]),.g false] [.keep [1,2,5,6,37] [1,2,5,6,1100,1101,1107,1108,1109]] rfl ⟨hd7,fun _ => W96 v13 v14 v6 v7 (v15,v16,v17) hk6,fun _ => W83 v12 (v13,v14) hk5,fun _ => W128 a0 a1 v12 hk4,trivial⟩ ?_
   rcases bif_some h with ⟨hd8,h⟩ | ⟨hd8,h⟩
   ·refine Tri.f 2 [.g true] [.ownc 2 1 1112 31,.ownc 2 2 1113 31,.swap 1112 1000,.swap 1113 1001,.keep [2] [2,1000,1001]] rfl ⟨hd8,trivial⟩ ?_
    cases h
    exact Tri.ret rfl ⟨.inl rfl,rfl,rfl⟩
   ·refine Tri.f 2 [.g false] [.keep [1,2,5,6,41] [1,2,5,6,1100,1101,1107,1108,1109]] rfl ⟨hd8,trivial⟩ ?_
    rcases bif_some h with ⟨hd9,h⟩ | ⟨hd9,h⟩
    ·refine Tri.f 2 [.g true] [.ownc 2 1 1114 31,.swap 1114 1000,.swap 1107 1001,.keep [2] [2,1000,1001]] rfl ⟨hd9,trivial⟩ ?_
     cases h
     exact Tri.ret rfl ⟨.inl rfl,rfl,rfl⟩
    ·refine Tri.f 3 [.g false] [.ownc 8 1 1115 31,.ownc 8 2 1116 31,.keep [1,2,5,6,8,9] [1,2,5,6,8,1100,1101,1107,1108,1109,1115,1116]] rfl ⟨hd9,trivial⟩ ?_
     obtain ⟨v22,hk14,h⟩ := bind_some h
     refine Tri.loop (K1 := [.code [(8,0),(1,0),(0,0)] 0]) (K2 := [.blk 0,.code [] 9]) (fun (v18,v19) => ⟨[(1,.ptr 1 0),(2,.ptr 2 0),(5,.ptr 5 0),(6,.ptr 6 0),(8,.ptr 8 0),(9,.i v18)],[(1,.box [.i a0,.list (.ints a1)]),(2,.box [.i 0,.sl 1100 0,.sl 1101 0]),(5,.box [.i v5,.sl 1107 0,.sl 1108 0,.sl 1109 0,.i v6,.i v7,.i v8]),(6,.box [.i v15,.i v16]),(8,.box [.i (1 : Int),.sl 1115 0,.sl 1116 0]),(1100,.arr 31 0 0 (.rats [])),(1101,.arr 31 0 0 (.rats [])),(1107,.arr 31 0 0 (.rats v9)),(1108,.arr 31 0 0 (.rats v10)),(1109,.arr 31 0 0 (.rats v11)),(1115,.arr 31 0 0 (.rats v19)),(1116,.arr 31 0 0 (.rats []))]⟩) (fun x e σ' => match x with | v22 => e = .exit 0 ∧ σ' = ⟨[(1,.ptr 1 0),(2,.ptr 2 0),(6,.ptr 6 0),(8,.ptr 8 0)],[(1,.box [.i a0,.list (.ints a1)]),(2,.box [.i 0,.sl 1100 0,.sl 1101 0]),(6,.box [.i v15,.i v16]),(8,.box [.i (1 : Int),.sl 1115 0,.sl 1116 0]),(1100,.arr 31 0 0 (.rats [])),(1101,.arr 31 0 0 (.rats [])),(1115,.arr 31 0 0 (.rats v22)),(1116,.arr 31 0 0 (.rats []))]⟩) hk14 rfl rfl ?_ ?_
     ·intro s x hs
      clear h
      have h := hs
      clear hs
      obtain ⟨v18,v19⟩ := s
      refine Tri.f 1 [] [.keep [1,2,5,6,8,9,50] [1,2,5,6,8,1100,1101,1107,1108,1109,1115,1116]] rfl trivial ?_
      rcases bif_some h with ⟨hd10,h⟩ | ⟨hd10,h⟩
      ·obtain ⟨hg11,h⟩ := grd_some h
       obtain ⟨⟨v20,v21⟩,hk12,h⟩ := bind_some h
       obtain ⟨hg13,h⟩ := grd_some h
       refine Tri.f 3 [.g true,.v (.agg [.i v20,.i v21])] [.rever 1115,.keep [1,2,5,6,8,9] [1,2,5,6,8,1100,1101,1107,1108,1109,1115,1116]] rfl ⟨hg13,fun _ => W113 ((v10.getD v18.toNat ⟨0,0⟩).num) ((v10.getD v18.toNat ⟨0,0⟩).den) (v20,v21) hk12,hg11,hd10,trivial⟩ ?_
       cases h
       exact Tri.nil ⟨rfl,rfl⟩
      ·refine Tri.f 1 [.g false] [.keep [1,2,6,8] [1,2,6,8,1100,1101,1115,1116]] rfl ⟨hd10,trivial⟩ ?_
       cases h
       exact Tri.out 0 rfl ⟨nofun,rfl,rfl⟩
     ·intro e σ' hne hq
      obtain ⟨rfl,rfl⟩ := hq
      refine TriX.exit (K' := [.code [] 9]) rfl ?_
      obtain ⟨hg15,h⟩ := grd_some h
      obtain ⟨⟨v23,v24,v25⟩,hk16,h⟩ := bind_some h
      refine Tri.f 2 [.v (.tuple [.agg [.i v23,.i v24],.bool v25])] [.keep [1,2,8,10,77] [1,2,8,10,1100,1101,1115,1116]] rfl ⟨fun _ => W96 ((v22.getD ((IntKind.i64.wrap (a0 - 1)).toNat) ⟨0,0⟩).num) ((v22.getD ((IntKind.i64.wrap (a0 - 1)).toNat) ⟨0,0⟩).den) v15 v16 (v23,v24,v25) hk16,hg15,trivial⟩ ?_
      rcases bif_some h with ⟨hd17,h⟩ | ⟨hd17,h⟩
      ·refine Tri.f 2 [.g true] [.ownc 2 1 1117 31,.ownc 2 2 1118 31,.swap 1117 1000,.swap 1118 1001,.keep [2] [2,1000,1001]] rfl ⟨hd17,trivial⟩ ?_
       cases h
       exact Tri.ret rfl ⟨.inl rfl,rfl,rfl⟩
      ·obtain ⟨hg18,h⟩ := grd_some h
       refine Tri.f 3 [.g false] [.swap 1115 1000,.swap 1116 1001,.keep [2] [2,1000,1001]] rfl ⟨hg18,hd17,trivial⟩ ?_
       cases h
       exact Tri.ret rfl ⟨.inl rfl,rfl,rfl⟩
noncomputable def E450 : Env := ⟨Tryz.prog,tys,(Tryz.f26.body).getD .skip,26,tysOk,mixedOk⟩
abbrev K293 (r : Bool) (σ' : ASt) : Prop := isRes E450.T Tryz.f26 (.bool r) [] σ'
noncomputable def l_spec_EqualVector_0 (a0 a1 : List Q) (v1 : Int) : Option (Int ⊕ (Unit ⊕ Bool)) :=
bif decide (v1 < (a0.length : Int)) then
(grd (0 ≤ v1 ∧ v1 < (a0.length : Int)) <|
grd (0 ≤ v1 ∧ v1 < (a1.length : Int)) <|
bif !(((a0.getD v1.toNat ⟨0,0⟩).num) == ((a1.getD v1.toNat ⟨0,0⟩).num) && ((a0.getD v1.toNat ⟨0,0⟩).den) == ((a1.getD v1.toNat ⟨0,0⟩).den)) then
(some (.inr (.inr false)))
else
(some (.inl (IntKind.i64.wrap (v1 + 1)))))
else
(some (.inr (.inl ())))
noncomputable def m_spec_EqualVector (a0 a1 : List Q) : Option Bool :=
bif (a0.length : Int) != (a1.length : Int) then
(some false)
else
((iter (l_spec_EqualVector_0 a0 a1) (0 : Int)).bind fun
| (.inl _) => (
some true)
| (.inr r) => some r)
theorem W130 (a0 a1 : List Q) (r : Bool) (h : m_spec_EqualVector a0 a1 = some r) : AM.Spec Tryz.prog 26 [.list (.rats a0),.list (.rats a1)] [] (.bool r) [] := by
 refine spec_of (E := E450) Tryz.func26 rfl rfl rfl rfl ?_
 refine Tri.f 2 [] [.keep [0,1,10] []] rfl trivial ?_
 rcases bif_some h with ⟨hd1,h⟩ | ⟨hd1,h⟩
 ·refine Tri.f 2 [.g true] [.keep [4] []] rfl ⟨hd1,trivial⟩ ?_
  cases h
  exact Tri.ret rfl ⟨.inl rfl,rfl,rfl⟩
 ·refine Tri.f 2 [.g false] [.keep [0,1,5] []] rfl ⟨hd1,trivial⟩ ?_
  obtain ⟨x1,hk6,h⟩ := bind_some h
  refine Tri.loop (K1 := [.code [(2,0),(1,0),(0,0)] 0]) (K2 := [.blk 0,.code [] 3]) (fun v1 => ⟨[(0,.list (.rats a0)),(1,.list (.rats a1)),(5,.i v1)],[]⟩) (fun x e σ' => match x with | (.inl _) => e = .exit 0 ∧ σ' = ⟨[],[]⟩ | (.inr r) => e = .ret ∧ K293 r σ') hk6 rfl rfl ?_ ?_
  ·intro v1 x hs
   clear h
   have h := hs
   clear hs
   refine Tri.f 1 [] [.keep [0,1,5,14] []] rfl trivial ?_
   rcases bif_some h with ⟨hd2,h⟩ | ⟨hd2,h⟩
   ·obtain ⟨hg3,h⟩ := grd_some h
    obtain ⟨hg4,h⟩ := grd_some h
    refine Tri.f 2 [.g true] [.keep [0,1,5,25] []] rfl ⟨hg4,hg3,hd2,trivial⟩ ?_
    rcases bif_some h with ⟨hd5,h⟩ | ⟨hd5,h⟩
    ·refine Tri.f 2 [.g true] [.keep [4] []] rfl ⟨hd5,trivial⟩ ?_
     cases h
     exact Tri.ret rfl ⟨nofun,rfl,rfl,rfl⟩
    ·refine Tri.f 2 [.g false] [.keep [0,1,5] []] rfl ⟨hd5,trivial⟩ ?_
     cases h
     exact Tri.nil ⟨rfl,rfl⟩
   ·refine Tri.f 1 [.g false] [.keep [] []] rfl ⟨hd2,trivial⟩ ?_
    cases h
    exact Tri.out 0 rfl ⟨nofun,rfl,rfl⟩
  ·intro e σ' hne hq
   rcases x1 with _ | r
   ·obtain ⟨rfl,rfl⟩ := hq
    refine TriX.exit (K' := [.code [] 3]) rfl ?_
    refine Tri.f 1 [] [.keep [4] []] rfl trivial ?_
    cases h
    exact Tri.ret rfl ⟨.inl rfl,rfl,rfl⟩
   ·obtain ⟨rfl,hq⟩ := hq
    cases h
    exact TriX.ret ⟨.inl rfl,hq⟩
noncomputable def E451 : Env := ⟨Tryz.prog,tys,(Tryz.f112.body).getD .skip,8,tysOk,mixedOk⟩
abbrev K294 (r : List (List UInt8)) (σ' : ASt) : Prop := isRes E451.T Tryz.f112 (.sl 1000 0) [(1000,.arr 9 0 0 (.strs r))] σ'
noncomputable def m_slices_Clone_string_string (a0 : List (List UInt8)) : Option (List (List UInt8)) :=
grd (([] : List (List UInt8)).length + a0.length ≤ room) <|
some ([] ++ a0)
theorem W131 (a0 r : List (List UInt8)) (h : m_slices_Clone_string_string a0 = some r) : AM.Spec Tryz.prog 112 [.list (.strs a0)] [] (.sl 1000 0) [(1000,.arr 9 0 0 (.strs r))] := by
 refine spec_of (E := E451) Tryz.func112 rfl rfl rfl rfl ?_
 refine Tri.f 2 [] [.keep [0,4] []] rfl trivial ?_
 refine Tri.any (p := (.strs a0)) (Kt := [.code [(1,0),(1,0)] 0,.code [] 2]) (Kf := [.code [(1,0),(1,1)] 0,.code [] 2]) rfl (fun hnil => ?_) ?_
 ·have hnil := List.eq_nil_of_length_eq_zero hnil
  subst hnil
  have h := (grd_some h).2
  have h : (some []) = some _ := h
  refine Tri.f 1 [] [.own 2 [] 1100 9,.swap 1100 1000,.keep [2] [1000]] rfl trivial ?_
  cases h
  exact Tri.ret rfl ⟨.inl rfl,rfl,rfl⟩
 ·obtain ⟨hg1,h⟩ := grd_some h
  refine Tri.f 1 [] [.rever 5,.swap 5 1000,.keep [2] [1000]] rfl ⟨hg1,trivial⟩ ?_
  cases h
  exact Tri.ret rfl ⟨.inl rfl,rfl,rfl⟩
noncomputable def E452 : Env := ⟨Tryz.prog,tys,(Tryz.f27.body).getD .skip,16,tysOk,mixedOk⟩
abbrev K295 (r : List UInt8) (σ' : ASt) : Prop := isRes E452.T Tryz.f27 (.str r) [] σ'
noncomputable def m_impl_CoreName (a0 : Int) : Option (List UInt8) :=
(m_impl_within a0 (0 : Int) (IntKind.i64.wrap ((([[98,97,100],[112,111,105,110,116],[101,109,112,116,121],[108,105,109,105,116]] : List (List UInt8)).length : Int) - 1))).bind fun v1 =>
bif !v1 then
(some [63])
else
((m_slices_Clone_string_string [[98,97,100],[112,111,105,110,116],[101,109,112,116,121],[108,105,109,105,116]]).bind fun v2 =>
grd (0 ≤ a0 ∧ a0 < (v2.length : Int)) <|
some (v2.getD a0.toNat []))
theorem W132 (a0 : Int) (r : List UInt8) (h : m_impl_CoreName a0 = some r) : AM.Spec Tryz.prog 27 [.i a0] [] (.str r) [] := by
 refine spec_of (E := E452) Tryz.func27 rfl rfl rfl rfl ?_
 refine Tri.f 2 [] [.keep [0,3] [4]] rfl trivial ?_
 obtain ⟨v1,hk1,h⟩ := bind_some h
 refine Tri.f 1 [.v (.bool v1)] [.keep [0,3,10] [4]] rfl ⟨fun _ => W16 a0 (0 : Int) (IntKind.i64.wrap ((([[98,97,100],[112,111,105,110,116],[101,109,112,116,121],[108,105,109,105,116]] : List (List UInt8)).length : Int) - 1)) v1 hk1,trivial⟩ ?_
 rcases bif_some h with ⟨hd2,h⟩ | ⟨hd2,h⟩
 ·refine Tri.f 2 [.g true] [.keep [2] []] rfl ⟨hd2,trivial⟩ ?_
  cases h
  exact Tri.ret rfl ⟨.inl rfl,rfl,rfl⟩
 ·obtain ⟨v2,hk3,h⟩ := bind_some h
  obtain ⟨hg4,h⟩ := grd_some h
  refine Tri.f 2 [.g false,.r ⟨[],.sl 1100 0,[(1100,.arr 9 0 0 (.strs v2))]⟩] [.keep [2] []] rfl ⟨hg4,fun _ => (W131 [[98,97,100],[112,111,105,110,116],[101,109,112,116,121],[108,105,109,105,116]] v2 hk3).swap 1000 1100,hd2,trivial⟩ ?_
  cases h
  exact Tri.ret rfl ⟨.inl rfl,rfl,rfl⟩
noncomputable def E453 : Env := ⟨Tryz.prog,tys,(Tryz.f28.body).getD .skip,10,tysOk,mixedOk⟩
abbrev K296 (r : List UInt8) (σ' : ASt) : Prop := isRes E453.T Tryz.f28 (.str r) [] σ'
noncomputable def m_spec_CoreName (a0 : Int) : Option (List UInt8) :=
(m_spec_l1In a0 (0 : Int) (3 : Int)).bind fun v1 =>
bif !v1 then
(some [63])
else
(grd (0 ≤ a0 ∧ a0 < (([[98,97,100],[112,111,105,110,116],[101,109,112,116,121],[108,105,109,105,116]] : List (List UInt8)).length : Int)) <|
some ([[98,97,100],[112,111,105,110,116],[101,109,112,116,121],[108,105,109,105,116]].getD a0.toNat []))
theorem W133 (a0 : Int) (r : List UInt8) (h : m_spec_CoreName a0 = some r) : AM.Spec Tryz.prog 28 [.i a0] [] (.str r) [] := by
 refine spec_of (E := E453) Tryz.func28 rfl rfl rfl rfl ?_
 refine Tri.f 1 [] [.keep [0] []] rfl trivial ?_
 obtain ⟨v1,hk1,h⟩ := bind_some h
 refine Tri.f 1 [.v (.bool v1)] [.keep [0,5] []] rfl ⟨fun _ => W5 a0 (0 : Int) (3 : Int) v1 hk1,trivial⟩ ?_
 rcases bif_some h with ⟨hd2,h⟩ | ⟨hd2,h⟩
 ·refine Tri.f 2 [.g true] [.keep [2] []] rfl ⟨hd2,trivial⟩ ?_
  cases h
  exact Tri.ret rfl ⟨.inl rfl,rfl,rfl⟩
 ·obtain ⟨hg3,h⟩ := grd_some h
  refine Tri.f 2 [.g false] [.keep [2] []] rfl ⟨hg3,hd2,trivial⟩ ?_
  cases h
  exact Tri.ret rfl ⟨.inl rfl,rfl,rfl⟩
noncomputable def E454 : Env := ⟨Tryz.prog,tys,(Tryz.f206.body).getD .skip,21,tysOk,mixedOk⟩
abbrev K297 (r : List Int) (σ' : ASt) : Prop := isRes E454.T Tryz.f206 (.sl 1000 0) [(1000,.arr 3 0 0 (.ints r))] σ'
noncomputable def l_impl_MembersOf_0 (a0 : Int) : (Int × (List Int)) → Option ((Int × (List Int)) ⊕ ((List Int)))
 | (v2,v3) => (
bif decide (v2 < 5) then
((m_impl_HasPlayer a0 v2).bind fun v4 =>
bif v4 then
(grd (v3.length + ([v2] : List Int).length ≤ room) <|
some (.inl (IntKind.i64.wrap (v2 + 1),v3 ++ [v2])))
else
(some (.inl (IntKind.i64.wrap (v2 + 1),v3))))
else
(some (.inr v3)))
noncomputable def m_impl_MembersOf (a0 : Int) : Option (List Int) :=
(m_impl_within a0 (0 : Int) (31 : Int)).bind fun v1 =>
bif !v1 then
(some [])
else
((iter (l_impl_MembersOf_0 a0) ((0 : Int),[])).bind fun
| v5 => (
some v5))
theorem W134 (a0 : Int) (r : List Int) (h : m_impl_MembersOf a0 = some r) : AM.Spec Tryz.prog 206 [.i a0] [] (.sl 1000 0) [(1000,.arr 3 0 0 (.ints r))] := by
 refine spec_of (E := E454) Tryz.func206 rfl rfl rfl rfl ?_
 refine Tri.f 1 [] [.keep [0] []] rfl trivial ?_
 obtain ⟨v1,hk1,h⟩ := bind_some h
 refine Tri.f 1 [.v (.bool v1)] [.keep [0,7] []] rfl ⟨fun _ => W16 a0 (0 : Int) (31 : Int) v1 hk1,trivial⟩ ?_
 rcases bif_some h with ⟨hd2,h⟩ | ⟨hd2,h⟩
 ·refine Tri.f 2 [.g true] [.own 2 [] 1100 3,.swap 1100 1000,.keep [2] [1000]] rfl ⟨hd2,trivial⟩ ?_
  cases h
  exact Tri.ret rfl ⟨.inl rfl,rfl,rfl⟩
 ·refine Tri.f 3 [.g false] [.keep [0,3,9] [8]] rfl ⟨hd2,trivial⟩ ?_
  obtain ⟨v5,hk7,h⟩ := bind_some h
  refine Tri.loop (K1 := [.code [(3,0),(1,0),(0,0)] 0]) (K2 := [.blk 0,.code [] 4]) (fun (v2,v3) => ⟨[(0,.i a0),(3,.sl 8 0),(9,.i v2)],[(8,.arr 3 0 0 (.ints v3))]⟩) (fun x e σ' => match x with | v5 => e = .exit 0 ∧ σ' = ⟨[(3,.sl 8 0)],[(8,.arr 3 0 0 (.ints v5))]⟩) hk7 rfl rfl ?_ ?_
  ·intro s x hs
   clear h
   have h := hs
   clear hs
   obtain ⟨v2,v3⟩ := s
   refine Tri.f 1 [] [.keep [0,3,9,10] [8]] rfl trivial ?_
   rcases bif_some h with ⟨hd3,h⟩ | ⟨hd3,h⟩
   ·refine Tri.f 2 [.g true] [.keep [0,3,4,9] [8]] rfl ⟨hd3,trivial⟩ ?_
    obtain ⟨v4,hk4,h⟩ := bind_some h
    refine Tri.f 1 [.v (.bool v4)] [.keep [0,3,4,9,14] [8]] rfl ⟨fun _ => W22 a0 v2 v4 hk4,trivial⟩ ?_
    rcases bif_some h with ⟨hd5,h⟩ | ⟨hd5,h⟩
    ·obtain ⟨hg6,h⟩ := grd_some h
     refine Tri.f 3 [.g true] [.rever 8,.keep [0,3,9] [8]] rfl ⟨hg6,hd5,trivial⟩ ?_
     cases h
     exact Tri.nil ⟨rfl,rfl⟩
    ·refine Tri.f 2 [.g false] [.keep [0,3,9] [8]] rfl ⟨hd5,trivial⟩ ?_
     cases h
     exact Tri.nil ⟨rfl,rfl⟩
   ·refine Tri.f 1 [.g false] [.keep [3] [8]] rfl ⟨hd3,trivial⟩ ?_
    cases h
    exact Tri.out 0 rfl ⟨nofun,rfl,rfl⟩
  ·intro e σ' hne hq
   obtain ⟨rfl,rfl⟩ := hq
   refine TriX.exit (K' := [.code [] 4]) rfl ?_
   refine Tri.f 1 [] [.swap 8 1000,.keep [2] [1000]] rfl trivial ?_
   cases h
   exact Tri.ret rfl ⟨.inl rfl,rfl,rfl⟩
noncomputable def E455 : Env := ⟨Tryz.prog,tys,(Tryz.f203.body).getD .skip,43,tysOk,mixedOk⟩
abbrev K298 (r : Int × Int × Bool) (σ' : ASt) : Prop := isRes E455.T Tryz.f203 (.tuple [.agg [.i r.1,.i r.2.1],.bool r.2.2]) [] σ'
noncomputable def l_impl_ShareOf_0 (a0 : List Q) (v4 : List Int) : (Int × Int × Int) → Option ((Int × Int × Int) ⊕ ((Int × Int) ⊕ ((Int × Int × Bool))))
 | (v5,v6,v7) => (
bif decide (v5 < (v4.length : Int)) then
(grd (0 ≤ v5 ∧ v5 < (v4.length : Int)) <|
bif decide ((v4.getD v5.toNat 0) ≥ (a0.length : Int)) then
(some (.inr (.inr (0,0,false))))
else
(grd (0 ≤ v4.getD v5.toNat 0 ∧ v4.getD v5.toNat 0 < (a0.length : Int)) <|
(m_impl_AddRat v6 v7 ((a0.getD ((v4.getD v5.toNat 0).toNat) ⟨0,0⟩).num) ((a0.getD ((v4.getD v5.toNat 0).toNat) ⟨0,0⟩).den)).bind fun (v8,v9,v10) =>
bif !v10 then
(some (.inr (.inr (0,0,false))))
else
(some (.inl (IntKind.i64.wrap (v5 + 1),v8,v9)))))
else
(some (.inr (.inl (v6,v7)))))
noncomputable def m_impl_ShareOf (a0 : List Q) (a1 : Int) : Option (Int × Int × Bool) :=
(m_impl_within a1 (0 : Int) (31 : Int)).bind fun v1 =>
bif !v1 then
(some (0,0,false))
else
((m_impl_whole (0 : Int)).bind fun (v2,v3) =>
(m_impl_MembersOf a1).bind fun v4 =>
(iter (l_impl_ShareOf_0 a0 v4) ((0 : Int),v2,v3)).bind fun
| (.inl (v11,v12)) => (
some (v11,v12,true))
| (.inr r) => some r)
theorem W135 (a0 : List Q) (a1 : Int) (r : Int × Int × Bool) (h : m_impl_ShareOf a0 a1 = some r) : AM.Spec Tryz.prog 203 [.list (.rats a0),.i a1] [] (.tuple [.agg [.i r.1,.i r.2.1],.bool r.2.2]) [] := by
 refine spec_of (E := E455) Tryz.func203 rfl rfl rfl rfl ?_
 refine Tri.f 1 [] [.keep [0,1,4] [4]] rfl trivial ?_
 obtain ⟨v1,hk1,h⟩ := bind_some h
 refine Tri.f 1 [.v (.bool v1)] [.keep [0,1,4,13] [4]] rfl ⟨fun _ => W16 a1 (0 : Int) (31 : Int) v1 hk1,trivial⟩ ?_
 rcases bif_some h with ⟨hd2,h⟩ | ⟨hd2,h⟩
 ·refine Tri.f 2 [.g true] [.keep [4,5] [4]] rfl ⟨hd2,trivial⟩ ?_
  cases h
  exact Tri.ret rfl ⟨.inl rfl,rfl,rfl⟩
 ·obtain ⟨⟨v2,v3⟩,hk3,h⟩ := bind_some h
  refine Tri.f 2 [.g false,.v (.agg [.i v2,.i v3])] [.keep [0,1,4,6] [4,6]] rfl ⟨fun _ => W25 (0 : Int) (v2,v3) hk3,hd2,trivial⟩ ?_
  obtain ⟨v4,hk4,h⟩ := bind_some h
  refine Tri.f 1 [.r ⟨[],.sl 1100 0,[(1100,.arr 3 0 0 (.ints v4))]⟩] [.keep [0,4,6,17,18,19] [4,6,1100]] rfl ⟨fun _ => (W134 a1 v4 hk4).swap 1000 1100,trivial⟩ ?_
  obtain ⟨x1,hk11,h⟩ := bind_some h
  refine Tri.loop (K1 := [.code [(3,0),(1,0),(0,0)] 0]) (K2 := [.blk 0,.code [] 4]) (fun (v5,v6,v7) => ⟨[(0,.list (.rats a0)),(4,.ptr 4 0),(6,.ptr 6 0),(17,.sl 1100 0),(18,.i (v4.length : Int)),(19,.i v5)],[(4,.box [.i 0,.i 0]),(6,.box [.i v6,.i v7]),(1100,.arr 3 0 0 (.ints v4))]⟩) (fun x e σ' => match x with | (.inl (v11,v12)) => e = .exit 0 ∧ σ' = ⟨[(4,.ptr 4 0),(6,.ptr 6 0)],[(4,.box [.i 0,.i 0]),(6,.box [.i v11,.i v12])]⟩ | (.inr r) => e = .ret ∧ K298 r σ') hk11 rfl rfl ?_ ?_
  ·intro s x hs
   clear h
   have h := hs
   clear hs
   obtain ⟨v5,v6,v7⟩ := s
   refine Tri.f 1 [] [.keep [0,4,6,17,18,19,20] [4,6,1100]] rfl trivial ?_
   rcases bif_some h with ⟨hd5,h⟩ | ⟨hd5,h⟩
   ·obtain ⟨hg6,h⟩ := grd_some h
    refine Tri.f 3 [.g true] [.keep [0,4,6,8,17,18,19,26] [4,6,1100]] rfl ⟨hg6,hd5,trivial⟩ ?_
    rcases bif_some h with ⟨hd7,h⟩ | ⟨hd7,h⟩
    ·refine Tri.f 2 [.g true] [.keep [4,5] [4]] rfl ⟨hd7,trivial⟩ ?_
     cases h
     exact Tri.ret rfl ⟨nofun,rfl,rfl,rfl⟩
    ·obtain ⟨hg8,h⟩ := grd_some h
     obtain ⟨⟨v8,v9,v10⟩,hk9,h⟩ := bind_some h
     refine Tri.f 3 [.g false,.v (.tuple [.agg [.i v8,.i v9],.bool v10])] [.keep [0,4,6,9,17,18,19,38] [4,6,9,1100]] rfl ⟨fun _ => W53 v6 v7 ((a0.getD ((v4.getD v5.toNat 0).toNat) ⟨0,0⟩).num) ((a0.getD ((v4.getD v5.toNat 0).toNat) ⟨0,0⟩).den) (v8,v9,v10) hk9,hg8,hd7,trivial⟩ ?_
     rcases bif_some h with ⟨hd10,h⟩ | ⟨hd10,h⟩
     ·refine Tri.f 2 [.g true] [.keep [4,5] [4]] rfl ⟨hd10,trivial⟩ ?_
      cases h
      exact Tri.ret rfl ⟨nofun,rfl,rfl,rfl⟩
     ·refine Tri.f 3 [.g false] [.keep [0,4,6,17,18,19] [4,6,1100]] rfl ⟨hd10,trivial⟩ ?_
      cases h
      exact Tri.nil ⟨rfl,rfl⟩
   ·refine Tri.f 1 [.g false] [.keep [4,6] [4,6]] rfl ⟨hd5,trivial⟩ ?_
    cases h
    exact Tri.out 0 rfl ⟨nofun,rfl,rfl⟩
  ·intro e σ' hne hq
   rcases x1 with ⟨v11,v12⟩ | r
   ·obtain ⟨rfl,rfl⟩ := hq
    refine TriX.exit (K' := [.code [] 4]) rfl ?_
    refine Tri.f 1 [] [.keep [4,5] [4]] rfl trivial ?_
    cases h
    exact Tri.ret rfl ⟨.inl rfl,rfl,rfl⟩
   ·obtain ⟨rfl,hq⟩ := hq
    cases h
    exact TriX.ret ⟨.inl rfl,hq⟩
noncomputable def E456 : Env := ⟨Tryz.prog,tys,(Tryz.f196.body).getD .skip,39,tysOk,mixedOk⟩
abbrev K299 (r : Bool) (σ' : ASt) : Prop := isRes E456.T Tryz.f196 (.bool r) [] σ'
noncomputable def m_impl_IsPayoff (a0 : Int) (a1 : List Int) (a2 : List Q) : Option Bool :=
(m_impl_IsValidGame a0 a1).bind fun v1 =>
bif !v1 then
(some false)
else
(bif (a2.length : Int) != a0 then
(some false)
else
((m_impl_AllValid a2).bind fun v2 =>
bif !v2 then
(some false)
else
((m_impl_ShareOf a2 (IntKind.i64.wrap ((a1.length : Int) - 1))).bind fun (v3,v4,v5) =>
bif v5 then
((m_impl_GrandValue a0 a1).bind fun v6 =>
(m_impl_whole v6).bind fun (v7,v8) =>
some (v3 == v7 && v4 == v8))
else
(some false))))
theorem W136 (a0 : Int) (a1 : List Int) (a2 : List Q) (r : Bool) (h : m_impl_IsPayoff a0 a1 a2 = some r) : AM.Spec Tryz.prog 196 [.agg [.i a0,.list (.ints a1)],.list (.rats a2)] [] (.bool r) [] := by
 refine spec_of (E := E456) Tryz.func196 rfl rfl rfl rfl ?_
 refine Tri.f 1 [] [.keep [1,2] [2]] rfl trivial ?_
 obtain ⟨v1,hk1,h⟩ := bind_some h
 rcases bif_some h with ⟨hd2,h⟩ | ⟨hd2,h⟩
 ·refine Tri.f 1 [.v (.bool v1),.g true,.g true] [.keep [1,2,21] [2]] rfl ⟨rfl,hd2,fun _ => W20 a0 a1 v1 hk1,trivial⟩ ?_
  refine Tri.f 2 [.g true] [.keep [4] []] rfl ⟨rfl,trivial⟩ ?_
  cases h
  exact Tri.ret rfl ⟨.inl rfl,rfl,rfl⟩
 ·rcases bif_some h with ⟨hd3,h⟩ | ⟨hd3,h⟩
  ·refine Tri.f 1 [.v (.bool v1),.g false,.g true] [.keep [1,2,21] [2]] rfl ⟨hd3,hd2,fun _ => W20 a0 a1 v1 hk1,trivial⟩ ?_
   refine Tri.f 2 [.g true] [.keep [4] []] rfl ⟨rfl,trivial⟩ ?_
   cases h
   exact Tri.ret rfl ⟨.inl rfl,rfl,rfl⟩
  ·obtain ⟨v2,hk4,h⟩ := bind_some h
   refine Tri.f 1 [.v (.bool v1),.g false,.g false,.v (.bool v2)] [.keep [1,2,21] [2]] rfl ⟨fun _ => W33 a2 v2 hk4,hd3,hd2,fun _ => W20 a0 a1 v1 hk1,trivial⟩ ?_
   rcases bif_some h with ⟨hd5,h⟩ | ⟨hd5,h⟩
   ·refine Tri.f 2 [.g true] [.keep [4] []] rfl ⟨hd5,trivial⟩ ?_
    cases h
    exact Tri.ret rfl ⟨.inl rfl,rfl,rfl⟩
   ·obtain ⟨⟨v3,v4,v5⟩,hk6,h⟩ := bind_some h
    refine Tri.f 2 [.g false,.v (.tuple [.agg [.i v3,.i v4],.bool v5])] [.keep [2,5,6] [2,5]] rfl ⟨fun _ => W135 a2 (IntKind.i64.wrap ((a1.length : Int) - 1)) (v3,v4,v5) hk6,hd5,trivial⟩ ?_
    rcases bif_some h with ⟨hd7,h⟩ | ⟨hd7,h⟩
    ·obtain ⟨v6,hk8,h⟩ := bind_some h
     obtain ⟨⟨v7,v8⟩,hk9,h⟩ := bind_some h
     refine Tri.f 1 [.g true,.v (.i v6),.v (.agg [.i v7,.i v8])] [.keep [4] []] rfl ⟨fun _ => W25 v6 (v7,v8) hk9,fun _ => W79 a0 a1 v6 hk8,hd7,trivial⟩ ?_
     cases h
     exact Tri.ret rfl ⟨.inl rfl,rfl,rfl⟩
    ·refine Tri.f 1 [.g false] [.keep [4] []] rfl ⟨hd7,trivial⟩ ?_
     cases h
     exact Tri.ret rfl ⟨.inl rfl,rfl,rfl⟩
noncomputable def E457 : Env := ⟨Tryz.prog,tys,(Tryz.f197.body).getD .skip,42,tysOk,mixedOk⟩
abbrev K300 (r : Int × Int × Bool) (σ' : ASt) : Prop := isRes E457.T Tryz.f197 (.tuple [.agg [.i r.1,.i r.2.1],.bool r.2.2]) [] σ'
noncomputable def m_impl_ExcessOf (a0 : Int) (a1 : List Int) (a2 : List Q) (a3 : Int) : Option (Int × Int × Bool) :=
(m_impl_IsValidGame a0 a1).bind fun v1 =>
bif !v1 then
(some (0,0,false))
else
((m_impl_within a3 (0 : Int) (IntKind.i64.wrap ((a1.length : Int) - 1))).bind fun v2 =>
bif !v2 then
(some (0,0,false))
else
((m_impl_ShareOf a2 a3).bind fun (v3,v4,v5) =>
bif !v5 then
(some (0,0,false))
else
(grd (0 ≤ a3 ∧ a3 < (a1.length : Int)) <|
(m_impl_whole (a1.getD a3.toNat 0)).bind fun (v6,v7) =>
(m_impl_SubRat v6 v7 v3 v4).bind fun (v8,v9,v10) =>
some (v8,v9,v10))))
theorem W137 (a0 : Int) (a1 : List Int) (a2 : List Q) (a3 : Int) (r : Int × Int × Bool) (h : m_impl_ExcessOf a0 a1 a2 a3 = some r) : AM.Spec Tryz.prog 197 [.agg [.i a0,.list (.ints a1)],.list (.rats a2),.i a3] [] (.tuple [.agg [.i r.1,.i r.2.1],.bool r.2.2]) [] := by
 refine spec_of (E := E457) Tryz.func197 rfl rfl rfl rfl ?_
 refine Tri.f 1 [] [.keep [1,2,3,6] [3,6]] rfl trivial ?_
 obtain ⟨v1,hk1,h⟩ := bind_some h
 rcases bif_some h with ⟨hd2,h⟩ | ⟨hd2,h⟩
 ·refine Tri.f 1 [.v (.bool v1),.g true] [.keep [1,2,3,6,21] [3,6]] rfl ⟨hd2,fun _ => W20 a0 a1 v1 hk1,trivial⟩ ?_
  refine Tri.f 2 [.g true] [.keep [6,7] [6]] rfl ⟨rfl,trivial⟩ ?_
  cases h
  exact Tri.ret rfl ⟨.inl rfl,rfl,rfl⟩
 ·obtain ⟨v2,hk3,h⟩ := bind_some h
  refine Tri.f 1 [.v (.bool v1),.g false,.v (.bool v2)] [.keep [1,2,3,6,21] [3,6]] rfl ⟨fun _ => W16 a3 (0 : Int) (IntKind.i64.wrap ((a1.length : Int) - 1)) v2 hk3,hd2,fun _ => W20 a0 a1 v1 hk1,trivial⟩ ?_
  rcases bif_some h with ⟨hd4,h⟩ | ⟨hd4,h⟩
  ·refine Tri.f 2 [.g true] [.keep [6,7] [6]] rfl ⟨hd4,trivial⟩ ?_
   cases h
   exact Tri.ret rfl ⟨.inl rfl,rfl,rfl⟩
  ·obtain ⟨⟨v3,v4,v5⟩,hk5,h⟩ := bind_some h
   refine Tri.f 3 [.g false,.v (.tuple [.agg [.i v3,.i v4],.bool v5])] [.keep [2,3,6,8,30] [3,6,8]] rfl ⟨fun _ => W135 a2 a3 (v3,v4,v5) hk5,hd4,trivial⟩ ?_
   rcases bif_some h with ⟨hd6,h⟩ | ⟨hd6,h⟩
   ·refine Tri.f 2 [.g true] [.keep [6,7] [6]] rfl ⟨hd6,trivial⟩ ?_
    cases h
    exact Tri.ret rfl ⟨.inl rfl,rfl,rfl⟩
   ·obtain ⟨hg7,h⟩ := grd_some h
    obtain ⟨⟨v6,v7⟩,hk8,h⟩ := bind_some h
    obtain ⟨⟨v8,v9,v10⟩,hk9,h⟩ := bind_some h
    refine Tri.f 2 [.g false,.v (.agg [.i v6,.i v7]),.v (.tuple [.agg [.i v8,.i v9],.bool v10])] [.keep [6,7] [6]] rfl ⟨fun _ => W66 v6 v7 v3 v4 (v8,v9,v10) hk9,fun _ => W25 (a1.getD a3.toNat 0) (v6,v7) hk8,hg7,hd6,trivial⟩ ?_
    cases h
    exact Tri.ret rfl ⟨.inl rfl,rfl,rfl⟩
noncomputable def E458 : Env := ⟨Tryz.prog,tys,(Tryz.f175.body).getD .skip,39,tysOk,mixedOk⟩
abbrev K301 (r : Bool × (List Q)) (σ' : ASt) : Prop := isRes E458.T Tryz.f175 (.tuple [.sl 1000 0,.bool r.1]) [(1000,.arr 31 0 0 (.rats r.2))] σ'
noncomputable def l_impl_excesses_0 (a0 : Int) (a1 : List Int) (a2 : List Q) (a4 : Int) : (Int × (List Q)) → Option ((Int × (List Q)) ⊕ ((List Q) ⊕ ((Bool × (List Q)))))
 | (v2,v3) => (
bif decide (v2 ≤ a4) then
((m_impl_ExcessOf a0 a1 a2 v2).bind fun (v4,v5,v6) =>
bif !v6 then
(some (.inr (.inr (false,[]))))
else
(grd (v3.length + ([⟨v4,v5⟩] : List Q).length ≤ room) <|
some (.inl (IntKind.i64.wrap (v2 + 1),v3 ++ [⟨v4,v5⟩]))))
else
(some (.inr (.inl v3))))
noncomputable def m_impl_excesses (a0 : Int) (a1 : List Int) (a2 : List Q) (a3 a4 : Int) : Option (Bool × (List Q)) :=
(m_impl_IsPayoff a0 a1 a2).bind fun v1 =>
bif !v1 then
(some (false,[]))
else
((iter (l_impl_excesses_0 a0 a1 a2 a4) (a3,[])).bind fun
| (.inl v7) => (
some (true,v7))
| (.inr r) => some r)
theorem W138 (a0 : Int) (a1 : List Int) (a2 : List Q) (a3 a4 : Int) (r : Bool × (List Q)) (h : m_impl_excesses a0 a1 a2 a3 a4 = some r) : AM.Spec Tryz.prog 175 [.agg [.i a0,.list (.ints a1)],.list (.rats a2),.i a3,.i a4] [] (.tuple [.sl 1000 0,.bool r.1]) [(1000,.arr 31 0 0 (.rats r.2))] := by
 refine spec_of (E := E458) Tryz.func175 rfl rfl rfl rfl ?_
 refine Tri.f 1 [] [.keep [1,2,3,4] [4]] rfl trivial ?_
 obtain ⟨v1,hk1,h⟩ := bind_some h
 refine Tri.f 1 [.v (.bool v1)] [.keep [1,2,3,4,17] [4]] rfl ⟨fun _ => W136 a0 a1 a2 v1 hk1,trivial⟩ ?_
 rcases bif_some h with ⟨hd2,h⟩ | ⟨hd2,h⟩
 ·refine Tri.f 2 [.g true] [.own 8 [] 1100 31,.swap 1100 1000,.keep [8,9] [1000]] rfl ⟨hd2,trivial⟩ ?_
  cases h
  exact Tri.ret rfl ⟨.inl rfl,rfl,rfl⟩
 ·refine Tri.f 3 [.g false] [.keep [1,3,4,10,11] [4,18]] rfl ⟨hd2,trivial⟩ ?_
  obtain ⟨x1,hk7,h⟩ := bind_some h
  refine Tri.loop (K1 := [.code [(3,0),(1,0),(0,0)] 0]) (K2 := [.blk 0,.code [] 4]) (fun (v2,v3) => ⟨[(1,.list (.rats a2)),(3,.i a4),(4,.ptr 4 0),(10,.sl 18 0),(11,.i v2)],[(4,.box [.i a0,.list (.ints a1)]),(18,.arr 31 0 0 (.rats v3))]⟩) (fun x e σ' => match x with | (.inl v7) => e = .exit 0 ∧ σ' = ⟨[(10,.sl 18 0)],[(18,.arr 31 0 0 (.rats v7))]⟩ | (.inr r) => e = .ret ∧ K301 r σ') hk7 rfl rfl ?_ ?_
  ·intro s x hs
   clear h
   have h := hs
   clear hs
   obtain ⟨v2,v3⟩ := s
   refine Tri.f 1 [] [.keep [1,3,4,10,11,22] [4,18]] rfl trivial ?_
   rcases bif_some h with ⟨hd3,h⟩ | ⟨hd3,h⟩
   ·obtain ⟨⟨v4,v5,v6⟩,hk4,h⟩ := bind_some h
    refine Tri.f 3 [.g true,.v (.tuple [.agg [.i v4,.i v5],.bool v6])] [.keep [1,3,4,10,11,12,33] [4,12,18]] rfl ⟨fun _ => W137 a0 a1 a2 v2 (v4,v5,v6) hk4,hd3,trivial⟩ ?_
    rcases bif_some h with ⟨hd5,h⟩ | ⟨hd5,h⟩
    ·refine Tri.f 2 [.g true] [.own 8 [] 1101 31,.swap 1101 1000,.keep [8,9] [1000]] rfl ⟨hd5,trivial⟩ ?_
     cases h
     exact Tri.ret rfl ⟨nofun,rfl,rfl,rfl⟩
    ·obtain ⟨hg6,h⟩ := grd_some h
     refine Tri.f 3 [.g false] [.rever 18,.keep [1,3,4,10,11] [4,18]] rfl ⟨hg6,hd5,trivial⟩ ?_
     cases h
     exact Tri.nil ⟨rfl,rfl⟩
   ·refine Tri.f 1 [.g false] [.keep [10] [18]] rfl ⟨hd3,trivial⟩ ?_
    cases h
    exact Tri.out 0 rfl ⟨nofun,rfl,rfl⟩
  ·intro e σ' hne hq
   rcases x1 with v7 | r
   ·obtain ⟨rfl,rfl⟩ := hq
    refine TriX.exit (K' := [.code [] 4]) rfl ?_
    refine Tri.f 1 [] [.swap 18 1000,.keep [8,9] [1000]] rfl trivial ?_
    cases h
    exact Tri.ret rfl ⟨.inl rfl,rfl,rfl⟩
   ·obtain ⟨rfl,hq⟩ := hq
    cases h
    exact TriX.ret ⟨.inl rfl,hq⟩
noncomputable def E459 : Env := ⟨Tryz.prog,tys,(Tryz.f176.body).getD .skip,6,tysOk,mixedOk⟩
abbrev K302 (r : Bool) (σ' : ASt) : Prop := isRes E459.T Tryz.f176 (.bool r) [] σ'
noncomputable def m_impl_InCore_1 (a0 _a1 : Int) : Option Bool :=
some (decide (a0 > 0))
theorem W139 (a0 a1 : Int) (r : Bool) (h : m_impl_InCore_1 a0 a1 = some r) : AM.Spec Tryz.prog 176 [.agg [.i a0,.i a1]] [] (.bool r) [] := by
 refine spec_of (E := E459) Tryz.func176 rfl rfl rfl rfl ?_
 refine Tri.f 2 [] [.keep [2] []] rfl trivial ?_
 cases h
 exact Tri.ret rfl ⟨.inl rfl,rfl,rfl⟩
abbrev K303 (r : Int) (σ' : ASt) : Prop := isRes E357.T Tryz.f191 (.i r) [] σ'
noncomputable def l_slices_IndexFunc_impl_Rat_impl_Rat_impl_InCore_1_0 (a0 : List Q) (v1 : Int) : Option (Int ⊕ (Unit ⊕ Int)) :=
bif decide (v1 < (a0.length : Int)) then
(grd (0 ≤ v1 ∧ v1 < (a0.length : Int)) <|
(m_impl_InCore_1 ((a0.getD v1.toNat ⟨0,0⟩).num) ((a0.getD v1.toNat ⟨0,0⟩).den)).bind fun v2 =>
bif v2 then
(some (.inr (.inr v1)))
else
(some (.inl (IntKind.i64.wrap (v1 + 1)))))
else
(some (.inr (.inl ())))
noncomputable def m_slices_IndexFunc_impl_Rat_impl_Rat_impl_InCore_1 (a0 : List Q) : Option Int :=
(iter (l_slices_IndexFunc_impl_Rat_impl_Rat_impl_InCore_1_0 a0) (0 : Int)).bind fun
| (.inl _) => (
some (-1 : Int))
| (.inr r) => some r
theorem W140 (a0 : List Q) (r : Int) (h : m_slices_IndexFunc_impl_Rat_impl_Rat_impl_InCore_1 a0 = some r) : AM.Spec Tryz.prog 191 [.list (.rats a0),.func 176 [] []] [] (.i r) [] := by
 refine spec_of (E := E357) Tryz.func191 rfl rfl rfl rfl ?_
 refine Tri.f 2 [] [.keep [0,1,7,8] []] rfl trivial ?_
 obtain ⟨x1,hk5,h⟩ := bind_some h
 refine Tri.loop (K1 := [.code [(1,0),(1,0),(0,0)] 0]) (K2 := [.blk 0,.code [] 2]) (fun v1 => ⟨[(0,.list (.rats a0)),(1,.func 176 [] []),(7,.i (a0.length : Int)),(8,.i v1)],[]⟩) (fun x e σ' => match x with | (.inl _) => e = .exit 0 ∧ σ' = ⟨[],[]⟩ | (.inr r) => e = .ret ∧ K303 r σ') hk5 rfl rfl ?_ ?_
 ·intro v1 x hs
  clear h
  have h := hs
  clear hs
  refine Tri.f 1 [] [.keep [0,1,7,8,9] []] rfl trivial ?_
  rcases bif_some h with ⟨hd1,h⟩ | ⟨hd1,h⟩
  ·refine Tri.f 2 [.g true] [.keep [0,1,5,7,8] []] rfl ⟨hd1,trivial⟩ ?_
   obtain ⟨hg2,h⟩ := grd_some h
   obtain ⟨v2,hk3,h⟩ := bind_some h
   refine Tri.f 1 [.v (.bool v2)] [.keep [0,1,5,7,8,16] []] rfl ⟨fun _ => W139 ((a0.getD v1.toNat ⟨0,0⟩).num) ((a0.getD v1.toNat ⟨0,0⟩).den) v2 hk3,hg2,trivial⟩ ?_
   rcases bif_some h with ⟨hd4,h⟩ | ⟨hd4,h⟩
   ·refine Tri.f 2 [.g true] [.keep [4] []] rfl ⟨hd4,trivial⟩ ?_
    cases h
    exact Tri.ret rfl ⟨nofun,rfl,rfl,rfl⟩
   ·refine Tri.f 2 [.g false] [.keep [0,1,7,8] []] rfl ⟨hd4,trivial⟩ ?_
    cases h
    exact Tri.nil ⟨rfl,rfl⟩
  ·refine Tri.f 1 [.g false] [.keep [] []] rfl ⟨hd1,trivial⟩ ?_
   cases h
   exact Tri.out 0 rfl ⟨nofun,rfl,rfl⟩
 ·intro e σ' hne hq
  rcases x1 with _ | r
  ·obtain ⟨rfl,rfl⟩ := hq
   refine TriX.exit (K' := [.code [] 2]) rfl ?_
   refine Tri.f 1 [] [.keep [4] []] rfl trivial ?_
   cases h
   exact Tri.ret rfl ⟨.inl rfl,rfl,rfl⟩
  ·obtain ⟨rfl,hq⟩ := hq
   cases h
   exact TriX.ret ⟨.inl rfl,hq⟩
abbrev K304 (r : Bool) (σ' : ASt) : Prop := isRes E358.T Tryz.f155 (.bool r) [] σ'
noncomputable def m_slices_ContainsFunc_impl_Rat_impl_Rat_impl_InCore_1 (a0 : List Q) : Option Bool :=
(m_slices_IndexFunc_impl_Rat_impl_Rat_impl_InCore_1 a0).bind fun v1 =>
some (decide (v1 ≥ 0))
theorem W141 (a0 : List Q) (r : Bool) (h : m_slices_ContainsFunc_impl_Rat_impl_Rat_impl_InCore_1 a0 = some r) : AM.Spec Tryz.prog 155 [.list (.rats a0),.func 176 [] []] [] (.bool r) [] := by
 refine spec_of (E := E358) Tryz.func155 rfl rfl rfl rfl ?_
 refine Tri.f 1 [] [.keep [0,1] []] rfl trivial ?_
 obtain ⟨v1,hk1,h⟩ := bind_some h
 refine Tri.f 1 [.v (.i v1)] [.keep [4] []] rfl ⟨fun _ => W140 a0 v1 hk1,trivial⟩ ?_
 cases h
 exact Tri.ret rfl ⟨.inl rfl,rfl,rfl⟩
noncomputable def E460 : Env := ⟨Tryz.prog,tys,(Tryz.f114.body).getD .skip,23,tysOk,mixedOk⟩
abbrev K305 (r : Bool) (σ' : ASt) : Prop := isRes E460.T Tryz.f114 (.bool r) [] σ'
noncomputable def m_impl_InCore (a0 : Int) (a1 : List Int) (a2 : List Q) : Option Bool :=
(m_impl_excesses a0 a1 a2 (0 : Int) (IntKind.i64.wrap ((a1.length : Int) - 1))).bind fun (v1,v2) =>
bif v1 then
((m_slices_ContainsFunc_impl_Rat_impl_Rat_impl_InCore_1 v2).bind fun v3 =>
some (!v3))
else
(some false)
theorem W142 (a0 : Int) (a1 : List Int) (a2 : List Q) (r : Bool) (h : m_impl_InCore a0 a1 a2 = some r) : AM.Spec Tryz.prog 114 [.agg [.i a0,.list (.ints a1)],.list (.rats a2)] [] (.bool r) [] := by
 refine spec_of (E := E460) Tryz.func114 rfl rfl rfl rfl ?_
 refine Tri.f 1 [] [.keep [1,2] [2]] rfl trivial ?_
 obtain ⟨⟨v1,v2⟩,hk1,h⟩ := bind_some h
 rcases bif_some h with ⟨hd2,h⟩ | ⟨hd2,h⟩
 ·obtain ⟨v3,hk3,h⟩ := bind_some h
  refine Tri.f 2 [.r ⟨[],.tuple [.sl 1100 0,.bool v1],[(1100,.arr 31 0 0 (.rats v2))]⟩,.g true,.v (.bool v3)] [.keep [4] []] rfl ⟨fun _ => W141 v2 v3 hk3,hd2,fun _ => (W138 a0 a1 a2 (0 : Int) (IntKind.i64.wrap ((a1.length : Int) - 1)) (v1,v2) hk1).swap 1000 1100,trivial⟩ ?_
  cases h
  exact Tri.ret rfl ⟨.inl rfl,rfl,rfl⟩
 ·refine Tri.f 2 [.r ⟨[],.tuple [.sl 1100 0,.bool v1],[(1100,.arr 31 0 0 (.rats v2))]⟩,.g false] [.keep [4] []] rfl ⟨hd2,fun _ => (W138 a0 a1 a2 (0 : Int) (IntKind.i64.wrap ((a1.length : Int) - 1)) (v1,v2) hk1).swap 1000 1100,trivial⟩ ?_
  cases h
  exact Tri.ret rfl ⟨.inl rfl,rfl,rfl⟩
noncomputable def E461 : Env := ⟨Tryz.prog,tys,(Tryz.f127.body).getD .skip,8,tysOk,mixedOk⟩
abbrev K306 (r : Int) (σ' : ASt) : Prop := isRes E461.T Tryz.f127 (.i r) [] σ'
noncomputable def m_impl_CountCoalitions (a0 : Int) : Option Int :=
(m_impl_within a0 (0 : Int) (5 : Int)).bind fun v1 =>
bif !v1 then
(some (0 : Int))
else
(grd (0 ≤ a0) <|
some (IntKind.i64.wrap ((1 : Int) * 2 ^ (min a0.toNat 64))))
theorem W143 (a0 r : Int) (h : m_impl_CountCoalitions a0 = some r) : AM.Spec Tryz.prog 127 [.i a0] [] (.i r) [] := by
 refine spec_of (E := E461) Tryz.func127 rfl rfl rfl rfl ?_
 refine Tri.f 1 [] [.keep [0] []] rfl trivial ?_
 obtain ⟨v1,hk1,h⟩ := bind_some h
 refine Tri.f 1 [.v (.bool v1)] [.keep [0,5] []] rfl ⟨fun _ => W16 a0 (0 : Int) (5 : Int) v1 hk1,trivial⟩ ?_
 rcases bif_some h with ⟨hd2,h⟩ | ⟨hd2,h⟩
 ·refine Tri.f 2 [.g true] [.keep [2] []] rfl ⟨hd2,trivial⟩ ?_
  cases h
  exact Tri.ret rfl ⟨.inl rfl,rfl,rfl⟩
 ·obtain ⟨hg3,h⟩ := grd_some h
  refine Tri.f 2 [.g false] [.keep [2] []] rfl ⟨hg3,hd2,trivial⟩ ?_
  cases h
  exact Tri.ret rfl ⟨.inl rfl,rfl,rfl⟩
noncomputable def E462 : Env := ⟨Tryz.prog,tys,(Tryz.f36.body).getD .skip,46,tysOk,mixedOk⟩
abbrev K307 (r : Bool) (σ' : ASt) : Prop := isRes E462.T Tryz.f36 (.bool r) [] σ'
noncomputable def l_impl_IsBalancedCollection_0 (a1 : List Q) (v6 : List (List Int)) (v7 : Int) : Option (Int ⊕ (Unit ⊕ Bool)) :=
bif decide (v7 < (v6.length : Int)) then
(grd (0 ≤ v7 ∧ v7 < (v6.length : Int)) <|
(m_impl_rats (v6.getD v7.toNat [])).bind fun v8 =>
(m_impl_DotRat v8 a1).bind fun (v9,v10,v11) =>
bif !v11 then
(some (.inr (.inr false)))
else
((m_impl_whole (1 : Int)).bind fun (v12,v13) =>
bif !(v9 == v12 && v10 == v13) then
(some (.inr (.inr false)))
else
(some (.inl (IntKind.i64.wrap (v7 + 1))))))
else
(some (.inr (.inl ())))
noncomputable def m_impl_IsBalancedCollection (a0 : Int) (a1 : List Q) : Option Bool :=
(m_impl_within a0 (1 : Int) (5 : Int)).bind fun v1 =>
bif !v1 then
(some false)
else
((m_impl_CountCoalitions a0).bind fun v2 =>
(m_impl_notNegative a1 (IntKind.i64.wrap (v2 - 1))).bind fun v3 =>
bif !v3 then
(some false)
else
((m_impl_CountCoalitions a0).bind fun v4 =>
(m_impl_coalitions (1 : Int) (IntKind.i64.wrap (v4 - 1))).bind fun v5 =>
(m_impl_members a0 v5).bind fun v6 =>
(iter (l_impl_IsBalancedCollection_0 a1 v6) (0 : Int)).bind fun
| (.inl _) => (
some true)
| (.inr r) => some r))
theorem W144 (a0 : Int) (a1 : List Q) (r : Bool) (h : m_impl_IsBalancedCollection a0 a1 = some r) : AM.Spec Tryz.prog 36 [.i a0,.list (.rats a1)] [] (.bool r) [] := by
 refine spec_of (E := E462) Tryz.func36 rfl rfl rfl rfl ?_
 refine Tri.f 1 [] [.keep [0,1] []] rfl trivial ?_
 obtain ⟨v1,hk1,h⟩ := bind_some h
 rcases bif_some h with ⟨hd2,h⟩ | ⟨hd2,h⟩
 ·refine Tri.f 1 [.v (.bool v1),.g true] [.keep [0,1,19] []] rfl ⟨hd2,fun _ => W16 a0 (1 : Int) (5 : Int) v1 hk1,trivial⟩ ?_
  refine Tri.f 2 [.g true] [.keep [4] []] rfl ⟨rfl,trivial⟩ ?_
  cases h
  exact Tri.ret rfl ⟨.inl rfl,rfl,rfl⟩
 ·obtain ⟨v2,hk3,h⟩ := bind_some h
  obtain ⟨v3,hk4,h⟩ := bind_some h
  refine Tri.f 1 [.v (.bool v1),.g false,.v (.i v2),.v (.bool v3)] [.keep [0,1,19] []] rfl ⟨fun _ => W72 a1 (IntKind.i64.wrap (v2 - 1)) v3 hk4,fun _ => W143 a0 v2 hk3,hd2,fun _ => W16 a0 (1 : Int) (5 : Int) v1 hk1,trivial⟩ ?_
  rcases bif_some h with ⟨hd5,h⟩ | ⟨hd5,h⟩
  ·refine Tri.f 2 [.g true] [.keep [4] []] rfl ⟨hd5,trivial⟩ ?_
   cases h
   exact Tri.ret rfl ⟨.inl rfl,rfl,rfl⟩
  ·obtain ⟨v4,hk6,h⟩ := bind_some h
   obtain ⟨v5,hk7,h⟩ := bind_some h
   obtain ⟨v6,hk8,h⟩ := bind_some h
   refine Tri.f 2 [.g false,.v (.i v4),.r ⟨[],.sl 1100 0,[(1100,.arr 3 0 0 (.ints v5))]⟩,.r ⟨[],.sl 1101 0,[(1101,.arr 25 0 0 (.intss v6))]⟩] [.keep [1,25,26,27] [1101]] rfl ⟨fun _ => (W23 a0 v5 v6 hk8).swap 1000 1101,fun _ => (W21 (1 : Int) (IntKind.i64.wrap (v4 - 1)) v5 hk7).swap 1000 1100,fun _ => W143 a0 v4 hk6,hd5,trivial⟩ ?_
   obtain ⟨x1,hk16,h⟩ := bind_some h
   refine Tri.loop (K1 := [.code [(2,0),(1,0),(0,0)] 0]) (K2 := [.blk 0,.code [] 3]) (fun v7 => ⟨[(1,.list (.rats a1)),(25,.sl 1101 0),(26,.i (v6.length : Int)),(27,.i v7)],[(1101,.arr 25 0 0 (.intss v6))]⟩) (fun x e σ' => match x with | (.inl _) => e = .exit 0 ∧ σ' = ⟨[],[]⟩ | (.inr r) => e = .ret ∧ K307 r σ') hk16 rfl rfl ?_ ?_
   ·intro v7 x hs
    clear h
    have h := hs
    clear hs
    refine Tri.f 1 [] [.keep [1,25,26,27,28] [1101]] rfl trivial ?_
    rcases bif_some h with ⟨hd9,h⟩ | ⟨hd9,h⟩
    ·obtain ⟨hg10,h⟩ := grd_some h
     refine Tri.f 2 [.g true] [.keep [1,6,25,26,27] [1101]] rfl ⟨hg10,hd9,trivial⟩ ?_
     obtain ⟨v8,hk11,h⟩ := bind_some h
     obtain ⟨⟨v9,v10,v11⟩,hk12,h⟩ := bind_some h
     rcases bif_some h with ⟨hd13,h⟩ | ⟨hd13,h⟩
     ·refine Tri.f 2 [.r ⟨[],.sl 1102 0,[(1102,.arr 31 0 0 (.rats v8))]⟩,.v (.tuple [.agg [.i v9,.i v10],.bool v11]),.g true] [.keep [1,25,26,27,44] [1101]] rfl ⟨hd13,fun _ => W73 v8 a1 (v9,v10,v11) hk12,fun _ => (W40 (v6.getD v7.toNat []) v8 hk11).swap 1000 1102,trivial⟩ ?_
      refine Tri.f 2 [.g true] [.keep [4] []] rfl ⟨rfl,trivial⟩ ?_
      cases h
      exact Tri.ret rfl ⟨nofun,rfl,rfl,rfl⟩
     ·obtain ⟨⟨v12,v13⟩,hk14,h⟩ := bind_some h
      refine Tri.f 2 [.r ⟨[],.sl 1102 0,[(1102,.arr 31 0 0 (.rats v8))]⟩,.v (.tuple [.agg [.i v9,.i v10],.bool v11]),.g false,.v (.agg [.i v12,.i v13])] [.keep [1,25,26,27,44] [1101]] rfl ⟨fun _ => W25 (1 : Int) (v12,v13) hk14,hd13,fun _ => W73 v8 a1 (v9,v10,v11) hk12,fun _ => (W40 (v6.getD v7.toNat []) v8 hk11).swap 1000 1102,trivial⟩ ?_
      rcases bif_some h with ⟨hd15,h⟩ | ⟨hd15,h⟩
      ·refine Tri.f 2 [.g true] [.keep [4] []] rfl ⟨hd15,trivial⟩ ?_
       cases h
       exact Tri.ret rfl ⟨nofun,rfl,rfl,rfl⟩
      ·refine Tri.f 2 [.g false] [.keep [1,25,26,27] [1101]] rfl ⟨hd15,trivial⟩ ?_
       cases h
       exact Tri.nil ⟨rfl,rfl⟩
    ·refine Tri.f 1 [.g false] [.keep [] []] rfl ⟨hd9,trivial⟩ ?_
     cases h
     exact Tri.out 0 rfl ⟨nofun,rfl,rfl⟩
   ·intro e σ' hne hq
    rcases x1 with _ | r
    ·obtain ⟨rfl,rfl⟩ := hq
     refine TriX.exit (K' := [.code [] 3]) rfl ?_
     refine Tri.f 1 [] [.keep [4] []] rfl trivial ?_
     cases h
     exact Tri.ret rfl ⟨.inl rfl,rfl,rfl⟩
    ·obtain ⟨rfl,hq⟩ := hq
     cases h
     exact TriX.ret ⟨.inl rfl,hq⟩
noncomputable def E463 : Env := ⟨Tryz.prog,tys,(Tryz.f29.body).getD .skip,45,tysOk,mixedOk⟩
abbrev K308 (r : Bool) (σ' : ASt) : Prop := isRes E463.T Tryz.f29 (.bool r) [] σ'
noncomputable def m_impl_CheckCore (a0 : Int) (a1 : List Int) (a2 : Int) (a3 a4 : List Q) : Option Bool :=
(m_impl_IsValidGame a0 a1).bind fun v1 =>
bif !v1 then
(some false)
else
(bif a2 == 1 then
((m_impl_InCore a0 a1 a3).bind fun v2 =>
some v2)
else
(bif a2 == 2 then
((m_impl_IsBalancedCollection a0 a4).bind fun v3 =>
bif !v3 then
(some false)
else
(grd ((0 : Int) ≤ (1 : Int) ∧ (1 : Int) ≤ (a1.length : Int)) <|
(m_impl_rats (a1.drop (1 : Int).toNat)).bind fun v4 =>
(m_impl_DotRat a4 v4).bind fun (v5,v6,v7) =>
bif v7 then
((m_impl_GrandValue a0 a1).bind fun v8 =>
(m_impl_whole v8).bind fun (v9,v10) =>
(m_impl_CompareRat v5 v6 v9 v10).bind fun v11 =>
some (decide (v11 > 0)))
else
(some false)))
else
(some false)))
theorem W145 (a0 : Int) (a1 : List Int) (a2 : Int) (a3 a4 : List Q) (r : Bool) (h : m_impl_CheckCore a0 a1 a2 a3 a4 = some r) : AM.Spec Tryz.prog 29 [.agg [.i a0,.list (.ints a1)],.agg [.i a2,.list (.rats a3),.list (.rats a4)]] [] (.bool r) [] := by
 refine spec_of (E := E463) Tryz.func29 rfl rfl rfl rfl ?_
 refine Tri.f 1 [] [.keep [2,3] [2,3]] rfl trivial ?_
 obtain ⟨v1,hk1,h⟩ := bind_some h
 refine Tri.f 1 [.v (.bool v1)] [.keep [2,3,9] [2,3]] rfl ⟨fun _ => W20 a0 a1 v1 hk1,trivial⟩ ?_
 rcases bif_some h with ⟨hd2,h⟩ | ⟨hd2,h⟩
 ·refine Tri.f 2 [.g true] [.keep [4] []] rfl ⟨hd2,trivial⟩ ?_
  cases h
  exact Tri.ret rfl ⟨.inl rfl,rfl,rfl⟩
 ·refine Tri.f 3 [.g false] [.keep [2,3,11,12] [2,3]] rfl ⟨hd2,trivial⟩ ?_
  rcases bif_some h with ⟨hd3,h⟩ | ⟨hd3,h⟩
  ·obtain ⟨v2,hk4,h⟩ := bind_some h
   refine Tri.f 2 [.g true,.v (.bool v2)] [.keep [4] []] rfl ⟨fun _ => W142 a0 a1 a3 v2 hk4,hd3,trivial⟩ ?_
   cases h
   exact Tri.ret rfl ⟨.inl rfl,rfl,rfl⟩
  ·refine Tri.f 2 [.g false] [.keep [2,3,18] [2,3]] rfl ⟨hd3,trivial⟩ ?_
   rcases bif_some h with ⟨hd5,h⟩ | ⟨hd5,h⟩
   ·obtain ⟨v3,hk6,h⟩ := bind_some h
    refine Tri.f 2 [.g true,.v (.bool v3)] [.keep [2,3,25] [2,3]] rfl ⟨fun _ => W144 a0 a4 v3 hk6,hd5,trivial⟩ ?_
    rcases bif_some h with ⟨hd7,h⟩ | ⟨hd7,h⟩
    ·refine Tri.f 2 [.g true] [.keep [4] []] rfl ⟨hd7,trivial⟩ ?_
     cases h
     exact Tri.ret rfl ⟨.inl rfl,rfl,rfl⟩
    ·obtain ⟨hg8,h⟩ := grd_some h
     obtain ⟨v4,hk9,h⟩ := bind_some h
     obtain ⟨⟨v5,v6,v7⟩,hk10,h⟩ := bind_some h
     refine Tri.f 2 [.g false,.r ⟨[],.sl 1100 0,[(1100,.arr 31 0 0 (.rats v4))]⟩,.v (.tuple [.agg [.i v5,.i v6],.bool v7])] [.keep [2,5,6] [2,5]] rfl ⟨fun _ => W73 a4 v4 (v5,v6,v7) hk10,fun _ => (W40 (a1.drop (1 : Int).toNat) v4 hk9).swap 1000 1100,hg8,hd7,trivial⟩ ?_
     rcases bif_some h with ⟨hd11,h⟩ | ⟨hd11,h⟩
     ·obtain ⟨v8,hk12,h⟩ := bind_some h
      obtain ⟨⟨v9,v10⟩,hk13,h⟩ := bind_some h
      obtain ⟨v11,hk14,h⟩ := bind_some h
      refine Tri.f 1 [.g true,.v (.i v8),.v (.agg [.i v9,.i v10]),.v (.i v11)] [.keep [4] []] rfl ⟨fun _ => W56 v5 v6 v9 v10 v11 hk14,fun _ => W25 v8 (v9,v10) hk13,fun _ => W79 a0 a1 v8 hk12,hd11,trivial⟩ ?_
      cases h
      exact Tri.ret rfl ⟨.inl rfl,rfl,rfl⟩
     ·refine Tri.f 1 [.g false] [.keep [4] []] rfl ⟨hd11,trivial⟩ ?_
      cases h
      exact Tri.ret rfl ⟨.inl rfl,rfl,rfl⟩
   ·refine Tri.f 2 [.g false] [.keep [4] []] rfl ⟨hd5,trivial⟩ ?_
    cases h
    exact Tri.ret rfl ⟨.inl rfl,rfl,rfl⟩
abbrev K309 (r : (List UInt8) × Int × Int × (List Int) × (List Q) × (List Q) × Int × Int) (σ' : ASt) : Prop := isRes E328.T Tryz.f63 (.ptr 1000 0) [(1000,.box [.list (.bytes r.1),.i r.2.1,.i r.2.2.1]),(1001,.arr 3 0 0 (.ints r.2.2.2.1)),(1002,.arr 31 0 0 (.rats r.2.2.2.2.1)),(1003,.arr 31 0 0 (.rats r.2.2.2.2.2.1)),(2000,.box [.i r.2.2.2.2.2.2.1,.sl 1001 0]),(2002,.box [.i r.2.2.2.2.2.2.2,.sl 1002 0,.sl 1003 0])] σ'
noncomputable def l_spec_l1New_io5_0 (a5 : List UInt8) : (Int × Int) → Option ((Int × Int) ⊕ Int)
 | (v1,v2) => (
bif decide (v2 < (a5.length : Int)) then
(bif decide (v2 < 4000) then
(grd (0 ≤ v2 ∧ v2 < (a5.length : Int)) <|
some (.inl (bitsOf .and .i64 (IntKind.i64.wrap ((IntKind.i64.wrap ((IntKind.i64.wrap (v1 * 131)) + (IntKind.i64.wrap (((a5.getD v2.toNat 0).toNat : Int))))) + 7)) (1073741823 : Int),IntKind.i64.wrap (v2 + 1))))
else
(some (.inr v1)))
else
(some (.inr v1)))
noncomputable def m_spec_l1New_io5 (a0 : Int) (a1 : List Int) (a2 : Int) (a3 a4 : List Q) (a5 : List UInt8) : Option ((List UInt8) × Int × Int × (List Int) × (List Q) × (List Q) × Int × Int) :=
(iter (l_spec_l1New_io5_0 a5) (IntKind.i64.wrap ((26583 : Int) + (a5.length : Int)),(0 : Int))).bind fun
| v3 => (
some (a5,0,v3,a1,a3,a4,a0,a2))
theorem W146 (a0 : Int) (a1 : List Int) (a2 : Int) (a3 a4 : List Q) (a5 : List UInt8) (r : (List UInt8) × Int × Int × (List Int) × (List Q) × (List Q) × Int × Int) (h : m_spec_l1New_io5 a0 a1 a2 a3 a4 a5 = some r) : AM.Spec Tryz.prog 63 [.list (.bytes a5)] [(2000,.box [.i a0,.sl 2001 0]),(2001,.arr 3 0 0 (.ints a1)),(2002,.box [.i a2,.sl 2003 0,.sl 2004 0]),(2003,.arr 31 0 0 (.rats a3)),(2004,.arr 31 0 0 (.rats a4))] (.ptr 1000 0) [(1000,.box [.list (.bytes r.1),.i r.2.1,.i r.2.2.1]),(1001,.arr 3 0 0 (.ints r.2.2.2.1)),(1002,.arr 31 0 0 (.rats r.2.2.2.2.1)),(1003,.arr 31 0 0 (.rats r.2.2.2.2.2.1)),(2000,.box [.i r.2.2.2.2.2.2.1,.sl 1001 0]),(2002,.box [.i r.2.2.2.2.2.2.2,.sl 1002 0,.sl 1003 0])] := by
 refine spec_of (E := E328) Tryz.func63 rfl rfl rfl rfl ?_
 refine Tri.f 3 [] [.swap 2001 1100,.swap 2003 1101,.swap 2004 1102,.keep [0,3,4] [1100,1101,1102,2000,2002]] rfl trivial ?_
 obtain ⟨v3,hk4,h⟩ := bind_some h
 refine Tri.loop (K1 := [.code [(2,0),(1,0),(0,0)] 0]) (K2 := [.blk 0,.code [] 3]) (fun (v1,v2) => ⟨[(0,.list (.bytes a5)),(3,.i v1),(4,.i v2)],[(1100,.arr 3 0 0 (.ints a1)),(1101,.arr 31 0 0 (.rats a3)),(1102,.arr 31 0 0 (.rats a4)),(2000,.box [.i a0,.sl 1100 0]),(2002,.box [.i a2,.sl 1101 0,.sl 1102 0])]⟩) (fun x e σ' => match x with | v3 => e = .exit 0 ∧ σ' = ⟨[(0,.list (.bytes a5)),(3,.i v3)],[(1100,.arr 3 0 0 (.ints a1)),(1101,.arr 31 0 0 (.rats a3)),(1102,.arr 31 0 0 (.rats a4)),(2000,.box [.i a0,.sl 1100 0]),(2002,.box [.i a2,.sl 1101 0,.sl 1102 0])]⟩) hk4 rfl rfl ?_ ?_
 ·intro s x hs
  clear h
  have h := hs
  clear hs
  obtain ⟨v1,v2⟩ := s
  rcases bif_some h with ⟨hd1,h⟩ | ⟨hd1,h⟩
  ·refine Tri.f 1 [.g true] [.keep [0,3,4,15] [1100,1101,1102,2000,2002]] rfl ⟨hd1,trivial⟩ ?_
   rcases bif_some h with ⟨hd2,h⟩ | ⟨hd2,h⟩
   ·obtain ⟨hg3,h⟩ := grd_some h
    refine Tri.f 3 [.g true] [.keep [0,3,4] [1100,1101,1102,2000,2002]] rfl ⟨hg3,hd2,trivial⟩ ?_
    cases h
    exact Tri.nil ⟨rfl,rfl⟩
   ·refine Tri.f 1 [.g false] [.keep [0,3] [1100,1101,1102,2000,2002]] rfl ⟨hd2,trivial⟩ ?_
    cases h
    exact Tri.out 0 rfl ⟨nofun,rfl,rfl⟩
  ·refine Tri.f 1 [.g false] [.keep [0,3,4,15] [1100,1101,1102,2000,2002]] rfl ⟨hd1,trivial⟩ ?_
   refine Tri.f 1 [.g false] [.keep [0,3] [1100,1101,1102,2000,2002]] rfl ⟨rfl,trivial⟩ ?_
   cases h
   exact Tri.out 0 rfl ⟨nofun,rfl,rfl⟩
 ·intro e σ' hne hq
  obtain ⟨rfl,rfl⟩ := hq
  refine TriX.exit (K' := [.code [] 3]) rfl ?_
  refine Tri.f 1 [] [.swap 31 1000,.swap 1100 1001,.swap 1101 1002,.swap 1102 1003,.keep [2] [1000,1001,1002,1003,2000,2002]] rfl trivial ?_
  cases h
  exact Tri.ret rfl ⟨.inl rfl,rfl,rfl⟩
noncomputable def E464 : Env := ⟨Tryz.prog,tys,(Tryz.f126.body).getD .skip,9,tysOk,mixedOk⟩
abbrev K310 (u0 : Value) (a0 : List UInt8) (r : Bool × Int × Int) (σ' : ASt) : Prop := isRes E464.T Tryz.f126 (.bool r.1) [(2300,.box [.lst u0 (.bytes a0),.i r.2.1,.i r.2.2])] σ'
noncomputable def m_spec_l1Once_io1 (a0 : List UInt8) (a1 a2 a3 : Int) : Option (Bool × Int × Int) :=
(m_spec_l1Below_io1 a0 a1 a2 a3).bind fun (v1,v2,v3) =>
some (v1 == 0,v2,v3)
theorem W147 (u0 : Value) (a0 : List UInt8) (a1 a2 a3 : Int) (r : Bool × Int × Int) (h : m_spec_l1Once_io1 a0 a1 a2 a3 = some r) : AM.Spec Tryz.prog 126 [.ptr 2300 0,.i a3] [(2300,.box [.lst u0 (.bytes a0),.i a1,.i a2])] (.bool r.1) [(2300,.box [.lst u0 (.bytes a0),.i r.2.1,.i r.2.2])] := by
 refine spec_of (E := E464) Tryz.func126 rfl rfl rfl rfl ?_
 refine Tri.f 1 [] [.keep [0,1] [2300]] rfl trivial ?_
 obtain ⟨⟨v1,v2,v3⟩,hk1,h⟩ := bind_some h
 refine Tri.f 1 [.r ⟨[2300],.i v1,[(2300,.box [.undf,.i v2,.i v3])]⟩] [.keep [4] [2300]] rfl ⟨(fun vf => ((W4 (vf 2300 0) a0 a1 a2 a3 (v1,v2,v3) hk1).swap 2060 2300)),trivial⟩ ?_
 cases h
 exact Tri.ret rfl ⟨.inl rfl,rfl,rfl⟩
noncomputable def E465 : Env := ⟨Tryz.prog,tys,(Tryz.f122.body).getD .skip,25,tysOk,mixedOk⟩
abbrev K311 (u0 : Value) (a0 : List UInt8) (r : Int × Int × Int × Int) (σ' : ASt) : Prop := isRes E465.T Tryz.f122 (.agg [.i r.1,.i r.2.1]) [(2280,.box [.lst u0 (.bytes a0),.i r.2.2.1,.i r.2.2.2])] σ'
noncomputable def m_spec_l3Draw_io1 (a0 : List UInt8) (a1 a2 : Int) : Option (Int × Int × Int × Int) :=
(m_spec_l1PickInt_io1 a0 a1 a2 [(0 : Int),(1 : Int),(2 : Int),(-1 : Int),(3 : Int),(-7 : Int),(12 : Int),(999999999 : Int),(-1000000000 : Int)]).bind fun (v1,v2,v3) =>
(m_spec_l1PickInt_io1 a0 v2 v3 [(1 : Int),(1 : Int),(2 : Int),(3 : Int),(7 : Int),(1000000000 : Int),(999999937 : Int)]).bind fun (v4,v5,v6) =>
(m_spec_RatOf v1 v4).bind fun (v7,v8,_) =>
(m_spec_l1Once_io1 a0 v5 v6 (12 : Int)).bind fun (v10,v11,v12) =>
bif v10 then
((m_spec_l1PickInt_io1 a0 v11 v12 [(0 : Int),(2 : Int),(1000000001 : Int)]).bind fun (v13,v14,v15) =>
(m_spec_l1PickInt_io1 a0 v14 v15 [(0 : Int),(2 : Int),(-1 : Int),(1 : Int)]).bind fun (v16,v17,v18) =>
some (v13,v16,v17,v18))
else
(some (v7,v8,v11,v12))
theorem W148 (u0 : Value) (a0 : List UInt8) (a1 a2 : Int) (r : Int × Int × Int × Int) (h : m_spec_l3Draw_io1 a0 a1 a2 = some r) : AM.Spec Tryz.prog 122 [.ptr 2280 0] [(2280,.box [.lst u0 (.bytes a0),.i a1,.i a2])] (.agg [.i r.1,.i r.2.1]) [(2280,.box [.lst u0 (.bytes a0),.i r.2.2.1,.i r.2.2.2])] := by
 refine spec_of (E := E465) Tryz.func122 rfl rfl rfl rfl ?_
 refine Tri.f 1 [] [.keep [0,2] [2,2280]] rfl trivial ?_
 obtain ⟨⟨v1,v2,v3⟩,hk1,h⟩ := bind_some h
 obtain ⟨⟨v4,v5,v6⟩,hk2,h⟩ := bind_some h
 obtain ⟨⟨v7,v8,v9⟩,hk3,h⟩ := bind_some h
 obtain ⟨⟨v10,v11,v12⟩,hk4,h⟩ := bind_some h
 refine Tri.f 2 [.r ⟨[2280],.i v1,[(2280,.box [.undf,.i v2,.i v3])]⟩,.r ⟨[2280],.i v4,[(2280,.box [.undf,.i v5,.i v6])]⟩,.v (.tuple [.agg [.i v7,.i v8],.bool v9]),.r ⟨[2280],.bool v10,[(2280,.box [.undf,.i v11,.i v12])]⟩] [.keep [0,2,3,16] [2,3,2280]] rfl ⟨(fun vf => ((W147 (vf 2280 0) a0 v5 v6 (12 : Int) (v10,v11,v12) hk4).swap 2300 2280)),fun _ => W94 v1 v4 (v7,v8,v9) hk3,(fun vf => ((W10 (vf 2280 0) a0 v2 v3 [(1 : Int),(1 : Int),(2 : Int),(3 : Int),(7 : Int),(1000000000 : Int),(999999937 : Int)] (v4,v5,v6) hk2).swap 2100 2280)),(fun vf => ((W10 (vf 2280 0) a0 a1 a2 [(0 : Int),(1 : Int),(2 : Int),(-1 : Int),(3 : Int),(-7 : Int),(12 : Int),(999999999 : Int),(-1000000000 : Int)] (v1,v2,v3) hk1).swap 2100 2280)),trivial⟩ ?_
 rcases bif_some h with ⟨hd5,h⟩ | ⟨hd5,h⟩
 ·obtain ⟨⟨v13,v14,v15⟩,hk6,h⟩ := bind_some h
  obtain ⟨⟨v16,v17,v18⟩,hk7,h⟩ := bind_some h
  refine Tri.f 2 [.g true,.r ⟨[2280],.i v13,[(2280,.box [.undf,.i v14,.i v15])]⟩,.r ⟨[2280],.i v16,[(2280,.box [.undf,.i v17,.i v18])]⟩] [.keep [2] [2,2280]] rfl ⟨(fun vf => ((W10 (vf 2280 0) a0 v14 v15 [(0 : Int),(2 : Int),(-1 : Int),(1 : Int)] (v16,v17,v18) hk7).swap 2100 2280)),(fun vf => ((W10 (vf 2280 0) a0 v11 v12 [(0 : Int),(2 : Int),(1000000001 : Int)] (v13,v14,v15) hk6).swap 2100 2280)),hd5,trivial⟩ ?_
  cases h
  exact Tri.ret rfl ⟨.inl rfl,rfl,rfl⟩
 ·refine Tri.f 2 [.g false] [.keep [2] [2,2280]] rfl ⟨hd5,trivial⟩ ?_
  cases h
  exact Tri.ret rfl ⟨.inl rfl,rfl,rfl⟩
noncomputable def E466 : Env := ⟨Tryz.prog,tys,(Tryz.f32.body).getD .skip,51,tysOk,mixedOk⟩
abbrev K312 (r : Int × Int × (List Int) × (List Q) × (List Q)) (σ' : ASt) : Prop := isRes E466.T Tryz.f32 (.tuple [.agg [.i r.1,.sl 1000 0],.agg [.i r.2.1,.sl 1001 0,.sl 1002 0]]) [(1000,.arr 3 0 0 (.ints r.2.2.1)),(1001,.arr 31 0 0 (.rats r.2.2.2.1)),(1002,.arr 31 0 0 (.rats r.2.2.2.2))] σ'
noncomputable def m_spec_DrawCheckCore (a0 : List UInt8) : Option (Int × Int × (List Int) × (List Q) × (List Q)) :=
(m_spec_l1New_io5 0 [] 0 [] [] a0).bind fun (v1,v2,v3,_,_,_,_,_) =>
(m_spec_l8Bent_io1 v1 v2 v3).bind fun (v9,v10,v11,v12) =>
(m_spec_FindCore v9 v10).bind fun (v13,v14,v15) =>
(m_spec_l1Below_io1 v1 v11 v12 (8 : Int)).bind fun (v16,v17,v18) =>
bif v16 == 0 then
((m_spec_l1Below_io1 v1 v17 v18 (5 : Int)).bind fun (v19,_,_) =>
some (v9,v19,v10,v14,v15))
else
(bif v16 == 1 then
(bif decide ((v14.length : Int) > 0) then
(grd ((0 : Int) ≤ (0 : Int) ∧ (0 : Int) < (v14.length : Int)) <|
(m_spec_l3Int (1 : Int)).bind fun (v22,v23) =>
(m_spec_AddRat ((v14.getD ((0 : Int).toNat) ⟨0,0⟩).num) ((v14.getD ((0 : Int).toNat) ⟨0,0⟩).den) v22 v23).bind fun (v24,v25,_) =>
grd ((0 : Int) ≤ (0 : Int) ∧ (0 : Int) < (v14.length : Int)) <|
some (v9,v13,v10,v14.set ((0 : Int).toNat) ⟨v24,v25⟩,v15))
else
(some (v9,v13,v10,v14,v15)))
else
(bif v16 == 2 then
(bif decide ((v15.length : Int) > 0) then
((m_spec_l3Draw_io1 v1 v17 v18).bind fun (v27,v28,_,_) =>
grd ((0 : Int) ≤ (0 : Int) ∧ (0 : Int) < (v15.length : Int)) <|
some (v9,v13,v10,v14,v15.set ((0 : Int).toNat) ⟨v27,v28⟩))
else
(some (v9,v13,v10,v14,v15)))
else
(some (v9,v13,v10,v14,v15))))
theorem W149 (a0 : List UInt8) (r : Int × Int × (List Int) × (List Q) × (List Q)) (h : m_spec_DrawCheckCore a0 = some r) : AM.Spec Tryz.prog 32 [.list (.bytes a0)] [] (.tuple [.agg [.i r.1,.sl 1000 0],.agg [.i r.2.1,.sl 1001 0,.sl 1002 0]]) [(1000,.arr 3 0 0 (.ints r.2.2.1)),(1001,.arr 31 0 0 (.rats r.2.2.2.1)),(1002,.arr 31 0 0 (.rats r.2.2.2.2))] := by
 refine spec_of (E := E466) Tryz.func32 rfl rfl rfl rfl ?_
 refine Tri.f 1 [] [.keep [0,2,3] [2,3],.ownc 2 1 1100 3,.ownc 3 1 1101 31,.ownc 3 2 1102 31,.keep [0,2,3] [2,3,1100,1101,1102]] rfl trivial ?_
 obtain ⟨⟨v1,v2,v3,v4,v5,v6,v7,v8⟩,hk1,h⟩ := bind_some h
 obtain ⟨⟨v9,v10,v11,v12⟩,hk2,h⟩ := bind_some h
 refine Tri.f 2 [.r ⟨[2,1100,3,1101,1102],.ptr 1103 0,[(1103,.box [.list (.bytes v1),.i v2,.i v3]),(1104,.arr 3 0 0 (.ints v4)),(1105,.arr 31 0 0 (.rats v5)),(1106,.arr 31 0 0 (.rats v6)),(2,.box [.i v7,.sl 1104 0]),(3,.box [.i v8,.sl 1105 0,.sl 1106 0])]⟩,.r ⟨[1103],.agg [.i v9,.sl 1107 0],[(1107,.arr 3 0 0 (.ints v10)),(1103,.box [.undf,.i v11,.i v12])]⟩] [.keep [2,3,4,5] [2,3,5,1103,1104,1105,1106,1107]] rfl ⟨(fun vf => (((W14 (vf 1103 0) v1 v2 v3 (v9,v10,v11,v12) hk2).swap 1000 1107).swap 2020 1103)),fun _ => (((((((((W146 0 [] 0 [] [] a0 (v1,v2,v3,v4,v5,v6,v7,v8) hk1).swap 1000 1103).swap 1001 1104).swap 1002 1105).swap 1003 1106).swap 2000 2).swap 2001 1100).swap 2002 3).swap 2003 1101).swap 2004 1102,trivial⟩ ?_
 obtain ⟨⟨v13,v14,v15⟩,hk3,h⟩ := bind_some h
 obtain ⟨⟨v16,v17,v18⟩,hk4,h⟩ := bind_some h
 refine Tri.f 3 [.r ⟨[],.agg [.i v13,.sl 1108 0,.sl 1109 0],[(1108,.arr 31 0 0 (.rats v14)),(1109,.arr 31 0 0 (.rats v15))]⟩,.r ⟨[1103],.i v16,[(1103,.box [.undf,.i v17,.i v18])]⟩] [.keep [2,3,4,5,6,14,15] [2,3,5,6,1103,1104,1105,1106,1107,1108,1109]] rfl ⟨(fun vf => ((W4 (vf 1103 0) v1 v11 v12 (8 : Int) (v16,v17,v18) hk4).swap 2060 1103)),fun _ => ((W129 v9 v10 (v13,v14,v15) hk3).swap 1000 1108).swap 1001 1109,trivial⟩ ?_
 rcases bif_some h with ⟨hd5,h⟩ | ⟨hd5,h⟩
 ·obtain ⟨⟨v19,v20,v21⟩,hk6,h⟩ := bind_some h
  refine Tri.f 3 [.g true,.r ⟨[1103],.i v19,[(1103,.box [.undf,.i v20,.i v21])]⟩] [.swap 1107 1000,.swap 1108 1001,.swap 1109 1002,.keep [2,3] [2,3,1000,1001,1002]] rfl ⟨(fun vf => ((W4 (vf 1103 0) v1 v17 v18 (5 : Int) (v19,v20,v21) hk6).swap 2060 1103)),hd5,trivial⟩ ?_
  cases h
  exact Tri.ret rfl ⟨.inl rfl,rfl,rfl⟩
 ·refine Tri.f 2 [.g false] [.keep [2,3,4,5,6,14,20] [2,3,5,6,1103,1104,1105,1106,1107,1108,1109]] rfl ⟨hd5,trivial⟩ ?_
  rcases bif_some h with ⟨hd7,h⟩ | ⟨hd7,h⟩
  ·refine Tri.f 2 [.g true] [.keep [2,3,5,6,25] [2,3,5,6,1104,1105,1106,1107,1108,1109]] rfl ⟨hd7,trivial⟩ ?_
   rcases bif_some h with ⟨hd8,h⟩ | ⟨hd8,h⟩
   ·obtain ⟨hg9,h⟩ := grd_some h
    obtain ⟨⟨v22,v23⟩,hk10,h⟩ := bind_some h
    obtain ⟨⟨v24,v25,v26⟩,hk11,h⟩ := bind_some h
    obtain ⟨hg12,h⟩ := grd_some h
    refine Tri.f 3 [.g true,.v (.agg [.i v22,.i v23]),.v (.tuple [.agg [.i v24,.i v25],.bool v26])] [.swap 1107 1000,.swap 1108 1001,.swap 1109 1002,.keep [2,3] [2,3,1000,1001,1002]] rfl ⟨hg12,fun _ => W96 ((v14.getD ((0 : Int).toNat) ⟨0,0⟩).num) ((v14.getD ((0 : Int).toNat) ⟨0,0⟩).den) v22 v23 (v24,v25,v26) hk11,fun _ => W83 (1 : Int) (v22,v23) hk10,hg9,hd8,trivial⟩ ?_
    cases h
    exact Tri.ret rfl ⟨.inl rfl,rfl,rfl⟩
   ·refine Tri.f 2 [.g false] [.swap 1107 1000,.swap 1108 1001,.swap 1109 1002,.keep [2,3] [2,3,1000,1001,1002]] rfl ⟨hd8,trivial⟩ ?_
    cases h
    exact Tri.ret rfl ⟨.inl rfl,rfl,rfl⟩
  ·refine Tri.f 2 [.g false] [.keep [2,3,4,5,6,38] [2,3,5,6,1103,1104,1105,1106,1107,1108,1109]] rfl ⟨hd7,trivial⟩ ?_
   rcases bif_some h with ⟨hd13,h⟩ | ⟨hd13,h⟩
   ·refine Tri.f 2 [.g true] [.keep [2,3,4,5,6,43] [2,3,5,6,1103,1104,1105,1106,1107,1108,1109]] rfl ⟨hd13,trivial⟩ ?_
    rcases bif_some h with ⟨hd14,h⟩ | ⟨hd14,h⟩
    ·obtain ⟨⟨v27,v28,v29,v30⟩,hk15,h⟩ := bind_some h
     obtain ⟨hg16,h⟩ := grd_some h
     refine Tri.f 3 [.g true,.r ⟨[1103],.agg [.i v27,.i v28],[(1103,.box [.undf,.i v29,.i v30])]⟩] [.swap 1107 1000,.swap 1108 1001,.swap 1109 1002,.keep [2,3] [2,3,1000,1001,1002]] rfl ⟨hg16,(fun vf => ((W148 (vf 1103 0) v1 v17 v18 (v27,v28,v29,v30) hk15).swap 2280 1103)),hd14,trivial⟩ ?_
     cases h
     exact Tri.ret rfl ⟨.inl rfl,rfl,rfl⟩
    ·refine Tri.f 2 [.g false] [.swap 1107 1000,.swap 1108 1001,.swap 1109 1002,.keep [2,3] [2,3,1000,1001,1002]] rfl ⟨hd14,trivial⟩ ?_
     cases h
     exact Tri.ret rfl ⟨.inl rfl,rfl,rfl⟩
   ·refine Tri.f 2 [.g false] [.swap 1107 1000,.swap 1108 1001,.swap 1109 1002,.keep [2,3] [2,3,1000,1001,1002]] rfl ⟨hd13,trivial⟩ ?_
    cases h
    exact Tri.ret rfl ⟨.inl rfl,rfl,rfl⟩
noncomputable def E467 : Env := ⟨Tryz.prog,tys,(Tryz.f124.body).getD .skip,26,tysOk,mixedOk⟩
abbrev K313 (r : Bool) (σ' : ASt) : Prop := isRes E467.T Tryz.f124 (.bool r) [] σ'
noncomputable def l_laws_sameInts_0 (a0 a1 : List Int) (v1 : Int) : Option (Int ⊕ (Unit ⊕ Bool)) :=
bif decide (v1 < (a0.length : Int)) then
(grd (0 ≤ v1 ∧ v1 < (a0.length : Int)) <|
grd (0 ≤ v1 ∧ v1 < (a1.length : Int)) <|
bif (a0.getD v1.toNat 0) != (a1.getD v1.toNat 0) then
(some (.inr (.inr false)))
else
(some (.inl (IntKind.i64.wrap (v1 + 1)))))
else
(some (.inr (.inl ())))
noncomputable def m_laws_sameInts (a0 a1 : List Int) : Option Bool :=
bif (a0.length : Int) != (a1.length : Int) then
(some false)
else
((iter (l_laws_sameInts_0 a0 a1) (0 : Int)).bind fun
| (.inl _) => (
some true)
| (.inr r) => some r)
theorem W150 (a0 a1 : List Int) (r : Bool) (h : m_laws_sameInts a0 a1 = some r) : AM.Spec Tryz.prog 124 [.list (.ints a0),.list (.ints a1)] [] (.bool r) [] := by
 refine spec_of (E := E467) Tryz.func124 rfl rfl rfl rfl ?_
 refine Tri.f 2 [] [.keep [0,1,10] []] rfl trivial ?_
 rcases bif_some h with ⟨hd1,h⟩ | ⟨hd1,h⟩
 ·refine Tri.f 2 [.g true] [.keep [4] []] rfl ⟨hd1,trivial⟩ ?_
  cases h
  exact Tri.ret rfl ⟨.inl rfl,rfl,rfl⟩
 ·refine Tri.f 2 [.g false] [.keep [0,1,5] []] rfl ⟨hd1,trivial⟩ ?_
  obtain ⟨x1,hk6,h⟩ := bind_some h
  refine Tri.loop (K1 := [.code [(2,0),(1,0),(0,0)] 0]) (K2 := [.blk 0,.code [] 3]) (fun v1 => ⟨[(0,.list (.ints a0)),(1,.list (.ints a1)),(5,.i v1)],[]⟩) (fun x e σ' => match x with | (.inl _) => e = .exit 0 ∧ σ' = ⟨[],[]⟩ | (.inr r) => e = .ret ∧ K313 r σ') hk6 rfl rfl ?_ ?_
  ·intro v1 x hs
   clear h
   have h := hs
   clear hs
   refine Tri.f 1 [] [.keep [0,1,5,14] []] rfl trivial ?_
   rcases bif_some h with ⟨hd2,h⟩ | ⟨hd2,h⟩
   ·obtain ⟨hg3,h⟩ := grd_some h
    obtain ⟨hg4,h⟩ := grd_some h
    refine Tri.f 2 [.g true] [.keep [0,1,5,25] []] rfl ⟨hg4,hg3,hd2,trivial⟩ ?_
    rcases bif_some h with ⟨hd5,h⟩ | ⟨hd5,h⟩
    ·refine Tri.f 2 [.g true] [.keep [4] []] rfl ⟨hd5,trivial⟩ ?_
     cases h
     exact Tri.ret rfl ⟨nofun,rfl,rfl,rfl⟩
    ·refine Tri.f 2 [.g false] [.keep [0,1,5] []] rfl ⟨hd5,trivial⟩ ?_
     cases h
     exact Tri.nil ⟨rfl,rfl⟩
   ·refine Tri.f 1 [.g false] [.keep [] []] rfl ⟨hd2,trivial⟩ ?_
    cases h
    exact Tri.out 0 rfl ⟨nofun,rfl,rfl⟩
  ·intro e σ' hne hq
   rcases x1 with _ | r
   ·obtain ⟨rfl,rfl⟩ := hq
    refine TriX.exit (K' := [.code [] 3]) rfl ?_
    refine Tri.f 1 [] [.keep [4] []] rfl trivial ?_
    cases h
    exact Tri.ret rfl ⟨.inl rfl,rfl,rfl⟩
   ·obtain ⟨rfl,hq⟩ := hq
    cases h
    exact TriX.ret ⟨.inl rfl,hq⟩
noncomputable def E468 : Env := ⟨Tryz.prog,tys,(Tryz.f123.body).getD .skip,27,tysOk,mixedOk⟩
abbrev K314 (r : Bool) (σ' : ASt) : Prop := isRes E468.T Tryz.f123 (.bool r) [] σ'
noncomputable def l_laws_sameLists_0 (a0 a1 : List (List Int)) (v1 : Int) : Option (Int ⊕ (Unit ⊕ Bool)) :=
bif decide (v1 < (a0.length : Int)) then
(grd (0 ≤ v1 ∧ v1 < (a0.length : Int)) <|
grd (0 ≤ v1 ∧ v1 < (a1.length : Int)) <|
(m_laws_sameInts (a0.getD v1.toNat []) (a1.getD v1.toNat [])).bind fun v2 =>
bif !v2 then
(some (.inr (.inr false)))
else
(some (.inl (IntKind.i64.wrap (v1 + 1)))))
else
(some (.inr (.inl ())))
noncomputable def m_laws_sameLists (a0 a1 : List (List Int)) : Option Bool :=
bif (a0.length : Int) != (a1.length : Int) then
(some false)
else
((iter (l_laws_sameLists_0 a0 a1) (0 : Int)).bind fun
| (.inl _) => (
some true)
| (.inr r) => some r)
theorem W151 (a0 a1 : List (List Int)) (r : Bool) (h : m_laws_sameLists a0 a1 = some r) : AM.Spec Tryz.prog 123 [.list (.intss a0),.list (.intss a1)] [] (.bool r) [] := by
 refine spec_of (E := E468) Tryz.func123 rfl rfl rfl rfl ?_
 refine Tri.f 2 [] [.keep [0,1,10] []] rfl trivial ?_
 rcases bif_some h with ⟨hd1,h⟩ | ⟨hd1,h⟩
 ·refine Tri.f 2 [.g true] [.keep [4] []] rfl ⟨hd1,trivial⟩ ?_
  cases h
  exact Tri.ret rfl ⟨.inl rfl,rfl,rfl⟩
 ·refine Tri.f 2 [.g false] [.keep [0,1,5] []] rfl ⟨hd1,trivial⟩ ?_
  obtain ⟨x1,hk7,h⟩ := bind_some h
  refine Tri.loop (K1 := [.code [(2,0),(1,0),(0,0)] 0]) (K2 := [.blk 0,.code [] 3]) (fun v1 => ⟨[(0,.list (.intss a0)),(1,.list (.intss a1)),(5,.i v1)],[]⟩) (fun x e σ' => match x with | (.inl _) => e = .exit 0 ∧ σ' = ⟨[],[]⟩ | (.inr r) => e = .ret ∧ K314 r σ') hk7 rfl rfl ?_ ?_
  ·intro v1 x hs
   clear h
   have h := hs
   clear hs
   refine Tri.f 1 [] [.keep [0,1,5,14] []] rfl trivial ?_
   rcases bif_some h with ⟨hd2,h⟩ | ⟨hd2,h⟩
   ·obtain ⟨hg3,h⟩ := grd_some h
    obtain ⟨hg4,h⟩ := grd_some h
    obtain ⟨v2,hk5,h⟩ := bind_some h
    refine Tri.f 2 [.g true,.v (.bool v2)] [.keep [0,1,5,26] []] rfl ⟨fun _ => W150 (a0.getD v1.toNat []) (a1.getD v1.toNat []) v2 hk5,hg4,hg3,hd2,trivial⟩ ?_
    rcases bif_some h with ⟨hd6,h⟩ | ⟨hd6,h⟩
    ·refine Tri.f 2 [.g true] [.keep [4] []] rfl ⟨hd6,trivial⟩ ?_
     cases h
     exact Tri.ret rfl ⟨nofun,rfl,rfl,rfl⟩
    ·refine Tri.f 2 [.g false] [.keep [0,1,5] []] rfl ⟨hd6,trivial⟩ ?_
     cases h
     exact Tri.nil ⟨rfl,rfl⟩
   ·refine Tri.f 1 [.g false] [.keep [] []] rfl ⟨hd2,trivial⟩ ?_
    cases h
    exact Tri.out 0 rfl ⟨nofun,rfl,rfl⟩
  ·intro e σ' hne hq
   rcases x1 with _ | r
   ·obtain ⟨rfl,rfl⟩ := hq
    refine TriX.exit (K' := [.code [] 3]) rfl ?_
    refine Tri.f 1 [] [.keep [4] []] rfl trivial ?_
    cases h
    exact Tri.ret rfl ⟨.inl rfl,rfl,rfl⟩
   ·obtain ⟨rfl,hq⟩ := hq
    cases h
    exact TriX.ret ⟨.inl rfl,hq⟩
noncomputable def E469 : Env := ⟨Tryz.prog,tys,(Tryz.f33.body).getD .skip,24,tysOk,mixedOk⟩
abbrev K315 (r : Bool) (σ' : ASt) : Prop := isRes E469.T Tryz.f33 (.bool r) [] σ'
noncomputable def m_laws_sameLP (a0 : List (List Int)) (a1 : List Int) (a2 : List Q) (a3 : List (List Int)) (a4 : List Int) (a5 : List Q) : Option Bool :=
(m_laws_sameLists a0 a3).bind fun v1 =>
bif v1 then
((m_laws_sameInts a1 a4).bind fun v2 =>
bif v2 then
((m_spec_EqualVector a2 a5).bind fun v3 =>
some v3)
else
(some false))
else
(some false)
theorem W152 (a0 : List (List Int)) (a1 : List Int) (a2 : List Q) (a3 : List (List Int)) (a4 : List Int) (a5 : List Q) (r : Bool) (h : m_laws_sameLP a0 a1 a2 a3 a4 a5 = some r) : AM.Spec Tryz.prog 33 [.agg [.list (.intss a0),.list (.ints a1),.list (.rats a2)],.agg [.list (.intss a3),.list (.ints a4),.list (.rats a5)]] [] (.bool r) [] := by
 refine spec_of (E := E469) Tryz.func33 rfl rfl rfl rfl ?_
 refine Tri.f 1 [] [.keep [2,3] [2,3]] rfl trivial ?_
 obtain ⟨v1,hk1,h⟩ := bind_some h
 rcases bif_some h with ⟨hd2,h⟩ | ⟨hd2,h⟩
 ·obtain ⟨v2,hk3,h⟩ := bind_some h
  rcases bif_some h with ⟨hd4,h⟩ | ⟨hd4,h⟩
  ·obtain ⟨v3,hk5,h⟩ := bind_some h
   refine Tri.f 1 [.v (.bool v1),.g true,.v (.bool v2),.g true,.v (.bool v3)] [.keep [4] []] rfl ⟨fun _ => W130 a2 a5 v3 hk5,hd4,fun _ => W150 a1 a4 v2 hk3,hd2,fun _ => W151 a0 a3 v1 hk1,trivial⟩ ?_
   cases h
   exact Tri.ret rfl ⟨.inl rfl,rfl,rfl⟩
  ·refine Tri.f 1 [.v (.bool v1),.g true,.v (.bool v2),.g false] [.keep [4] []] rfl ⟨hd4,fun _ => W150 a1 a4 v2 hk3,hd2,fun _ => W151 a0 a3 v1 hk1,trivial⟩ ?_
   cases h
   exact Tri.ret rfl ⟨.inl rfl,rfl,rfl⟩
 ·refine Tri.f 1 [.v (.bool v1),.g false,.g false] [.keep [4] []] rfl ⟨rfl,hd2,fun _ => W151 a0 a3 v1 hk1,trivial⟩ ?_
  cases h
  exact Tri.ret rfl ⟨.inl rfl,rfl,rfl⟩
noncomputable def E470 : Env := ⟨Tryz.prog,tys,(Tryz.f207.body).getD .skip,5,tysOk,mixedOk⟩
abbrev K316 (r : Bool) (σ' : ASt) : Prop := isRes E470.T Tryz.f207 (.bool r) [] σ'
noncomputable def m_spec_l2Good (a0 : Int) : Option Bool :=
(m_spec_l1In a0 (0 : Int) (31 : Int)).bind fun v1 =>
some v1
theorem W153 (a0 : Int) (r : Bool) (h : m_spec_l2Good a0 = some r) : AM.Spec Tryz.prog 207 [.i a0] [] (.bool r) [] := by
 refine spec_of (E := E470) Tryz.func207 rfl rfl rfl rfl ?_
 refine Tri.f 1 [] [.keep [0] []] rfl trivial ?_
 obtain ⟨v1,hk1,h⟩ := bind_some h
 refine Tri.f 1 [.v (.bool v1)] [.keep [2] []] rfl ⟨fun _ => W5 a0 (0 : Int) (31 : Int) v1 hk1,trivial⟩ ?_
 cases h
 exact Tri.ret rfl ⟨.inl rfl,rfl,rfl⟩
noncomputable def E471 : Env := ⟨Tryz.prog,tys,(Tryz.f204.body).getD .skip,22,tysOk,mixedOk⟩
abbrev K317 (r : List Int) (σ' : ASt) : Prop := isRes E471.T Tryz.f204 (.sl 1000 0) [(1000,.arr 3 0 0 (.ints r))] σ'
noncomputable def l_spec_MembersOf_0 (a0 : Int) : (Int × (List Int)) → Option ((Int × (List Int)) ⊕ ((List Int)))
 | (v1,v2) => (
bif decide (v1 < 5) then
((m_spec_l2Good a0).bind fun v3 =>
bif v3 then
((m_spec_HasPlayer a0 v1).bind fun v4 =>
bif v4 then
(grd (v2.length + ([v1] : List Int).length ≤ room) <|
some (.inl (IntKind.i64.wrap (v1 + 1),v2 ++ [v1])))
else
(some (.inl (IntKind.i64.wrap (v1 + 1),v2))))
else
(some (.inr v2)))
else
(some (.inr v2)))
noncomputable def m_spec_MembersOf (a0 : Int) : Option (List Int) :=
(iter (l_spec_MembersOf_0 a0) ((0 : Int),[])).bind fun
| v5 => (
some v5)
theorem W154 (a0 : Int) (r : List Int) (h : m_spec_MembersOf a0 = some r) : AM.Spec Tryz.prog 204 [.i a0] [] (.sl 1000 0) [(1000,.arr 3 0 0 (.ints r))] := by
 refine spec_of (E := E471) Tryz.func204 rfl rfl rfl rfl ?_
 refine Tri.f 3 [] [.keep [0,3,4] [5]] rfl trivial ?_
 obtain ⟨v5,hk7,h⟩ := bind_some h
 refine Tri.loop (K1 := [.code [(2,0),(1,0),(0,0)] 0]) (K2 := [.blk 0,.code [] 3]) (fun (v1,v2) => ⟨[(0,.i a0),(3,.sl 5 0),(4,.i v1)],[(5,.arr 3 0 0 (.ints v2))]⟩) (fun x e σ' => match x with | v5 => e = .exit 0 ∧ σ' = ⟨[(3,.sl 5 0)],[(5,.arr 3 0 0 (.ints v5))]⟩) hk7 rfl rfl ?_ ?_
 ·intro s x hs
  clear h
  have h := hs
  clear hs
  obtain ⟨v1,v2⟩ := s
  rcases bif_some h with ⟨hd1,h⟩ | ⟨hd1,h⟩
  ·obtain ⟨v3,hk2,h⟩ := bind_some h
   refine Tri.f 1 [.g true,.v (.bool v3)] [.keep [0,3,4,11] [5]] rfl ⟨fun _ => W153 a0 v3 hk2,hd1,trivial⟩ ?_
   rcases bif_some h with ⟨hd3,h⟩ | ⟨hd3,h⟩
   ·obtain ⟨v4,hk4,h⟩ := bind_some h
    refine Tri.f 2 [.g true,.v (.bool v4)] [.keep [0,3,4,16] [5]] rfl ⟨fun _ => W8 a0 v1 v4 hk4,hd3,trivial⟩ ?_
    rcases bif_some h with ⟨hd5,h⟩ | ⟨hd5,h⟩
    ·obtain ⟨hg6,h⟩ := grd_some h
     refine Tri.f 3 [.g true] [.rever 5,.keep [0,3,4] [5]] rfl ⟨hg6,hd5,trivial⟩ ?_
     cases h
     exact Tri.nil ⟨rfl,rfl⟩
    ·refine Tri.f 2 [.g false] [.keep [0,3,4] [5]] rfl ⟨hd5,trivial⟩ ?_
     cases h
     exact Tri.nil ⟨rfl,rfl⟩
   ·refine Tri.f 1 [.g false] [.keep [3] [5]] rfl ⟨hd3,trivial⟩ ?_
    cases h
    exact Tri.out 0 rfl ⟨nofun,rfl,rfl⟩
  ·refine Tri.f 1 [.g false] [.keep [0,3,4,11] [5]] rfl ⟨hd1,trivial⟩ ?_
   refine Tri.f 1 [.g false] [.keep [3] [5]] rfl ⟨rfl,trivial⟩ ?_
   cases h
   exact Tri.out 0 rfl ⟨nofun,rfl,rfl⟩
 ·intro e σ' hne hq
  obtain ⟨rfl,rfl⟩ := hq
  refine TriX.exit (K' := [.code [] 3]) rfl ?_
  refine Tri.f 1 [] [.swap 5 1000,.keep [2] [1000]] rfl trivial ?_
  cases h
  exact Tri.ret rfl ⟨.inl rfl,rfl,rfl⟩
noncomputable def E472 : Env := ⟨Tryz.prog,tys,(Tryz.f199.body).getD .skip,52,tysOk,mixedOk⟩
abbrev K318 (r : Int × Int × Bool) (σ' : ASt) : Prop := isRes E472.T Tryz.f199 (.tuple [.agg [.i r.1,.i r.2.1],.bool r.2.2]) [] σ'
noncomputable def l_spec_ShareOf_0 (a0 : List Q) (v3 : List Int) : (Int × Int × Int) → Option ((Int × Int × Int) ⊕ ((Int × Int) ⊕ ((Int × Int × Bool))))
 | (v4,v5,v6) => (
bif decide (v4 < (v3.length : Int)) then
(grd (0 ≤ v4 ∧ v4 < (v3.length : Int)) <|
bif decide ((v3.getD v4.toNat 0) ≥ (a0.length : Int)) then
(some (.inr (.inr (0,0,false))))
else
(grd (0 ≤ v4 ∧ v4 < (v3.length : Int)) <|
grd (0 ≤ v3.getD v4.toNat 0 ∧ v3.getD v4.toNat 0 < (a0.length : Int)) <|
(m_spec_AddRat v5 v6 ((a0.getD ((v3.getD v4.toNat 0).toNat) ⟨0,0⟩).num) ((a0.getD ((v3.getD v4.toNat 0).toNat) ⟨0,0⟩).den)).bind fun (v7,v8,v9) =>
bif !v9 then
(some (.inr (.inr (0,0,false))))
else
(some (.inl (IntKind.i64.wrap (v4 + 1),v7,v8)))))
else
(some (.inr (.inl (v5,v6)))))
noncomputable def m_spec_ShareOf (a0 : List Q) (a1 : Int) : Option (Int × Int × Bool) :=
(m_spec_l3Int (0 : Int)).bind fun (v1,v2) =>
bif decide (a1 < 0) then
(some (0,0,false))
else
(bif decide (a1 > 31) then
(some (0,0,false))
else
((m_spec_MembersOf a1).bind fun v3 =>
(iter (l_spec_ShareOf_0 a0 v3) ((0 : Int),v1,v2)).bind fun
| (.inl (v10,v11)) => (
some (v10,v11,true))
| (.inr r) => some r))
theorem W155 (a0 : List Q) (a1 : Int) (r : Int × Int × Bool) (h : m_spec_ShareOf a0 a1 = some r) : AM.Spec Tryz.prog 199 [.list (.rats a0),.i a1] [] (.tuple [.agg [.i r.1,.i r.2.1],.bool r.2.2]) [] := by
 refine spec_of (E := E472) Tryz.func199 rfl rfl rfl rfl ?_
 refine Tri.f 1 [] [.keep [0,1,4] [4]] rfl trivial ?_
 obtain ⟨⟨v1,v2⟩,hk1,h⟩ := bind_some h
 rcases bif_some h with ⟨hd2,h⟩ | ⟨hd2,h⟩
 ·refine Tri.f 2 [.v (.agg [.i v1,.i v2]),.g true] [.keep [0,1,4,6,17] [4,6]] rfl ⟨hd2,fun _ => W83 (0 : Int) (v1,v2) hk1,trivial⟩ ?_
  refine Tri.f 2 [.g true] [.keep [4,5] [4]] rfl ⟨rfl,trivial⟩ ?_
  cases h
  exact Tri.ret rfl ⟨.inl rfl,rfl,rfl⟩
 ·refine Tri.f 2 [.v (.agg [.i v1,.i v2]),.g false] [.keep [0,1,4,6,17] [4,6]] rfl ⟨hd2,fun _ => W83 (0 : Int) (v1,v2) hk1,trivial⟩ ?_
  rcases bif_some h with ⟨hd3,h⟩ | ⟨hd3,h⟩
  ·refine Tri.f 2 [.g true] [.keep [4,5] [4]] rfl ⟨hd3,trivial⟩ ?_
   cases h
   exact Tri.ret rfl ⟨.inl rfl,rfl,rfl⟩
  ·obtain ⟨v3,hk4,h⟩ := bind_some h
   refine Tri.f 3 [.g false,.r ⟨[],.sl 1100 0,[(1100,.arr 3 0 0 (.ints v3))]⟩] [.keep [0,4,6,7,8] [4,6,1100]] rfl ⟨fun _ => (W154 a1 v3 hk4).swap 1000 1100,hd3,trivial⟩ ?_
   obtain ⟨x1,hk12,h⟩ := bind_some h
   refine Tri.loop (K1 := [.code [(4,0),(1,0),(0,0)] 0]) (K2 := [.blk 0,.code [] 5]) (fun (v4,v5,v6) => ⟨[(0,.list (.rats a0)),(4,.ptr 4 0),(6,.ptr 6 0),(7,.sl 1100 0),(8,.i v4)],[(4,.box [.i 0,.i 0]),(6,.box [.i v5,.i v6]),(1100,.arr 3 0 0 (.ints v3))]⟩) (fun x e σ' => match x with | (.inl (v10,v11)) => e = .exit 0 ∧ σ' = ⟨[(4,.ptr 4 0),(6,.ptr 6 0)],[(4,.box [.i 0,.i 0]),(6,.box [.i v10,.i v11])]⟩ | (.inr r) => e = .ret ∧ K318 r σ') hk12 rfl rfl ?_ ?_
   ·intro s x hs
    clear h
    have h := hs
    clear hs
    obtain ⟨v4,v5,v6⟩ := s
    refine Tri.f 1 [] [.keep [0,4,6,7,8,24] [4,6,1100]] rfl trivial ?_
    rcases bif_some h with ⟨hd5,h⟩ | ⟨hd5,h⟩
    ·obtain ⟨hg6,h⟩ := grd_some h
     refine Tri.f 2 [.g true] [.keep [0,4,6,7,8,33] [4,6,1100]] rfl ⟨hg6,hd5,trivial⟩ ?_
     rcases bif_some h with ⟨hd7,h⟩ | ⟨hd7,h⟩
     ·refine Tri.f 2 [.g true] [.keep [4,5] [4]] rfl ⟨hd7,trivial⟩ ?_
      cases h
      exact Tri.ret rfl ⟨nofun,rfl,rfl,rfl⟩
     ·obtain ⟨hg8,h⟩ := grd_some h
      obtain ⟨hg9,h⟩ := grd_some h
      obtain ⟨⟨v7,v8,v9⟩,hk10,h⟩ := bind_some h
      refine Tri.f 3 [.g false,.v (.tuple [.agg [.i v7,.i v8],.bool v9])] [.keep [0,4,6,7,8,9,48] [4,6,9,1100]] rfl ⟨fun _ => W96 v5 v6 ((a0.getD ((v3.getD v4.toNat 0).toNat) ⟨0,0⟩).num) ((a0.getD ((v3.getD v4.toNat 0).toNat) ⟨0,0⟩).den) (v7,v8,v9) hk10,hg9,hg8,hd7,trivial⟩ ?_
      rcases bif_some h with ⟨hd11,h⟩ | ⟨hd11,h⟩
      ·refine Tri.f 2 [.g true] [.keep [4,5] [4]] rfl ⟨hd11,trivial⟩ ?_
       cases h
       exact Tri.ret rfl ⟨nofun,rfl,rfl,rfl⟩
      ·refine Tri.f 3 [.g false] [.keep [0,4,6,7,8] [4,6,1100]] rfl ⟨hd11,trivial⟩ ?_
       cases h
       exact Tri.nil ⟨rfl,rfl⟩
    ·refine Tri.f 1 [.g false] [.keep [4,6] [4,6]] rfl ⟨hd5,trivial⟩ ?_
     cases h
     exact Tri.out 0 rfl ⟨nofun,rfl,rfl⟩
   ·intro e σ' hne hq
    rcases x1 with ⟨v10,v11⟩ | r
    ·obtain ⟨rfl,rfl⟩ := hq
     refine TriX.exit (K' := [.code [] 5]) rfl ?_
     refine Tri.f 1 [] [.keep [4,5] [4]] rfl trivial ?_
     cases h
     exact Tri.ret rfl ⟨.inl rfl,rfl,rfl⟩
    ·obtain ⟨rfl,hq⟩ := hq
     cases h
     exact TriX.ret ⟨.inl rfl,hq⟩
noncomputable def E473 : Env := ⟨Tryz.prog,tys,(Tryz.f184.body).getD .skip,39,tysOk,mixedOk⟩
abbrev K319 (r : Bool) (σ' : ASt) : Prop := isRes E473.T Tryz.f184 (.bool r) [] σ'
noncomputable def m_spec_IsPayoff (a0 : Int) (a1 : List Int) (a2 : List Q) : Option Bool :=
(m_spec_IsValidGame a0 a1).bind fun v1 =>
bif !v1 then
(some false)
else
(bif (a2.length : Int) != a0 then
(some false)
else
((m_spec_AllValid a2).bind fun v2 =>
bif !v2 then
(some false)
else
((m_spec_ShareOf a2 (IntKind.i64.wrap ((a1.length : Int) - 1))).bind fun (v3,v4,v5) =>
bif v5 then
((m_spec_GrandValue a0 a1).bind fun v6 =>
(m_spec_l3Int v6).bind fun (v7,v8) =>
some (v3 == v7 && v4 == v8))
else
(some false))))
theorem W156 (a0 : Int) (a1 : List Int) (a2 : List Q) (r : Bool) (h : m_spec_IsPayoff a0 a1 a2 = some r) : AM.Spec Tryz.prog 184 [.agg [.i a0,.list (.ints a1)],.list (.rats a2)] [] (.bool r) [] := by
 refine spec_of (E := E473) Tryz.func184 rfl rfl rfl rfl ?_
 refine Tri.f 1 [] [.keep [1,2] [2]] rfl trivial ?_
 obtain ⟨v1,hk1,h⟩ := bind_some h
 rcases bif_some h with ⟨hd2,h⟩ | ⟨hd2,h⟩
 ·refine Tri.f 1 [.v (.bool v1),.g true,.g true] [.keep [1,2,21] [2]] rfl ⟨rfl,hd2,fun _ => W82 a0 a1 v1 hk1,trivial⟩ ?_
  refine Tri.f 2 [.g true] [.keep [4] []] rfl ⟨rfl,trivial⟩ ?_
  cases h
  exact Tri.ret rfl ⟨.inl rfl,rfl,rfl⟩
 ·rcases bif_some h with ⟨hd3,h⟩ | ⟨hd3,h⟩
  ·refine Tri.f 1 [.v (.bool v1),.g false,.g true] [.keep [1,2,21] [2]] rfl ⟨hd3,hd2,fun _ => W82 a0 a1 v1 hk1,trivial⟩ ?_
   refine Tri.f 2 [.g true] [.keep [4] []] rfl ⟨rfl,trivial⟩ ?_
   cases h
   exact Tri.ret rfl ⟨.inl rfl,rfl,rfl⟩
  ·obtain ⟨v2,hk4,h⟩ := bind_some h
   refine Tri.f 1 [.v (.bool v1),.g false,.g false,.v (.bool v2)] [.keep [1,2,21] [2]] rfl ⟨fun _ => W88 a2 v2 hk4,hd3,hd2,fun _ => W82 a0 a1 v1 hk1,trivial⟩ ?_
   rcases bif_some h with ⟨hd5,h⟩ | ⟨hd5,h⟩
   ·refine Tri.f 2 [.g true] [.keep [4] []] rfl ⟨hd5,trivial⟩ ?_
    cases h
    exact Tri.ret rfl ⟨.inl rfl,rfl,rfl⟩
   ·obtain ⟨⟨v3,v4,v5⟩,hk6,h⟩ := bind_some h
    refine Tri.f 2 [.g false,.v (.tuple [.agg [.i v3,.i v4],.bool v5])] [.keep [2,5,6] [2,5]] rfl ⟨fun _ => W155 a2 (IntKind.i64.wrap ((a1.length : Int) - 1)) (v3,v4,v5) hk6,hd5,trivial⟩ ?_
    rcases bif_some h with ⟨hd7,h⟩ | ⟨hd7,h⟩
    ·obtain ⟨v6,hk8,h⟩ := bind_some h
     obtain ⟨⟨v7,v8⟩,hk9,h⟩ := bind_some h
     refine Tri.f 1 [.g true,.v (.i v6),.v (.agg [.i v7,.i v8])] [.keep [4] []] rfl ⟨fun _ => W83 v6 (v7,v8) hk9,fun _ => W128 a0 a1 v6 hk8,hd7,trivial⟩ ?_
     cases h
     exact Tri.ret rfl ⟨.inl rfl,rfl,rfl⟩
    ·refine Tri.f 1 [.g false] [.keep [4] []] rfl ⟨hd7,trivial⟩ ?_
     cases h
     exact Tri.ret rfl ⟨.inl rfl,rfl,rfl⟩
noncomputable def E474 : Env := ⟨Tryz.prog,tys,(Tryz.f185.body).getD .skip,50,tysOk,mixedOk⟩
abbrev K320 (r : Int × Int × Bool) (σ' : ASt) : Prop := isRes E474.T Tryz.f185 (.tuple [.agg [.i r.1,.i r.2.1],.bool r.2.2]) [] σ'
noncomputable def m_spec_ExcessOf (a0 : Int) (a1 : List Int) (a2 : List Q) (a3 : Int) : Option (Int × Int × Bool) :=
(m_spec_IsValidGame a0 a1).bind fun v1 =>
bif !v1 then
(some (0,0,false))
else
((m_spec_l1In a3 (0 : Int) (IntKind.i64.wrap ((a1.length : Int) - 1))).bind fun v2 =>
bif !v2 then
(some (0,0,false))
else
((m_spec_ShareOf a2 a3).bind fun (v3,v4,v5) =>
grd (0 ≤ a3 ∧ a3 < (a1.length : Int)) <|
(m_spec_l3Int (a1.getD a3.toNat 0)).bind fun (v6,v7) =>
(m_spec_SubRat v6 v7 v3 v4).bind fun (v8,v9,v10) =>
bif !v5 then
(some (0,0,false))
else
(bif !v10 then
(some (0,0,false))
else
(some (v8,v9,true)))))
theorem W157 (a0 : Int) (a1 : List Int) (a2 : List Q) (a3 : Int) (r : Int × Int × Bool) (h : m_spec_ExcessOf a0 a1 a2 a3 = some r) : AM.Spec Tryz.prog 185 [.agg [.i a0,.list (.ints a1)],.list (.rats a2),.i a3] [] (.tuple [.agg [.i r.1,.i r.2.1],.bool r.2.2]) [] := by
 refine spec_of (E := E474) Tryz.func185 rfl rfl rfl rfl ?_
 refine Tri.f 1 [] [.keep [1,2,3,6] [3,6]] rfl trivial ?_
 obtain ⟨v1,hk1,h⟩ := bind_some h
 rcases bif_some h with ⟨hd2,h⟩ | ⟨hd2,h⟩
 ·refine Tri.f 1 [.v (.bool v1),.g true] [.keep [1,2,3,6,23] [3,6]] rfl ⟨hd2,fun _ => W82 a0 a1 v1 hk1,trivial⟩ ?_
  refine Tri.f 2 [.g true] [.keep [6,7] [6]] rfl ⟨rfl,trivial⟩ ?_
  cases h
  exact Tri.ret rfl ⟨.inl rfl,rfl,rfl⟩
 ·obtain ⟨v2,hk3,h⟩ := bind_some h
  refine Tri.f 1 [.v (.bool v1),.g false,.v (.bool v2)] [.keep [1,2,3,6,23] [3,6]] rfl ⟨fun _ => W5 a3 (0 : Int) (IntKind.i64.wrap ((a1.length : Int) - 1)) v2 hk3,hd2,fun _ => W82 a0 a1 v1 hk1,trivial⟩ ?_
  rcases bif_some h with ⟨hd4,h⟩ | ⟨hd4,h⟩
  ·refine Tri.f 2 [.g true] [.keep [6,7] [6]] rfl ⟨hd4,trivial⟩ ?_
   cases h
   exact Tri.ret rfl ⟨.inl rfl,rfl,rfl⟩
  ·obtain ⟨⟨v3,v4,v5⟩,hk5,h⟩ := bind_some h
   refine Tri.f 2 [.g false,.v (.tuple [.agg [.i v3,.i v4],.bool v5])] [.keep [2,3,6,8,9] [3,6,8]] rfl ⟨fun _ => W155 a2 a3 (v3,v4,v5) hk5,hd4,trivial⟩ ?_
   obtain ⟨hg6,h⟩ := grd_some h
   obtain ⟨⟨v6,v7⟩,hk7,h⟩ := bind_some h
   obtain ⟨⟨v8,v9,v10⟩,hk8,h⟩ := bind_some h
   rcases bif_some h with ⟨hd9,h⟩ | ⟨hd9,h⟩
   ·refine Tri.f 2 [.v (.agg [.i v6,.i v7]),.v (.tuple [.agg [.i v8,.i v9],.bool v10]),.g true] [.keep [6,10,47] [6,10]] rfl ⟨hd9,fun _ => W109 v6 v7 v3 v4 (v8,v9,v10) hk8,fun _ => W83 (a1.getD a3.toNat 0) (v6,v7) hk7,hg6,trivial⟩ ?_
    refine Tri.f 2 [.g true] [.keep [6,7] [6]] rfl ⟨rfl,trivial⟩ ?_
    cases h
    exact Tri.ret rfl ⟨.inl rfl,rfl,rfl⟩
   ·refine Tri.f 2 [.v (.agg [.i v6,.i v7]),.v (.tuple [.agg [.i v8,.i v9],.bool v10]),.g false] [.keep [6,10,47] [6,10]] rfl ⟨hd9,fun _ => W109 v6 v7 v3 v4 (v8,v9,v10) hk8,fun _ => W83 (a1.getD a3.toNat 0) (v6,v7) hk7,hg6,trivial⟩ ?_
    rcases bif_some h with ⟨hd10,h⟩ | ⟨hd10,h⟩
    ·refine Tri.f 2 [.g true] [.keep [6,7] [6]] rfl ⟨hd10,trivial⟩ ?_
     cases h
     exact Tri.ret rfl ⟨.inl rfl,rfl,rfl⟩
    ·refine Tri.f 2 [.g false] [.keep [6,7] [6]] rfl ⟨hd10,trivial⟩ ?_
     cases h
     exact Tri.ret rfl ⟨.inl rfl,rfl,rfl⟩
noncomputable def E475 : Env := ⟨Tryz.prog,tys,(Tryz.f131.body).getD .skip,39,tysOk,mixedOk⟩
abbrev K321 (r : Bool × (List Q)) (σ' : ASt) : Prop := isRes E475.T Tryz.f131 (.tuple [.sl 1000 0,.bool r.1]) [(1000,.arr 31 0 0 (.rats r.2))] σ'
noncomputable def l_spec_l11All_0 (a0 : Int) (a1 : List Int) (a2 : List Q) : (Int × (List Q)) → Option ((Int × (List Q)) ⊕ ((List Q) ⊕ ((Bool × (List Q)))))
 | (v2,v3) => (
bif decide (v2 < (IntKind.i64.wrap ((a1.length : Int) - 1))) then
((m_spec_ExcessOf a0 a1 a2 v2).bind fun (v4,v5,v6) =>
bif !v6 then
(some (.inr (.inr (false,[]))))
else
(grd (v3.length + ([⟨v4,v5⟩] : List Q).length ≤ room) <|
some (.inl (IntKind.i64.wrap (v2 + 1),v3 ++ [⟨v4,v5⟩]))))
else
(some (.inr (.inl v3))))
noncomputable def m_spec_l11All (a0 : Int) (a1 : List Int) (a2 : List Q) : Option (Bool × (List Q)) :=
(m_spec_IsPayoff a0 a1 a2).bind fun v1 =>
bif !v1 then
(some (false,[]))
else
((iter (l_spec_l11All_0 a0 a1 a2) ((1 : Int),[])).bind fun
| (.inl v7) => (
some (true,v7))
| (.inr r) => some r)
theorem W158 (a0 : Int) (a1 : List Int) (a2 : List Q) (r : Bool × (List Q)) (h : m_spec_l11All a0 a1 a2 = some r) : AM.Spec Tryz.prog 131 [.agg [.i a0,.list (.ints a1)],.list (.rats a2)] [] (.tuple [.sl 1000 0,.bool r.1]) [(1000,.arr 31 0 0 (.rats r.2))] := by
 refine spec_of (E := E475) Tryz.func131 rfl rfl rfl rfl ?_
 refine Tri.f 2 [] [.keep [1,2,6] [2,10]] rfl trivial ?_
 obtain ⟨v1,hk1,h⟩ := bind_some h
 refine Tri.f 1 [.v (.bool v1)] [.keep [1,2,6,14] [2,10]] rfl ⟨fun _ => W156 a0 a1 a2 v1 hk1,trivial⟩ ?_
 rcases bif_some h with ⟨hd2,h⟩ | ⟨hd2,h⟩
 ·refine Tri.f 2 [.g true] [.swap 10 1000,.keep [4,5] [1000]] rfl ⟨hd2,trivial⟩ ?_
  cases h
  exact Tri.ret rfl ⟨.inl rfl,rfl,rfl⟩
 ·refine Tri.f 2 [.g false] [.keep [1,2,6,7] [2,10]] rfl ⟨hd2,trivial⟩ ?_
  obtain ⟨x1,hk7,h⟩ := bind_some h
  refine Tri.loop (K1 := [.code [(3,0),(1,0),(0,0)] 0]) (K2 := [.blk 0,.code [] 4]) (fun (v2,v3) => ⟨[(1,.list (.rats a2)),(2,.ptr 2 0),(6,.sl 10 0),(7,.i v2)],[(2,.box [.i a0,.list (.ints a1)]),(10,.arr 31 0 0 (.rats v3))]⟩) (fun x e σ' => match x with | (.inl v7) => e = .exit 0 ∧ σ' = ⟨[(6,.sl 10 0)],[(10,.arr 31 0 0 (.rats v7))]⟩ | (.inr r) => e = .ret ∧ K321 r σ') hk7 rfl rfl ?_ ?_
  ·intro s x hs
   clear h
   have h := hs
   clear hs
   obtain ⟨v2,v3⟩ := s
   refine Tri.f 1 [] [.keep [1,2,6,7,21] [2,10]] rfl trivial ?_
   rcases bif_some h with ⟨hd3,h⟩ | ⟨hd3,h⟩
   ·obtain ⟨⟨v4,v5,v6⟩,hk4,h⟩ := bind_some h
    refine Tri.f 3 [.g true,.v (.tuple [.agg [.i v4,.i v5],.bool v6])] [.keep [1,2,6,7,8,32] [2,8,10]] rfl ⟨fun _ => W157 a0 a1 a2 v2 (v4,v5,v6) hk4,hd3,trivial⟩ ?_
    rcases bif_some h with ⟨hd5,h⟩ | ⟨hd5,h⟩
    ·refine Tri.f 2 [.g true] [.swap 33 1000,.keep [4,5] [1000]] rfl ⟨hd5,trivial⟩ ?_
     cases h
     exact Tri.ret rfl ⟨nofun,rfl,rfl,rfl⟩
    ·obtain ⟨hg6,h⟩ := grd_some h
     refine Tri.f 3 [.g false] [.rever 10,.keep [1,2,6,7] [2,10]] rfl ⟨hg6,hd5,trivial⟩ ?_
     cases h
     exact Tri.nil ⟨rfl,rfl⟩
   ·refine Tri.f 1 [.g false] [.keep [6] [10]] rfl ⟨hd3,trivial⟩ ?_
    cases h
    exact Tri.out 0 rfl ⟨nofun,rfl,rfl⟩
  ·intro e σ' hne hq
   rcases x1 with v7 | r
   ·obtain ⟨rfl,rfl⟩ := hq
    refine TriX.exit (K' := [.code [] 4]) rfl ?_
    refine Tri.f 1 [] [.swap 10 1000,.keep [4,5] [1000]] rfl trivial ?_
    cases h
    exact Tri.ret rfl ⟨.inl rfl,rfl,rfl⟩
   ·obtain ⟨rfl,hq⟩ := hq
    cases h
    exact TriX.ret ⟨.inl rfl,hq⟩
noncomputable def E476 : Env := ⟨Tryz.prog,tys,(Tryz.f61.body).getD .skip,27,tysOk,mixedOk⟩
abbrev K322 (r : Bool) (σ' : ASt) : Prop := isRes E476.T Tryz.f61 (.bool r) [] σ'
noncomputable def l_spec_InCore_0 (v2 : List Q) (v3 : Int) : Option (Int ⊕ (Unit ⊕ Bool)) :=
bif decide (v3 < (v2.length : Int)) then
(grd (0 ≤ v3 ∧ v3 < (v2.length : Int)) <|
bif decide (((v2.getD v3.toNat ⟨0,0⟩).num) > 0) then
(some (.inr (.inr false)))
else
(some (.inl (IntKind.i64.wrap (v3 + 1)))))
else
(some (.inr (.inl ())))
noncomputable def m_spec_InCore (a0 : Int) (a1 : List Int) (a2 : List Q) : Option Bool :=
(m_spec_l11All a0 a1 a2).bind fun (v1,v2) =>
(iter (l_spec_InCore_0 v2) (0 : Int)).bind fun
| (.inl _) => (
some v1)
| (.inr r) => some r
theorem W159 (a0 : Int) (a1 : List Int) (a2 : List Q) (r : Bool) (h : m_spec_InCore a0 a1 a2 = some r) : AM.Spec Tryz.prog 61 [.agg [.i a0,.list (.ints a1)],.list (.rats a2)] [] (.bool r) [] := by
 refine spec_of (E := E476) Tryz.func61 rfl rfl rfl rfl ?_
 refine Tri.f 1 [] [.keep [1,2] [2]] rfl trivial ?_
 obtain ⟨⟨v1,v2⟩,hk1,h⟩ := bind_some h
 refine Tri.f 2 [.r ⟨[],.tuple [.sl 1100 0,.bool v1],[(1100,.arr 31 0 0 (.rats v2))]⟩] [.keep [5,6,7] [1100]] rfl ⟨fun _ => (W158 a0 a1 a2 (v1,v2) hk1).swap 1000 1100,trivial⟩ ?_
 obtain ⟨x1,hk5,h⟩ := bind_some h
 refine Tri.loop (K1 := [.code [(2,0),(1,0),(0,0)] 0]) (K2 := [.blk 0,.code [] 3]) (fun v3 => ⟨[(5,.sl 1100 0),(6,.bool v1),(7,.i v3)],[(1100,.arr 31 0 0 (.rats v2))]⟩) (fun x e σ' => match x with | (.inl _) => e = .exit 0 ∧ σ' = ⟨[(6,.bool v1)],[]⟩ | (.inr r) => e = .ret ∧ K322 r σ') hk5 rfl rfl ?_ ?_
 ·intro v3 x hs
  clear h
  have h := hs
  clear hs
  refine Tri.f 1 [] [.keep [5,6,7,17] [1100]] rfl trivial ?_
  rcases bif_some h with ⟨hd2,h⟩ | ⟨hd2,h⟩
  ·obtain ⟨hg3,h⟩ := grd_some h
   refine Tri.f 2 [.g true] [.keep [5,6,7,25] [1100]] rfl ⟨hg3,hd2,trivial⟩ ?_
   rcases bif_some h with ⟨hd4,h⟩ | ⟨hd4,h⟩
   ·refine Tri.f 2 [.g true] [.keep [4] []] rfl ⟨hd4,trivial⟩ ?_
    cases h
    exact Tri.ret rfl ⟨nofun,rfl,rfl,rfl⟩
   ·refine Tri.f 2 [.g false] [.keep [5,6,7] [1100]] rfl ⟨hd4,trivial⟩ ?_
    cases h
    exact Tri.nil ⟨rfl,rfl⟩
  ·refine Tri.f 1 [.g false] [.keep [6] []] rfl ⟨hd2,trivial⟩ ?_
   cases h
   exact Tri.out 0 rfl ⟨nofun,rfl,rfl⟩
 ·intro e σ' hne hq
  rcases x1 with _ | r
  ·obtain ⟨rfl,rfl⟩ := hq
   refine TriX.exit (K' := [.code [] 3]) rfl ?_
   refine Tri.f 1 [] [.keep [4] []] rfl trivial ?_
   cases h
   exact Tri.ret rfl ⟨.inl rfl,rfl,rfl⟩
  ·obtain ⟨rfl,hq⟩ := hq
   cases h
   exact TriX.ret ⟨.inl rfl,hq⟩
noncomputable def E477 : Env := ⟨Tryz.prog,tys,(Tryz.f37.body).getD .skip,58,tysOk,mixedOk⟩
abbrev K323 (r : Bool) (σ' : ASt) : Prop := isRes E477.T Tryz.f37 (.bool r) [] σ'
noncomputable def l_spec_IsBalancedCollection_1 (a1 : List Q) (v4 : Int) : (Int × (List Int)) → Option ((Int × (List Int)) ⊕ ((List Int)))
 | (v5,v6) => (
bif decide (v5 ≤ (a1.length : Int)) then
((m_spec_HasPlayer v5 v4).bind fun v7 =>
(m_spec_l1Bit v7).bind fun v8 =>
grd (v6.length + ([v8] : List Int).length ≤ room) <|
some (.inl (IntKind.i64.wrap (v5 + 1),v6 ++ [v8])))
else
(some (.inr v6)))
noncomputable def l_spec_IsBalancedCollection_0 (a0 : Int) (a1 : List Q) (v4 : Int) : Option (Int ⊕ (Unit ⊕ Bool)) :=
bif decide (v4 < a0) then
((iter (l_spec_IsBalancedCollection_1 a1 v4) ((1 : Int),[])).bind fun
| v9 => (
(m_spec_l5Dot v9 a1).bind fun (v10,v11,v12) =>
bif !v12 then
(some (.inr (.inr false)))
else
((m_spec_l3Int (1 : Int)).bind fun (v13,v14) =>
bif !(v10 == v13 && v11 == v14) then
(some (.inr (.inr false)))
else
(some (.inl (IntKind.i64.wrap (v4 + 1)))))))
else
(some (.inr (.inl ())))
noncomputable def m_spec_IsBalancedCollection (a0 : Int) (a1 : List Q) : Option Bool :=
(m_spec_l1In a0 (1 : Int) (5 : Int)).bind fun v1 =>
bif !v1 then
(some false)
else
((m_spec_CountCoalitions a0).bind fun v2 =>
bif (a1.length : Int) != (IntKind.i64.wrap (v2 - 1)) then
(some false)
else
((m_spec_l5NotNegative a1).bind fun v3 =>
bif !v3 then
(some false)
else
((iter (l_spec_IsBalancedCollection_0 a0 a1) (0 : Int)).bind fun
| (.inl _) => (
some true)
| (.inr r) => some r)))
theorem W160 (a0 : Int) (a1 : List Q) (r : Bool) (h : m_spec_IsBalancedCollection a0 a1 = some r) : AM.Spec Tryz.prog 37 [.i a0,.list (.rats a1)] [] (.bool r) [] := by
 refine spec_of (E := E477) Tryz.func37 rfl rfl rfl rfl ?_
 refine Tri.f 1 [] [.keep [0,1] []] rfl trivial ?_
 obtain ⟨v1,hk1,h⟩ := bind_some h
 rcases bif_some h with ⟨hd2,h⟩ | ⟨hd2,h⟩
 ·refine Tri.f 1 [.v (.bool v1),.g true,.g true] [.keep [0,1,25] []] rfl ⟨rfl,hd2,fun _ => W5 a0 (1 : Int) (5 : Int) v1 hk1,trivial⟩ ?_
  refine Tri.f 2 [.g true] [.keep [4] []] rfl ⟨rfl,trivial⟩ ?_
  cases h
  exact Tri.ret rfl ⟨.inl rfl,rfl,rfl⟩
 ·obtain ⟨v2,hk3,h⟩ := bind_some h
  rcases bif_some h with ⟨hd4,h⟩ | ⟨hd4,h⟩
  ·refine Tri.f 1 [.v (.bool v1),.g false,.v (.i v2),.g true] [.keep [0,1,25] []] rfl ⟨hd4,fun _ => W6 a0 v2 hk3,hd2,fun _ => W5 a0 (1 : Int) (5 : Int) v1 hk1,trivial⟩ ?_
   refine Tri.f 2 [.g true] [.keep [4] []] rfl ⟨rfl,trivial⟩ ?_
   cases h
   exact Tri.ret rfl ⟨.inl rfl,rfl,rfl⟩
  ·obtain ⟨v3,hk5,h⟩ := bind_some h
   refine Tri.f 1 [.v (.bool v1),.g false,.v (.i v2),.g false,.v (.bool v3)] [.keep [0,1,25] []] rfl ⟨fun _ => W116 a1 v3 hk5,hd4,fun _ => W6 a0 v2 hk3,hd2,fun _ => W5 a0 (1 : Int) (5 : Int) v1 hk1,trivial⟩ ?_
   rcases bif_some h with ⟨hd6,h⟩ | ⟨hd6,h⟩
   ·refine Tri.f 2 [.g true] [.keep [4] []] rfl ⟨hd6,trivial⟩ ?_
    cases h
    exact Tri.ret rfl ⟨.inl rfl,rfl,rfl⟩
   ·refine Tri.f 2 [.g false] [.keep [0,1,5] []] rfl ⟨hd6,trivial⟩ ?_
    obtain ⟨x2,hk17,h⟩ := bind_some h
    refine Tri.loop (K1 := [.code [(2,0),(1,0),(0,0)] 0]) (K2 := [.blk 0,.code [] 3]) (fun v4 => ⟨[(0,.i a0),(1,.list (.rats a1)),(5,.i v4)],[]⟩) (fun x e σ' => match x with | (.inl _) => e = .exit 0 ∧ σ' = ⟨[],[]⟩ | (.inr r) => e = .ret ∧ K323 r σ') hk17 rfl rfl ?_ ?_
    ·intro v4 x hs
     clear h
     have h := hs
     clear hs
     refine Tri.f 1 [] [.keep [0,1,5,28] []] rfl trivial ?_
     rcases bif_some h with ⟨hd7,h⟩ | ⟨hd7,h⟩
     ·refine Tri.f 3 [.g true] [.keep [0,1,5,6,7] [31]] rfl ⟨hd7,trivial⟩ ?_
      obtain ⟨v9,hk12,h⟩ := bind_some h
      refine Tri.loop (K1 := [.code [(2,0),(1,0),(0,0),(1,0),(0,0),(1,0),(1,0),(0,0)] 0]) (K2 := [.blk 2,.code [(2,0),(1,0),(0,0),(1,0),(0,0)] 2,.blk 1,.code [(2,0),(1,0),(0,0)] 2]) (fun (v5,v6) => ⟨[(0,.i a0),(1,.list (.rats a1)),(5,.i v4),(6,.sl 31 0),(7,.i v5)],[(31,.arr 3 0 0 (.ints v6))]⟩) (fun x e σ' => match x with | v9 => e = .exit 2 ∧ σ' = ⟨[(0,.i a0),(1,.list (.rats a1)),(5,.i v4),(6,.sl 31 0)],[(31,.arr 3 0 0 (.ints v9))]⟩) hk12 rfl rfl ?_ ?_
      ·intro s x hs
       clear h
       have h := hs
       clear hs
       obtain ⟨v5,v6⟩ := s
       refine Tri.f 1 [] [.keep [0,1,5,6,7,35] [31]] rfl trivial ?_
       rcases bif_some h with ⟨hd8,h⟩ | ⟨hd8,h⟩
       ·obtain ⟨v7,hk9,h⟩ := bind_some h
        obtain ⟨v8,hk10,h⟩ := bind_some h
        obtain ⟨hg11,h⟩ := grd_some h
        refine Tri.f 3 [.g true,.v (.bool v7),.v (.i v8)] [.rever 31,.keep [0,1,5,6,7] [31]] rfl ⟨hg11,fun _ => W12 v7 v8 hk10,fun _ => W8 v5 v4 v7 hk9,hd8,trivial⟩ ?_
        cases h
        exact Tri.nil ⟨rfl,rfl⟩
       ·refine Tri.f 1 [.g false] [.keep [0,1,5,6] [31]] rfl ⟨hd8,trivial⟩ ?_
        cases h
        exact Tri.out 2 rfl ⟨nofun,rfl,rfl⟩
      ·intro e σ' hne hq
       obtain ⟨rfl,rfl⟩ := hq
       refine TriX.exit (K' := [.code [(2,0),(1,0),(0,0),(1,0),(0,0)] 2,.blk 1,.code [(2,0),(1,0),(0,0)] 2]) rfl ?_
       obtain ⟨⟨v10,v11,v12⟩,hk13,h⟩ := bind_some h
       rcases bif_some h with ⟨hd14,h⟩ | ⟨hd14,h⟩
       ·refine Tri.f 2 [.v (.tuple [.agg [.i v10,.i v11],.bool v12]),.g true] [.keep [0,1,5,57] []] rfl ⟨hd14,fun _ => W119 v9 a1 (v10,v11,v12) hk13,trivial⟩ ?_
        refine Tri.f 2 [.g true] [.keep [4] []] rfl ⟨rfl,trivial⟩ ?_
        cases h
        exact Tri.ret rfl ⟨nofun,rfl,rfl,rfl⟩
       ·obtain ⟨⟨v13,v14⟩,hk15,h⟩ := bind_some h
        refine Tri.f 2 [.v (.tuple [.agg [.i v10,.i v11],.bool v12]),.g false,.v (.agg [.i v13,.i v14])] [.keep [0,1,5,57] []] rfl ⟨fun _ => W83 (1 : Int) (v13,v14) hk15,hd14,fun _ => W119 v9 a1 (v10,v11,v12) hk13,trivial⟩ ?_
        rcases bif_some h with ⟨hd16,h⟩ | ⟨hd16,h⟩
        ·refine Tri.f 2 [.g true] [.keep [4] []] rfl ⟨hd16,trivial⟩ ?_
         cases h
         exact Tri.ret rfl ⟨nofun,rfl,rfl,rfl⟩
        ·refine Tri.f 2 [.g false] [.keep [0,1,5] []] rfl ⟨hd16,trivial⟩ ?_
         cases h
         exact Tri.nil ⟨rfl,rfl⟩
     ·refine Tri.f 1 [.g false] [.keep [] []] rfl ⟨hd7,trivial⟩ ?_
      cases h
      exact Tri.out 0 rfl ⟨nofun,rfl,rfl⟩
    ·intro e σ' hne hq
     rcases x2 with _ | r
     ·obtain ⟨rfl,rfl⟩ := hq
      refine TriX.exit (K' := [.code [] 3]) rfl ?_
      refine Tri.f 1 [] [.keep [4] []] rfl trivial ?_
      cases h
      exact Tri.ret rfl ⟨.inl rfl,rfl,rfl⟩
     ·obtain ⟨rfl,hq⟩ := hq
      cases h
      exact TriX.ret ⟨.inl rfl,hq⟩
noncomputable def E478 : Env := ⟨Tryz.prog,tys,(Tryz.f34.body).getD .skip,45,tysOk,mixedOk⟩
abbrev K324 (r : Bool) (σ' : ASt) : Prop := isRes E478.T Tryz.f34 (.bool r) [] σ'
noncomputable def m_spec_CheckCore (a0 : Int) (a1 : List Int) (a2 : Int) (a3 a4 : List Q) : Option Bool :=
(m_spec_IsValidGame a0 a1).bind fun v1 =>
bif !v1 then
(some false)
else
(bif a2 == 1 then
((m_spec_InCore a0 a1 a3).bind fun v2 =>
some v2)
else
(bif a2 == 2 then
(grd ((0 : Int) ≤ (1 : Int) ∧ (1 : Int) ≤ (a1.length : Int)) <|
(m_spec_l5Dot (a1.drop (1 : Int).toNat) a4).bind fun (v3,v4,v5) =>
(m_spec_IsBalancedCollection a0 a4).bind fun v6 =>
bif v6 then
(bif v5 then
((m_spec_GrandValue a0 a1).bind fun v7 =>
(m_spec_l3Int v7).bind fun (v8,v9) =>
(m_spec_CompareRat v3 v4 v8 v9).bind fun v10 =>
some (decide (v10 > 0)))
else
(some false))
else
(some false))
else
(some false)))
theorem W161 (a0 : Int) (a1 : List Int) (a2 : Int) (a3 a4 : List Q) (r : Bool) (h : m_spec_CheckCore a0 a1 a2 a3 a4 = some r) : AM.Spec Tryz.prog 34 [.agg [.i a0,.list (.ints a1)],.agg [.i a2,.list (.rats a3),.list (.rats a4)]] [] (.bool r) [] := by
 refine spec_of (E := E478) Tryz.func34 rfl rfl rfl rfl ?_
 refine Tri.f 1 [] [.keep [2,3] [2,3]] rfl trivial ?_
 obtain ⟨v1,hk1,h⟩ := bind_some h
 refine Tri.f 1 [.v (.bool v1)] [.keep [2,3,9] [2,3]] rfl ⟨fun _ => W82 a0 a1 v1 hk1,trivial⟩ ?_
 rcases bif_some h with ⟨hd2,h⟩ | ⟨hd2,h⟩
 ·refine Tri.f 2 [.g true] [.keep [4] []] rfl ⟨hd2,trivial⟩ ?_
  cases h
  exact Tri.ret rfl ⟨.inl rfl,rfl,rfl⟩
 ·refine Tri.f 3 [.g false] [.keep [2,3,11,12] [2,3]] rfl ⟨hd2,trivial⟩ ?_
  rcases bif_some h with ⟨hd3,h⟩ | ⟨hd3,h⟩
  ·obtain ⟨v2,hk4,h⟩ := bind_some h
   refine Tri.f 2 [.g true,.v (.bool v2)] [.keep [4] []] rfl ⟨fun _ => W159 a0 a1 a3 v2 hk4,hd3,trivial⟩ ?_
   cases h
   exact Tri.ret rfl ⟨.inl rfl,rfl,rfl⟩
  ·refine Tri.f 2 [.g false] [.keep [2,3,18] [2,3]] rfl ⟨hd3,trivial⟩ ?_
   rcases bif_some h with ⟨hd5,h⟩ | ⟨hd5,h⟩
   ·obtain ⟨hg6,h⟩ := grd_some h
    obtain ⟨⟨v3,v4,v5⟩,hk7,h⟩ := bind_some h
    refine Tri.f 2 [.g true,.v (.tuple [.agg [.i v3,.i v4],.bool v5])] [.keep [2,3,5,6] [2,3,5]] rfl ⟨fun _ => W119 (a1.drop (1 : Int).toNat) a4 (v3,v4,v5) hk7,hg6,hd5,trivial⟩ ?_
    obtain ⟨v6,hk8,h⟩ := bind_some h
    rcases bif_some h with ⟨hd9,h⟩ | ⟨hd9,h⟩
    ·rcases bif_some h with ⟨hd10,h⟩ | ⟨hd10,h⟩
     ·obtain ⟨v7,hk11,h⟩ := bind_some h
      obtain ⟨⟨v8,v9⟩,hk12,h⟩ := bind_some h
      obtain ⟨v10,hk13,h⟩ := bind_some h
      refine Tri.f 1 [.v (.bool v6),.g true,.g true,.v (.i v7),.v (.agg [.i v8,.i v9]),.v (.i v10)] [.keep [4] []] rfl ⟨fun _ => W99 v3 v4 v8 v9 v10 hk13,fun _ => W83 v7 (v8,v9) hk12,fun _ => W128 a0 a1 v7 hk11,hd10,hd9,fun _ => W160 a0 a4 v6 hk8,trivial⟩ ?_
      cases h
      exact Tri.ret rfl ⟨.inl rfl,rfl,rfl⟩
     ·refine Tri.f 1 [.v (.bool v6),.g true,.g false] [.keep [4] []] rfl ⟨hd10,hd9,fun _ => W160 a0 a4 v6 hk8,trivial⟩ ?_
      cases h
      exact Tri.ret rfl ⟨.inl rfl,rfl,rfl⟩
    ·refine Tri.f 1 [.v (.bool v6),.g false,.g false] [.keep [4] []] rfl ⟨rfl,hd9,fun _ => W160 a0 a4 v6 hk8,trivial⟩ ?_
     cases h
     exact Tri.ret rfl ⟨.inl rfl,rfl,rfl⟩
   ·refine Tri.f 2 [.g false] [.keep [4] []] rfl ⟨hd5,trivial⟩ ?_
    cases h
    exact Tri.ret rfl ⟨.inl rfl,rfl,rfl⟩
noncomputable def E479 : Env := ⟨Tryz.prog,tys,(Tryz.f35.body).getD .skip,41,tysOk,mixedOk⟩
abbrev K325 (r : Int × (List Q)) (σ' : ASt) : Prop := isRes E479.T Tryz.f35 (.tuple [.i r.1,.sl 1000 0]) [(1000,.arr 31 0 0 (.rats r.2))] σ'
noncomputable def m_spec_DrawIsBalancedCollection (a0 : List UInt8) : Option (Int × (List Q)) :=
(m_spec_l1New a0).bind fun (v1,v2,v3) =>
(m_spec_l8Draw_io1 v1 v2 v3 (4 : Int)).bind fun (v4,v5,v6,v7) =>
(m_spec_BalancedLP v4 v5).bind fun (_,v9,v10,v11) =>
(m_spec_SolveLP v9 v10 v11).bind fun (_,_,_,_,v16,_,_) =>
bif decide ((v16.length : Int) > 0) then
((m_spec_l1Once_io1 v1 v6 v7 (4 : Int)).bind fun (v19,v20,v21) =>
bif v19 then
((m_spec_l1Below_io1 v1 v20 v21 (v16.length : Int)).bind fun (v22,v23,v24) =>
(m_spec_l3Draw_io1 v1 v23 v24).bind fun (v25,v26,_,_) =>
grd (0 ≤ v22 ∧ v22 < (v16.length : Int)) <|
some (v4,v16.set v22.toNat ⟨v25,v26⟩))
else
(some (v4,v16)))
else
(some (v4,v16))
theorem W162 (a0 : List UInt8) (r : Int × (List Q)) (h : m_spec_DrawIsBalancedCollection a0 = some r) : AM.Spec Tryz.prog 35 [.list (.bytes a0)] [] (.tuple [.i r.1,.sl 1000 0]) [(1000,.arr 31 0 0 (.rats r.2))] := by
 refine spec_of (E := E479) Tryz.func35 rfl rfl rfl rfl ?_
 refine Tri.f 1 [] [.keep [0] []] rfl trivial ?_
 obtain ⟨⟨v1,v2,v3⟩,hk1,h⟩ := bind_some h
 obtain ⟨⟨v4,v5,v6,v7⟩,hk2,h⟩ := bind_some h
 refine Tri.f 2 [.r ⟨[],.ptr 1100 0,[(1100,.box [.list (.bytes v1),.i v2,.i v3])]⟩,.r ⟨[1100],.agg [.i v4,.sl 1101 0],[(1101,.arr 3 0 0 (.ints v5)),(1100,.box [.undf,.i v6,.i v7])]⟩] [.keep [4,5] [5,1100,1101]] rfl ⟨(fun vf => (((W13 (vf 1100 0) v1 v2 v3 (4 : Int) (v4,v5,v6,v7) hk2).swap 1000 1101).swap 2040 1100)),fun _ => (W1 a0 (v1,v2,v3) hk1).swap 1000 1100,trivial⟩ ?_
 obtain ⟨⟨v8,v9,v10,v11⟩,hk3,h⟩ := bind_some h
 obtain ⟨⟨v12,v13,v14,v15,v16,v17,v18⟩,hk4,h⟩ := bind_some h
 refine Tri.f 3 [.r ⟨[],.tuple [.agg [.sl 1102 0,.sl 1103 0,.sl 1104 0],.bool v8],[(1102,.arr 25 0 0 (.intss v9)),(1103,.arr 3 0 0 (.ints v10)),(1104,.arr 31 0 0 (.rats v11))]⟩,.r ⟨[],.agg [.i v12,.sl 1105 0,.sl 1106 0,.sl 1107 0,.i v13,.i v14,.i v15],[(1105,.arr 31 0 0 (.rats v16)),(1106,.arr 31 0 0 (.rats v17)),(1107,.arr 31 0 0 (.rats v18))]⟩] [.keep [4,5,9] [5,1100,1101,1105]] rfl ⟨fun _ => (((W127 v9 v10 v11 (v12,v13,v14,v15,v16,v17,v18) hk4).swap 1000 1105).swap 1001 1106).swap 1002 1107,fun _ => (((W84 v4 v5 (v8,v9,v10,v11) hk3).swap 1000 1102).swap 1001 1103).swap 1002 1104,trivial⟩ ?_
 rcases bif_some h with ⟨hd5,h⟩ | ⟨hd5,h⟩
 ·obtain ⟨⟨v19,v20,v21⟩,hk6,h⟩ := bind_some h
  refine Tri.f 1 [.g true,.r ⟨[1100],.bool v19,[(1100,.box [.undf,.i v20,.i v21])]⟩] [.keep [4,5,9,29] [5,1100,1101,1105]] rfl ⟨(fun vf => ((W147 (vf 1100 0) v1 v6 v7 (4 : Int) (v19,v20,v21) hk6).swap 2300 1100)),hd5,trivial⟩ ?_
  rcases bif_some h with ⟨hd7,h⟩ | ⟨hd7,h⟩
  ·obtain ⟨⟨v22,v23,v24⟩,hk8,h⟩ := bind_some h
   obtain ⟨⟨v25,v26,v27,v28⟩,hk9,h⟩ := bind_some h
   obtain ⟨hg10,h⟩ := grd_some h
   refine Tri.f 3 [.g true,.r ⟨[1100],.i v22,[(1100,.box [.undf,.i v23,.i v24])]⟩,.r ⟨[1100],.agg [.i v25,.i v26],[(1100,.box [.undf,.i v27,.i v28])]⟩] [.swap 1105 1000,.keep [2,3] [1000]] rfl ⟨hg10,(fun vf => ((W148 (vf 1100 0) v1 v23 v24 (v25,v26,v27,v28) hk9).swap 2280 1100)),(fun vf => ((W4 (vf 1100 0) v1 v20 v21 (v16.length : Int) (v22,v23,v24) hk8).swap 2060 1100)),hd7,trivial⟩ ?_
   cases h
   exact Tri.ret rfl ⟨.inl rfl,rfl,rfl⟩
  ·refine Tri.f 2 [.g false] [.swap 1105 1000,.keep [2,3] [1000]] rfl ⟨hd7,trivial⟩ ?_
   cases h
   exact Tri.ret rfl ⟨.inl rfl,rfl,rfl⟩
 ·refine Tri.f 1 [.g false] [.keep [4,5,9,29] [5,1100,1101,1105]] rfl ⟨hd5,trivial⟩ ?_
  refine Tri.f 2 [.g false] [.swap 1105 1000,.keep [2,3] [1000]] rfl ⟨rfl,trivial⟩ ?_
  cases h
  exact Tri.ret rfl ⟨.inl rfl,rfl,rfl⟩
noncomputable def E480 : Env := ⟨Tryz.prog,tys,(Tryz.f4.body).getD .skip,130,tysOk,mixedOk⟩
abbrev K326 (r : Bool) (σ' : ASt) : Prop := isRes E480.T Tryz.f4 (.bool r) [] σ'
noncomputable def m_laws_FnCore (a0 : List UInt8) : Option Bool :=
(m_laws_big a0).bind fun v1 =>
bif v1 then
(some true)
else
((m_spec_DrawFindCore a0).bind fun (v2,v3) =>
(m_impl_FindCore v2 v3).bind fun (v4,v5,v6) =>
(m_spec_FindCore v2 v3).bind fun (v7,v8,v9) =>
bif v4 != v7 then
(some false)
else
((m_spec_EqualVector v5 v8).bind fun v10 =>
bif !v10 then
(some false)
else
((m_spec_EqualVector v6 v9).bind fun v11 =>
bif !v11 then
(some false)
else
((m_impl_CoreName v4).bind fun v12 =>
(m_spec_CoreName v4).bind fun v13 =>
bif !(v12 == v13) then
(some false)
else
(bif v4 == 1 then
((m_impl_CheckCore v2 v3 v4 v5 v6).bind fun v14 =>
bif true != v14 then
(some false)
else
((m_impl_BalancedLP v2 v3).bind fun (v15,v16,v17,v18) =>
(m_spec_BalancedLP v2 v3).bind fun (v19,v20,v21,v22) =>
(m_spec_DrawCheckCore a0).bind fun (v23,v24,v25,v26,v27) =>
bif v15 != v19 then
(some false)
else
((m_laws_sameLP v16 v17 v18 v20 v21 v22).bind fun v28 =>
bif !v28 then
(some false)
else
((m_impl_CheckCore v23 v25 v24 v26 v27).bind fun v29 =>
(m_spec_CheckCore v23 v25 v24 v26 v27).bind fun v30 =>
bif v29 != v30 then
(some false)
else
((m_spec_DrawIsBalancedCollection a0).bind fun (v31,v32) =>
(m_spec_FindCore v23 v25).bind fun (v33,_,_) =>
(m_impl_IsBalancedCollection v31 v32).bind fun v36 =>
(m_spec_IsBalancedCollection v31 v32).bind fun v37 =>
bif v36 == v37 then
((m_impl_CheckCore v23 v25 v24 v26 v27).bind fun v38 =>
bif !v38 then
(some true)
else
(bif v33 == v24 then
(some true)
else
(some (v33 == 3))))
else
(some false))))))
else
((m_impl_CheckCore v2 v3 v4 v5 v6).bind fun v39 =>
bif (v4 == 2) != v39 then
(some false)
else
((m_impl_BalancedLP v2 v3).bind fun (v40,v41,v42,v43) =>
(m_spec_BalancedLP v2 v3).bind fun (v44,v45,v46,v47) =>
(m_spec_DrawCheckCore a0).bind fun (v48,v49,v50,v51,v52) =>
bif v40 != v44 then
(some false)
else
((m_laws_sameLP v41 v42 v43 v45 v46 v47).bind fun v53 =>
bif !v53 then
(some false)
else
((m_impl_CheckCore v48 v50 v49 v51 v52).bind fun v54 =>
(m_spec_CheckCore v48 v50 v49 v51 v52).bind fun v55 =>
bif v54 != v55 then
(some false)
else
((m_spec_DrawIsBalancedCollection a0).bind fun (v56,v57) =>
(m_spec_FindCore v48 v50).bind fun (v58,_,_) =>
(m_impl_IsBalancedCollection v56 v57).bind fun v61 =>
(m_spec_IsBalancedCollection v56 v57).bind fun v62 =>
bif v61 == v62 then
((m_impl_CheckCore v48 v50 v49 v51 v52).bind fun v63 =>
bif !v63 then
(some true)
else
(bif v58 == v49 then
(some true)
else
(some (v58 == 3))))
else
(some false)))))))))))
theorem w_laws_FnCore (a0 : List UInt8) (r : Bool) (h : m_laws_FnCore a0 = some r) : AM.Spec Tryz.prog 4 [.list (.bytes a0)] [] (.bool r) [] := by
 refine spec_of (E := E480) Tryz.func4 rfl rfl rfl rfl ?_
 refine Tri.f 1 [] [.keep [0] []] rfl trivial ?_
 obtain ⟨v1,hk1,h⟩ := bind_some h
 refine Tri.f 1 [.v (.bool v1)] [.keep [0,16] []] rfl ⟨fun _ => W0 a0 v1 hk1,trivial⟩ ?_
 rcases bif_some h with ⟨hd2,h⟩ | ⟨hd2,h⟩
 ·refine Tri.f 2 [.g true] [.keep [2] []] rfl ⟨hd2,trivial⟩ ?_
  cases h
  exact Tri.ret rfl ⟨.inl rfl,rfl,rfl⟩
 ·obtain ⟨⟨v2,v3⟩,hk3,h⟩ := bind_some h
  refine Tri.f 2 [.g false,.r ⟨[],.agg [.i v2,.sl 1100 0],[(1100,.arr 3 0 0 (.ints v3))]⟩] [.keep [0,3] [3,1100]] rfl ⟨fun _ => (W15 a0 (v2,v3) hk3).swap 1000 1100,hd2,trivial⟩ ?_
  obtain ⟨⟨v4,v5,v6⟩,hk4,h⟩ := bind_some h
  obtain ⟨⟨v7,v8,v9⟩,hk5,h⟩ := bind_some h
  refine Tri.f 2 [.r ⟨[],.agg [.i v4,.sl 1101 0,.sl 1102 0],[(1101,.arr 31 0 0 (.rats v5)),(1102,.arr 31 0 0 (.rats v6))]⟩,.r ⟨[],.agg [.i v7,.sl 1103 0,.sl 1104 0],[(1103,.arr 31 0 0 (.rats v8)),(1104,.arr 31 0 0 (.rats v9))]⟩] [.keep [0,3,4,5] [3,4,5,1100,1101,1102,1103,1104]] rfl ⟨fun _ => ((W129 v2 v3 (v7,v8,v9) hk5).swap 1000 1103).swap 1001 1104,fun _ => ((W81 v2 v3 (v4,v5,v6) hk4).swap 1000 1101).swap 1001 1102,trivial⟩ ?_
  rcases bif_some h with ⟨hd6,h⟩ | ⟨hd6,h⟩
  ·refine Tri.f 1 [.g true,.g true,.g true] [.keep [0,3,4,52] [3,4,1100,1101,1102]] rfl ⟨rfl,rfl,hd6,trivial⟩ ?_
   refine Tri.f 2 [.g true] [.keep [2] []] rfl ⟨rfl,trivial⟩ ?_
   cases h
   exact Tri.ret rfl ⟨.inl rfl,rfl,rfl⟩
  ·obtain ⟨v10,hk7,h⟩ := bind_some h
   rcases bif_some h with ⟨hd8,h⟩ | ⟨hd8,h⟩
   ·refine Tri.f 1 [.g false,.v (.bool v10),.g true,.g true] [.keep [0,3,4,52] [3,4,1100,1101,1102]] rfl ⟨rfl,hd8,fun _ => W130 v5 v8 v10 hk7,hd6,trivial⟩ ?_
    refine Tri.f 2 [.g true] [.keep [2] []] rfl ⟨rfl,trivial⟩ ?_
    cases h
    exact Tri.ret rfl ⟨.inl rfl,rfl,rfl⟩
   ·obtain ⟨v11,hk9,h⟩ := bind_some h
    rcases bif_some h with ⟨hd10,h⟩ | ⟨hd10,h⟩
    ·refine Tri.f 1 [.g false,.v (.bool v10),.g false,.v (.bool v11),.g true] [.keep [0,3,4,52] [3,4,1100,1101,1102]] rfl ⟨hd10,fun _ => W130 v6 v9 v11 hk9,hd8,fun _ => W130 v5 v8 v10 hk7,hd6,trivial⟩ ?_
     refine Tri.f 2 [.g true] [.keep [2] []] rfl ⟨rfl,trivial⟩ ?_
     cases h
     exact Tri.ret rfl ⟨.inl rfl,rfl,rfl⟩
    ·obtain ⟨v12,hk11,h⟩ := bind_some h
     obtain ⟨v13,hk12,h⟩ := bind_some h
     refine Tri.f 1 [.g false,.v (.bool v10),.g false,.v (.bool v11),.g false,.v (.str v12),.v (.str v13)] [.keep [0,3,4,52] [3,4,1100,1101,1102]] rfl ⟨fun _ => W133 v4 v13 hk12,fun _ => W132 v4 v12 hk11,hd10,fun _ => W130 v6 v9 v11 hk9,hd8,fun _ => W130 v5 v8 v10 hk7,hd6,trivial⟩ ?_
     rcases bif_some h with ⟨hd13,h⟩ | ⟨hd13,h⟩
     ·refine Tri.f 2 [.g true] [.keep [2] []] rfl ⟨hd13,trivial⟩ ?_
      cases h
      exact Tri.ret rfl ⟨.inl rfl,rfl,rfl⟩
     ·rcases bif_some h with ⟨hd14,h⟩ | ⟨hd14,h⟩
      ·obtain ⟨v14,hk15,h⟩ := bind_some h
       refine Tri.f 2 [.g false,.g true,.v (.bool v14)] [.keep [0,3,64] [3,1100]] rfl ⟨fun _ => W145 v2 v3 v4 v5 v6 v14 hk15,hd14,hd13,trivial⟩ ?_
       rcases bif_some h with ⟨hd16,h⟩ | ⟨hd16,h⟩
       ·refine Tri.f 2 [.g true] [.keep [2] []] rfl ⟨hd16,trivial⟩ ?_
        cases h
        exact Tri.ret rfl ⟨.inl rfl,rfl,rfl⟩
       ·obtain ⟨⟨v15,v16,v17,v18⟩,hk17,h⟩ := bind_some h
        refine Tri.f 2 [.g false,.r ⟨[],.tuple [.agg [.sl 1105 0,.sl 1106 0,.sl 1107 0],.bool v15],[(1105,.arr 25 0 0 (.intss v16)),(1106,.arr 3 0 0 (.ints v17)),(1107,.arr 31 0 0 (.rats v18))]⟩] [.keep [0,3,6,7] [3,6,1100,1105,1106,1107]] rfl ⟨fun _ => (((W27 v2 v3 (v15,v16,v17,v18) hk17).swap 1000 1105).swap 1001 1106).swap 1002 1107,hd16,trivial⟩ ?_
        obtain ⟨⟨v19,v20,v21,v22⟩,hk18,h⟩ := bind_some h
        obtain ⟨⟨v23,v24,v25,v26,v27⟩,hk19,h⟩ := bind_some h
        refine Tri.f 2 [.r ⟨[],.tuple [.agg [.sl 1108 0,.sl 1109 0,.sl 1110 0],.bool v19],[(1108,.arr 25 0 0 (.intss v20)),(1109,.arr 3 0 0 (.ints v21)),(1110,.arr 31 0 0 (.rats v22))]⟩,.r ⟨[],.tuple [.agg [.i v23,.sl 1111 0],.agg [.i v24,.sl 1112 0,.sl 1113 0]],[(1111,.arr 3 0 0 (.ints v25)),(1112,.arr 31 0 0 (.rats v26)),(1113,.arr 31 0 0 (.rats v27))]⟩] [.keep [0,6,7,8,9,10,11] [6,8,10,11,1105,1106,1107,1108,1109,1110,1111,1112,1113]] rfl ⟨fun _ => (((W149 a0 (v23,v24,v25,v26,v27) hk19).swap 1000 1111).swap 1001 1112).swap 1002 1113,fun _ => (((W84 v2 v3 (v19,v20,v21,v22) hk18).swap 1000 1108).swap 1001 1109).swap 1002 1110,trivial⟩ ?_
        rcases bif_some h with ⟨hd20,h⟩ | ⟨hd20,h⟩
        ·refine Tri.f 1 [.g true,.g true] [.keep [0,10,11,97] [10,11,1111,1112,1113]] rfl ⟨rfl,hd20,trivial⟩ ?_
         refine Tri.f 2 [.g true] [.keep [2] []] rfl ⟨rfl,trivial⟩ ?_
         cases h
         exact Tri.ret rfl ⟨.inl rfl,rfl,rfl⟩
        ·obtain ⟨v28,hk21,h⟩ := bind_some h
         rcases bif_some h with ⟨hd22,h⟩ | ⟨hd22,h⟩
         ·refine Tri.f 1 [.g false,.v (.bool v28),.g true] [.keep [0,10,11,97] [10,11,1111,1112,1113]] rfl ⟨hd22,fun _ => W152 v16 v17 v18 v20 v21 v22 v28 hk21,hd20,trivial⟩ ?_
          refine Tri.f 2 [.g true] [.keep [2] []] rfl ⟨rfl,trivial⟩ ?_
          cases h
          exact Tri.ret rfl ⟨.inl rfl,rfl,rfl⟩
         ·obtain ⟨v29,hk23,h⟩ := bind_some h
          obtain ⟨v30,hk24,h⟩ := bind_some h
          refine Tri.f 1 [.g false,.v (.bool v28),.g false,.v (.bool v29),.v (.bool v30)] [.keep [0,10,11,97] [10,11,1111,1112,1113]] rfl ⟨fun _ => W161 v23 v25 v24 v26 v27 v30 hk24,fun _ => W145 v23 v25 v24 v26 v27 v29 hk23,hd22,fun _ => W152 v16 v17 v18 v20 v21 v22 v28 hk21,hd20,trivial⟩ ?_
          rcases bif_some h with ⟨hd25,h⟩ | ⟨hd25,h⟩
          ·refine Tri.f 2 [.g true] [.keep [2] []] rfl ⟨hd25,trivial⟩ ?_
           cases h
           exact Tri.ret rfl ⟨.inl rfl,rfl,rfl⟩
          ·obtain ⟨⟨v31,v32⟩,hk26,h⟩ := bind_some h
           refine Tri.f 2 [.g false,.r ⟨[],.tuple [.i v31,.sl 1114 0],[(1114,.arr 31 0 0 (.rats v32))]⟩] [.keep [10,11,12,13] [10,11,1111,1112,1113,1114]] rfl ⟨fun _ => (W162 a0 (v31,v32) hk26).swap 1000 1114,hd25,trivial⟩ ?_
           obtain ⟨⟨v33,v34,v35⟩,hk27,h⟩ := bind_some h
           obtain ⟨v36,hk28,h⟩ := bind_some h
           obtain ⟨v37,hk29,h⟩ := bind_some h
           rcases bif_some h with ⟨hd30,h⟩ | ⟨hd30,h⟩
           ·obtain ⟨v38,hk31,h⟩ := bind_some h
            rcases bif_some h with ⟨hd32,h⟩ | ⟨hd32,h⟩
            ·refine Tri.f 2 [.r ⟨[],.agg [.i v33,.sl 1115 0,.sl 1116 0],[(1115,.arr 31 0 0 (.rats v34)),(1116,.arr 31 0 0 (.rats v35))]⟩,.v (.bool v36),.v (.bool v37),.g true,.v (.bool v38),.g true,.g true] [.keep [2] []] rfl ⟨rfl,hd32,fun _ => W145 v23 v25 v24 v26 v27 v38 hk31,hd30,fun _ => W160 v31 v32 v37 hk29,fun _ => W144 v31 v32 v36 hk28,fun _ => ((W129 v23 v25 (v33,v34,v35) hk27).swap 1000 1115).swap 1001 1116,trivial⟩ ?_
             cases h
             exact Tri.ret rfl ⟨.inl rfl,rfl,rfl⟩
            ·rcases bif_some h with ⟨hd33,h⟩ | ⟨hd33,h⟩
             ·refine Tri.f 2 [.r ⟨[],.agg [.i v33,.sl 1115 0,.sl 1116 0],[(1115,.arr 31 0 0 (.rats v34)),(1116,.arr 31 0 0 (.rats v35))]⟩,.v (.bool v36),.v (.bool v37),.g true,.v (.bool v38),.g false,.g true] [.keep [2] []] rfl ⟨hd33,hd32,fun _ => W145 v23 v25 v24 v26 v27 v38 hk31,hd30,fun _ => W160 v31 v32 v37 hk29,fun _ => W144 v31 v32 v36 hk28,fun _ => ((W129 v23 v25 (v33,v34,v35) hk27).swap 1000 1115).swap 1001 1116,trivial⟩ ?_
              cases h
              exact Tri.ret rfl ⟨.inl rfl,rfl,rfl⟩
             ·refine Tri.f 2 [.r ⟨[],.agg [.i v33,.sl 1115 0,.sl 1116 0],[(1115,.arr 31 0 0 (.rats v34)),(1116,.arr 31 0 0 (.rats v35))]⟩,.v (.bool v36),.v (.bool v37),.g true,.v (.bool v38),.g false,.g false] [.keep [2] []] rfl ⟨hd33,hd32,fun _ => W145 v23 v25 v24 v26 v27 v38 hk31,hd30,fun _ => W160 v31 v32 v37 hk29,fun _ => W144 v31 v32 v36 hk28,fun _ => ((W129 v23 v25 (v33,v34,v35) hk27).swap 1000 1115).swap 1001 1116,trivial⟩ ?_
              cases h
              exact Tri.ret rfl ⟨.inl rfl,rfl,rfl⟩
           ·refine Tri.f 2 [.r ⟨[],.agg [.i v33,.sl 1115 0,.sl 1116 0],[(1115,.arr 31 0 0 (.rats v34)),(1116,.arr 31 0 0 (.rats v35))]⟩,.v (.bool v36),.v (.bool v37),.g false] [.keep [2] []] rfl ⟨hd30,fun _ => W160 v31 v32 v37 hk29,fun _ => W144 v31 v32 v36 hk28,fun _ => ((W129 v23 v25 (v33,v34,v35) hk27).swap 1000 1115).swap 1001 1116,trivial⟩ ?_
            cases h
            exact Tri.ret rfl ⟨.inl rfl,rfl,rfl⟩
      ·obtain ⟨v39,hk34,h⟩ := bind_some h
       refine Tri.f 2 [.g false,.g false,.v (.bool v39)] [.keep [0,3,64] [3,1100]] rfl ⟨fun _ => W145 v2 v3 v4 v5 v6 v39 hk34,hd14,hd13,trivial⟩ ?_
       rcases bif_some h with ⟨hd35,h⟩ | ⟨hd35,h⟩
       ·refine Tri.f 2 [.g true] [.keep [2] []] rfl ⟨hd35,trivial⟩ ?_
        cases h
        exact Tri.ret rfl ⟨.inl rfl,rfl,rfl⟩
       ·obtain ⟨⟨v40,v41,v42,v43⟩,hk36,h⟩ := bind_some h
        refine Tri.f 2 [.g false,.r ⟨[],.tuple [.agg [.sl 1117 0,.sl 1118 0,.sl 1119 0],.bool v40],[(1117,.arr 25 0 0 (.intss v41)),(1118,.arr 3 0 0 (.ints v42)),(1119,.arr 31 0 0 (.rats v43))]⟩] [.keep [0,3,6,7] [3,6,1100,1117,1118,1119]] rfl ⟨fun _ => (((W27 v2 v3 (v40,v41,v42,v43) hk36).swap 1000 1117).swap 1001 1118).swap 1002 1119,hd35,trivial⟩ ?_
        obtain ⟨⟨v44,v45,v46,v47⟩,hk37,h⟩ := bind_some h
        obtain ⟨⟨v48,v49,v50,v51,v52⟩,hk38,h⟩ := bind_some h
        refine Tri.f 2 [.r ⟨[],.tuple [.agg [.sl 1120 0,.sl 1121 0,.sl 1122 0],.bool v44],[(1120,.arr 25 0 0 (.intss v45)),(1121,.arr 3 0 0 (.ints v46)),(1122,.arr 31 0 0 (.rats v47))]⟩,.r ⟨[],.tuple [.agg [.i v48,.sl 1123 0],.agg [.i v49,.sl 1124 0,.sl 1125 0]],[(1123,.arr 3 0 0 (.ints v50)),(1124,.arr 31 0 0 (.rats v51)),(1125,.arr 31 0 0 (.rats v52))]⟩] [.keep [0,6,7,8,9,10,11] [6,8,10,11,1117,1118,1119,1120,1121,1122,1123,1124,1125]] rfl ⟨fun _ => (((W149 a0 (v48,v49,v50,v51,v52) hk38).swap 1000 1123).swap 1001 1124).swap 1002 1125,fun _ => (((W84 v2 v3 (v44,v45,v46,v47) hk37).swap 1000 1120).swap 1001 1121).swap 1002 1122,trivial⟩ ?_
        rcases bif_some h with ⟨hd39,h⟩ | ⟨hd39,h⟩
        ·refine Tri.f 1 [.g true,.g true] [.keep [0,10,11,97] [10,11,1123,1124,1125]] rfl ⟨rfl,hd39,trivial⟩ ?_
         refine Tri.f 2 [.g true] [.keep [2] []] rfl ⟨rfl,trivial⟩ ?_
         cases h
         exact Tri.ret rfl ⟨.inl rfl,rfl,rfl⟩
        ·obtain ⟨v53,hk40,h⟩ := bind_some h
         rcases bif_some h with ⟨hd41,h⟩ | ⟨hd41,h⟩
         ·refine Tri.f 1 [.g false,.v (.bool v53),.g true] [.keep [0,10,11,97] [10,11,1123,1124,1125]] rfl ⟨hd41,fun _ => W152 v41 v42 v43 v45 v46 v47 v53 hk40,hd39,trivial⟩ ?_
          refine Tri.f 2 [.g true] [.keep [2] []] rfl ⟨rfl,trivial⟩ ?_
          cases h
          exact Tri.ret rfl ⟨.inl rfl,rfl,rfl⟩
         ·obtain ⟨v54,hk42,h⟩ := bind_some h
          obtain ⟨v55,hk43,h⟩ := bind_some h
          refine Tri.f 1 [.g false,.v (.bool v53),.g false,.v (.bool v54),.v (.bool v55)] [.keep [0,10,11,97] [10,11,1123,1124,1125]] rfl ⟨fun _ => W161 v48 v50 v49 v51 v52 v55 hk43,fun _ => W145 v48 v50 v49 v51 v52 v54 hk42,hd41,fun _ => W152 v41 v42 v43 v45 v46 v47 v53 hk40,hd39,trivial⟩ ?_
          rcases bif_some h with ⟨hd44,h⟩ | ⟨hd44,h⟩
          ·refine Tri.f 2 [.g true] [.keep [2] []] rfl ⟨hd44,trivial⟩ ?_
           cases h
           exact Tri.ret rfl ⟨.inl rfl,rfl,rfl⟩
          ·obtain ⟨⟨v56,v57⟩,hk45,h⟩ := bind_some h
           refine Tri.f 2 [.g false,.r ⟨[],.tuple [.i v56,.sl 1126 0],[(1126,.arr 31 0 0 (.rats v57))]⟩] [.keep [10,11,12,13] [10,11,1123,1124,1125,1126]] rfl ⟨fun _ => (W162 a0 (v56,v57) hk45).swap 1000 1126,hd44,trivial⟩ ?_
           obtain ⟨⟨v58,v59,v60⟩,hk46,h⟩ := bind_some h
           obtain ⟨v61,hk47,h⟩ := bind_some h
           obtain ⟨v62,hk48,h⟩ := bind_some h
           rcases bif_some h with ⟨hd49,h⟩ | ⟨hd49,h⟩
           ·obtain ⟨v63,hk50,h⟩ := bind_some h
            rcases bif_some h with ⟨hd51,h⟩ | ⟨hd51,h⟩
            ·refine Tri.f 2 [.r ⟨[],.agg [.i v58,.sl 1127 0,.sl 1128 0],[(1127,.arr 31 0 0 (.rats v59)),(1128,.arr 31 0 0 (.rats v60))]⟩,.v (.bool v61),.v (.bool v62),.g true,.v (.bool v63),.g true,.g true] [.keep [2] []] rfl ⟨rfl,hd51,fun _ => W145 v48 v50 v49 v51 v52 v63 hk50,hd49,fun _ => W160 v56 v57 v62 hk48,fun _ => W144 v56 v57 v61 hk47,fun _ => ((W129 v48 v50 (v58,v59,v60) hk46).swap 1000 1127).swap 1001 1128,trivial⟩ ?_
             cases h
             exact Tri.ret rfl ⟨.inl rfl,rfl,rfl⟩
            ·rcases bif_some h with ⟨hd52,h⟩ | ⟨hd52,h⟩
             ·refine Tri.f 2 [.r ⟨[],.agg [.i v58,.sl 1127 0,.sl 1128 0],[(1127,.arr 31 0 0 (.rats v59)),(1128,.arr 31 0 0 (.rats v60))]⟩,.v (.bool v61),.v (.bool v62),.g true,.v (.bool v63),.g false,.g true] [.keep [2] []] rfl ⟨hd52,hd51,fun _ => W145 v48 v50 v49 v51 v52 v63 hk50,hd49,fun _ => W160 v56 v57 v62 hk48,fun _ => W144 v56 v57 v61 hk47,fun _ => ((W129 v48 v50 (v58,v59,v60) hk46).swap 1000 1127).swap 1001 1128,trivial⟩ ?_
              cases h
              exact Tri.ret rfl ⟨.inl rfl,rfl,rfl⟩
             ·refine Tri.f 2 [.r ⟨[],.agg [.i v58,.sl 1127 0,.sl 1128 0],[(1127,.arr 31 0 0 (.rats v59)),(1128,.arr 31 0 0 (.rats v60))]⟩,.v (.bool v61),.v (.bool v62),.g true,.v (.bool v63),.g false,.g false] [.keep [2] []] rfl ⟨hd52,hd51,fun _ => W145 v48 v50 v49 v51 v52 v63 hk50,hd49,fun _ => W160 v56 v57 v62 hk48,fun _ => W144 v56 v57 v61 hk47,fun _ => ((W129 v48 v50 (v58,v59,v60) hk46).swap 1000 1127).swap 1001 1128,trivial⟩ ?_
              cases h
              exact Tri.ret rfl ⟨.inl rfl,rfl,rfl⟩
           ·refine Tri.f 2 [.r ⟨[],.agg [.i v58,.sl 1127 0,.sl 1128 0],[(1127,.arr 31 0 0 (.rats v59)),(1128,.arr 31 0 0 (.rats v60))]⟩,.v (.bool v61),.v (.bool v62),.g false] [.keep [2] []] rfl ⟨hd49,fun _ => W160 v56 v57 v62 hk48,fun _ => W144 v56 v57 v61 hk47,fun _ => ((W129 v48 v50 (v58,v59,v60) hk46).swap 1000 1127).swap 1001 1128,trivial⟩ ?_
            cases h
            exact Tri.ret rfl ⟨.inl rfl,rfl,rfl⟩
end Go.Proofs.YtjnbmknniadbpaaGreat
