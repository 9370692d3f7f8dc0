/- models and walks -/
import Derived.Test.YtmlfjoppaciknaaGGames
namespace Go.Proofs.Ytmlfjoppaciknaa
open Go.AM
set_option maxRecDepth 100000
set_option maxHeartbeats 4000000
/-! laws.FnGames -/
noncomputable def E4_laws_FnGames : Env := ⟨Try.prog, tys, (Try.f4.body).getD .skip, 152, tysOk, mixedOk⟩
abbrev q_laws_FnGames (r : Bool) (σ' : ASt) : Prop := resAV E4_laws_FnGames.T σ' Try.f4.results.toList = some (.bool r) ∧ keepO σ'.ob (namesO []) = []
noncomputable def m_laws_FnGames (a0 : List UInt8) : Option Bool :=
(m_laws_big a0).bind fun v1 =>
bif v1 then
(some true)
else
((m_spec_DrawAddGames a0).bind fun (v2, v3, v4, v5) =>
(m_impl_AddGames v2 v4 v3 v5).bind fun (v6, v7, v8) =>
(m_spec_AddGames v2 v4 v3 v5).bind fun (v9, v10, v11) =>
(m_spec_DrawScaleGame a0).bind fun (v12, v13, v14, v15) =>
(m_impl_ScaleGame v12 v14 v13 v15).bind fun (v16, v17, v18) =>
(m_spec_ScaleGame v12 v14 v13 v15).bind fun (v19, v20, v21) =>
bif v7 != v10 then
(some false)
else
((m_impl_EqualGame v6 v8 v9 v11).bind fun v22 =>
bif !v22 then
(some false)
else
(bif v17 != v20 then
(some false)
else
((m_impl_EqualGame v16 v18 v19 v21).bind fun v23 =>
bif !v23 then
(some false)
else
(bif v7 then
((m_impl_GrandValue v6 v8).bind fun v24 =>
(m_impl_GrandValue v2 v4).bind fun v25 =>
(m_impl_GrandValue v3 v5).bind fun v26 =>
bif v24 != (IntKind.i64.wrap (v25 + v26)) then
(some false)
else
((m_spec_DrawRestrict a0).bind fun (v27, v28, v29) =>
(m_impl_Restrict v27 v29 v28).bind fun (v30, v31, v32) =>
(m_spec_Restrict v27 v29 v28).bind fun (v33, v34, v35) =>
bif v31 != v34 then
(some false)
else
((m_impl_EqualGame v30 v32 v33 v35).bind fun v36 =>
bif !v36 then
(some false)
else
(bif v31 then
((m_impl_GrandValue v30 v32).bind fun v37 =>
(m_impl_ValueOf v27 v29 v28).bind fun v38 =>
bif v37 != v38 then
(some false)
else
((m_impl_SizeOf v28).bind fun v39 =>
bif v30 != v39 then
(some false)
else
((m_impl_IsValidGame v27 v29).bind fun v40 =>
(m_spec_IsValidGame v27 v29).bind fun v41 =>
bif v40 == v41 then
((m_impl_ValueOf v27 v29 v28).bind fun v42 =>
(m_spec_ValueOf v27 v29 v28).bind fun v43 =>
some (v42 == v43))
else
(some false))))
else
((m_impl_IsValidGame v27 v29).bind fun v44 =>
(m_spec_IsValidGame v27 v29).bind fun v45 =>
bif v44 == v45 then
((m_impl_ValueOf v27 v29 v28).bind fun v46 =>
(m_spec_ValueOf v27 v29 v28).bind fun v47 =>
some (v46 == v47))
else
(some false))))))
else
((m_spec_DrawRestrict a0).bind fun (v48, v49, v50) =>
(m_impl_Restrict v48 v50 v49).bind fun (v51, v52, v53) =>
(m_spec_Restrict v48 v50 v49).bind fun (v54, v55, v56) =>
bif v52 != v55 then
(some false)
else
((m_impl_EqualGame v51 v53 v54 v56).bind fun v57 =>
bif !v57 then
(some false)
else
(bif v52 then
((m_impl_GrandValue v51 v53).bind fun v58 =>
(m_impl_ValueOf v48 v50 v49).bind fun v59 =>
bif v58 != v59 then
(some false)
else
((m_impl_SizeOf v49).bind fun v60 =>
bif v51 != v60 then
(some false)
else
((m_impl_IsValidGame v48 v50).bind fun v61 =>
(m_spec_IsValidGame v48 v50).bind fun v62 =>
bif v61 == v62 then
((m_impl_ValueOf v48 v50 v49).bind fun v63 =>
(m_spec_ValueOf v48 v50 v49).bind fun v64 =>
some (v63 == v64))
else
(some false))))
else
((m_impl_IsValidGame v48 v50).bind fun v65 =>
(m_spec_IsValidGame v48 v50).bind fun v66 =>
bif v65 == v66 then
((m_impl_ValueOf v48 v50 v49).bind fun v67 =>
(m_spec_ValueOf v48 v50 v49).bind fun v68 =>
some (v67 == v68))
else
(some false))))))))))
theorem w_laws_FnGames (a0 : List UInt8) (r : Bool) (h : m_laws_FnGames a0 = some r) : AM.Spec Try.prog 4 [.list (.bytes a0)] [] (.bool r) [] := by
  refine spec_of (E := E4_laws_FnGames) Try.func4 rfl rfl rfl rfl ?_
  refine Tri.run 1 [] [.keep [0] []] (K' := [.code [(1, 0), (0, 0)] 0, .code [(1, 0)] 1, .code [] 2]) (σ' := ⟨[(0, .list (.bytes a0))], []⟩) rfl trivial rfl ?_
  obtain ⟨v1, hk1, h⟩ := bind_some h
  refine Tri.run 1 [.r ⟨[], .bool v1, []⟩] [.keep [0, 23] []] (K' := [.code [(1, 0)] 1, .code [] 2]) (σ' := ⟨[(0, .list (.bytes a0)), (23, .bool v1)], []⟩) rfl ⟨(fun _ => (w_laws_big a0 v1 hk1)), trivial⟩ rfl ?_
  rcases bif_some h with ⟨hd2, h⟩ | ⟨hd2, h⟩
  · refine Tri.run 2 [.g true] [.keep [2] []] (K' := [.code [(1, 0), (1, 0)] 1, .code [] 2]) (σ' := ⟨[(2, .bool true)], []⟩) rfl ⟨hd2, trivial⟩ rfl ?_
    have h := Option.some.inj h
    subst h
    exact Tri.ret rfl ⟨.inl rfl, rfl, rfl⟩
  · obtain ⟨⟨v2, v3, v4, v5⟩, hk3, h⟩ := bind_some h
    refine Tri.run 2 [.g false, .r ⟨[], .tuple [.agg [.int .i64 v2, .sl 1100 0], .agg [.int .i64 v3, .sl 1101 0]], [(1100, .arr 3 0 0 (.ints v4)), (1101, .arr 3 0 0 (.ints v5))]⟩] [.keep [0, 3, 4] [3, 4, 1100, 1101]] (K' := [.code [(3, 0)] 0, .code [] 4]) (σ' := ⟨[(0, .list (.bytes a0)), (3, .ptr 3 0), (4, .ptr 4 0)], [(3, .box [.int .i64 v2, .sl 1100 0]), (4, .box [.int .i64 v3, .sl 1101 0]), (1100, .arr 3 0 0 (.ints v4)), (1101, .arr 3 0 0 (.ints v5))]⟩) rfl ⟨(fun _ => (((w_spec_DrawAddGames a0 (v2, v3, v4, v5) hk3).swap 1000 1100).swap 1001 1101)), hd2, trivial⟩ rfl ?_
    obtain ⟨⟨v6, v7, v8⟩, hk4, h⟩ := bind_some h
    obtain ⟨⟨v9, v10, v11⟩, hk5, h⟩ := bind_some h
    refine Tri.run 2 [.r ⟨[], .tuple [.agg [.int .i64 v6, .sl 1102 0], .bool v7], [(1102, .arr 3 0 0 (.ints v8))]⟩, .r ⟨[], .tuple [.agg [.int .i64 v9, .sl 1103 0], .bool v10], [(1103, .arr 3 0 0 (.ints v11))]⟩] [.keep [0, 3, 4, 5, 6, 7, 8] [3, 4, 5, 7, 1100, 1101, 1102, 1103]] (K' := [.code [(5, 0)] 0, .code [] 6]) (σ' := ⟨[(0, .list (.bytes a0)), (3, .ptr 3 0), (4, .ptr 4 0), (5, .ptr 5 0), (6, .bool v7), (7, .ptr 7 0), (8, .bool v10)], [(3, .box [.int .i64 v2, .sl 1100 0]), (4, .box [.int .i64 v3, .sl 1101 0]), (5, .box [.int .i64 v6, .sl 1102 0]), (7, .box [.int .i64 v9, .sl 1103 0]), (1100, .arr 3 0 0 (.ints v4)), (1101, .arr 3 0 0 (.ints v5)), (1102, .arr 3 0 0 (.ints v8)), (1103, .arr 3 0 0 (.ints v11))]⟩) rfl ⟨(fun _ => ((w_spec_AddGames v2 v4 v3 v5 (v9, v10, v11) hk5).swap 1000 1103)), (fun _ => ((w_impl_AddGames v2 v4 v3 v5 (v6, v7, v8) hk4).swap 1000 1102)), trivial⟩ rfl ?_
    obtain ⟨⟨v12, v13, v14, v15⟩, hk6, h⟩ := bind_some h
    obtain ⟨⟨v16, v17, v18⟩, hk7, h⟩ := bind_some h
    refine Tri.run 2 [.r ⟨[], .tuple [.agg [.int .i64 v12, .sl 1104 0], .int .i64 v13, .sl 1105 0], [(1104, .arr 3 0 0 (.ints v14)), (1105, .arr 3 0 0 (.ints v15))]⟩, .r ⟨[], .tuple [.agg [.int .i64 v16, .sl 1106 0], .bool v17], [(1106, .arr 3 0 0 (.ints v18))]⟩] [.keep [0, 3, 4, 5, 6, 7, 8, 9, 10, 11, 12, 13] [3, 4, 5, 7, 9, 12, 1100, 1101, 1102, 1103, 1104, 1105, 1106]] (K' := [.code [(7, 0)] 0, .code [] 8]) (σ' := ⟨[(0, .list (.bytes a0)), (3, .ptr 3 0), (4, .ptr 4 0), (5, .ptr 5 0), (6, .bool v7), (7, .ptr 7 0), (8, .bool v10), (9, .ptr 9 0), (10, .int .i64 v13), (11, .sl 1105 0), (12, .ptr 12 0), (13, .bool v17)], [(3, .box [.int .i64 v2, .sl 1100 0]), (4, .box [.int .i64 v3, .sl 1101 0]), (5, .box [.int .i64 v6, .sl 1102 0]), (7, .box [.int .i64 v9, .sl 1103 0]), (9, .box [.int .i64 v12, .sl 1104 0]), (12, .box [.int .i64 v16, .sl 1106 0]), (1100, .arr 3 0 0 (.ints v4)), (1101, .arr 3 0 0 (.ints v5)), (1102, .arr 3 0 0 (.ints v8)), (1103, .arr 3 0 0 (.ints v11)), (1104, .arr 3 0 0 (.ints v14)), (1105, .arr 3 0 0 (.ints v15)), (1106, .arr 3 0 0 (.ints v18))]⟩) rfl ⟨(fun _ => ((w_impl_ScaleGame v12 v14 v13 v15 (v16, v17, v18) hk7).swap 1000 1106)), (fun _ => (((w_spec_DrawScaleGame a0 (v12, v13, v14, v15) hk6).swap 1000 1104).swap 1001 1105)), trivial⟩ rfl ?_
    obtain ⟨⟨v19, v20, v21⟩, hk8, h⟩ := bind_some h
    rcases bif_some h with ⟨hd9, h⟩ | ⟨hd9, h⟩
    · refine Tri.run 2 [.r ⟨[], .tuple [.agg [.int .i64 v19, .sl 1107 0], .bool v20], [(1107, .arr 3 0 0 (.ints v21))]⟩, .g true, .g true, .g true, .g true] [.keep [0, 93] []] (K' := [.code [(8, 0)] 1, .code [] 9]) (σ' := ⟨[(0, .list (.bytes a0)), (93, .bool true)], []⟩) rfl ⟨rfl, rfl, rfl, hd9, (fun _ => ((w_spec_ScaleGame v12 v14 v13 v15 (v19, v20, v21) hk8).swap 1000 1107)), trivial⟩ rfl ?_
      refine Tri.run 2 [.g true] [.keep [2] []] (K' := [.code [(8, 0), (1, 0)] 1, .code [] 9]) (σ' := ⟨[(2, .bool false)], []⟩) rfl ⟨rfl, trivial⟩ rfl ?_
      have h := Option.some.inj h
      subst h
      exact Tri.ret rfl ⟨.inl rfl, rfl, rfl⟩
    · obtain ⟨v22, hk10, h⟩ := bind_some h
      rcases bif_some h with ⟨hd11, h⟩ | ⟨hd11, h⟩
      · refine Tri.run 2 [.r ⟨[], .tuple [.agg [.int .i64 v19, .sl 1107 0], .bool v20], [(1107, .arr 3 0 0 (.ints v21))]⟩, .g false, .r ⟨[], .bool v22, []⟩, .g true, .g true, .g true] [.keep [0, 93] []] (K' := [.code [(8, 0)] 1, .code [] 9]) (σ' := ⟨[(0, .list (.bytes a0)), (93, .bool true)], []⟩) rfl ⟨rfl, rfl, hd11, (fun _ => (w_impl_EqualGame v6 v8 v9 v11 v22 hk10)), hd9, (fun _ => ((w_spec_ScaleGame v12 v14 v13 v15 (v19, v20, v21) hk8).swap 1000 1107)), trivial⟩ rfl ?_
        refine Tri.run 2 [.g true] [.keep [2] []] (K' := [.code [(8, 0), (1, 0)] 1, .code [] 9]) (σ' := ⟨[(2, .bool false)], []⟩) rfl ⟨rfl, trivial⟩ rfl ?_
        have h := Option.some.inj h
        subst h
        exact Tri.ret rfl ⟨.inl rfl, rfl, rfl⟩
      · rcases bif_some h with ⟨hd12, h⟩ | ⟨hd12, h⟩
        · refine Tri.run 2 [.r ⟨[], .tuple [.agg [.int .i64 v19, .sl 1107 0], .bool v20], [(1107, .arr 3 0 0 (.ints v21))]⟩, .g false, .r ⟨[], .bool v22, []⟩, .g false, .g true, .g true] [.keep [0, 93] []] (K' := [.code [(8, 0)] 1, .code [] 9]) (σ' := ⟨[(0, .list (.bytes a0)), (93, .bool true)], []⟩) rfl ⟨rfl, hd12, hd11, (fun _ => (w_impl_EqualGame v6 v8 v9 v11 v22 hk10)), hd9, (fun _ => ((w_spec_ScaleGame v12 v14 v13 v15 (v19, v20, v21) hk8).swap 1000 1107)), trivial⟩ rfl ?_
          refine Tri.run 2 [.g true] [.keep [2] []] (K' := [.code [(8, 0), (1, 0)] 1, .code [] 9]) (σ' := ⟨[(2, .bool false)], []⟩) rfl ⟨rfl, trivial⟩ rfl ?_
          have h := Option.some.inj h
          subst h
          exact Tri.ret rfl ⟨.inl rfl, rfl, rfl⟩
        · obtain ⟨v23, hk13, h⟩ := bind_some h
          rcases bif_some h with ⟨hd14, h⟩ | ⟨hd14, h⟩
          · refine Tri.run 2 [.r ⟨[], .tuple [.agg [.int .i64 v19, .sl 1107 0], .bool v20], [(1107, .arr 3 0 0 (.ints v21))]⟩, .g false, .r ⟨[], .bool v22, []⟩, .g false, .g false, .r ⟨[], .bool v23, []⟩, .g true] [.keep [0, 93] []] (K' := [.code [(8, 0)] 1, .code [] 9]) (σ' := ⟨[(0, .list (.bytes a0)), (93, .bool true)], []⟩) rfl ⟨hd14, (fun _ => (w_impl_EqualGame v16 v18 v19 v21 v23 hk13)), hd12, hd11, (fun _ => (w_impl_EqualGame v6 v8 v9 v11 v22 hk10)), hd9, (fun _ => ((w_spec_ScaleGame v12 v14 v13 v15 (v19, v20, v21) hk8).swap 1000 1107)), trivial⟩ rfl ?_
            refine Tri.run 2 [.g true] [.keep [2] []] (K' := [.code [(8, 0), (1, 0)] 1, .code [] 9]) (σ' := ⟨[(2, .bool false)], []⟩) rfl ⟨rfl, trivial⟩ rfl ?_
            have h := Option.some.inj h
            subst h
            exact Tri.ret rfl ⟨.inl rfl, rfl, rfl⟩
          · rcases bif_some h with ⟨hd15, h⟩ | ⟨hd15, h⟩
            · obtain ⟨v24, hk16, h⟩ := bind_some h
              obtain ⟨v25, hk17, h⟩ := bind_some h
              obtain ⟨v26, hk18, h⟩ := bind_some h
              refine Tri.run 2 [.r ⟨[], .tuple [.agg [.int .i64 v19, .sl 1107 0], .bool v20], [(1107, .arr 3 0 0 (.ints v21))]⟩, .g false, .r ⟨[], .bool v22, []⟩, .g false, .g false, .r ⟨[], .bool v23, []⟩, .g false, .g true, .r ⟨[], .int .i64 v24, []⟩, .r ⟨[], .int .i64 v25, []⟩, .r ⟨[], .int .i64 v26, []⟩] [.keep [0, 93] []] (K' := [.code [(8, 0)] 1, .code [] 9]) (σ' := ⟨[(0, .list (.bytes a0)), (93, .bool (v24 != (IntKind.i64.wrap (v25 + v26))))], []⟩) rfl ⟨(fun _ => (w_impl_GrandValue v3 v5 v26 hk18)), (fun _ => (w_impl_GrandValue v2 v4 v25 hk17)), (fun _ => (w_impl_GrandValue v6 v8 v24 hk16)), hd15, hd14, (fun _ => (w_impl_EqualGame v16 v18 v19 v21 v23 hk13)), hd12, hd11, (fun _ => (w_impl_EqualGame v6 v8 v9 v11 v22 hk10)), hd9, (fun _ => ((w_spec_ScaleGame v12 v14 v13 v15 (v19, v20, v21) hk8).swap 1000 1107)), trivial⟩ rfl ?_
              rcases bif_some h with ⟨hd19, h⟩ | ⟨hd19, h⟩
              · refine Tri.run 2 [.g true] [.keep [2] []] (K' := [.code [(8, 0), (1, 0)] 1, .code [] 9]) (σ' := ⟨[(2, .bool false)], []⟩) rfl ⟨hd19, trivial⟩ rfl ?_
                have h := Option.some.inj h
                subst h
                exact Tri.ret rfl ⟨.inl rfl, rfl, rfl⟩
              · obtain ⟨⟨v27, v28, v29⟩, hk20, h⟩ := bind_some h
                refine Tri.run 2 [.g false, .r ⟨[], .tuple [.agg [.int .i64 v27, .sl 1108 0], .int .i64 v28], [(1108, .arr 3 0 0 (.ints v29))]⟩] [.keep [16, 17] [16, 1108]] (K' := [.code [(10, 0)] 0, .code [] 11]) (σ' := ⟨[(16, .ptr 16 0), (17, .int .i64 v28)], [(16, .box [.int .i64 v27, .sl 1108 0]), (1108, .arr 3 0 0 (.ints v29))]⟩) rfl ⟨(fun _ => ((w_spec_DrawRestrict a0 (v27, v28, v29) hk20).swap 1000 1108)), hd19, trivial⟩ rfl ?_
                obtain ⟨⟨v30, v31, v32⟩, hk21, h⟩ := bind_some h
                obtain ⟨⟨v33, v34, v35⟩, hk22, h⟩ := bind_some h
                refine Tri.run 2 [.r ⟨[], .tuple [.agg [.int .i64 v30, .sl 1109 0], .bool v31], [(1109, .arr 3 0 0 (.ints v32))]⟩, .r ⟨[], .tuple [.agg [.int .i64 v33, .sl 1110 0], .bool v34], [(1110, .arr 3 0 0 (.ints v35))]⟩] [.keep [16, 17, 18, 19, 20, 21] [16, 18, 20, 1108, 1109, 1110]] (K' := [.code [(12, 0), (0, 0)] 0, .code [(12, 0)] 1, .code [] 13]) (σ' := ⟨[(16, .ptr 16 0), (17, .int .i64 v28), (18, .ptr 18 0), (19, .bool v31), (20, .ptr 20 0), (21, .bool v34)], [(16, .box [.int .i64 v27, .sl 1108 0]), (18, .box [.int .i64 v30, .sl 1109 0]), (20, .box [.int .i64 v33, .sl 1110 0]), (1108, .arr 3 0 0 (.ints v29)), (1109, .arr 3 0 0 (.ints v32)), (1110, .arr 3 0 0 (.ints v35))]⟩) rfl ⟨(fun _ => ((w_spec_Restrict v27 v29 v28 (v33, v34, v35) hk22).swap 1000 1110)), (fun _ => ((w_impl_Restrict v27 v29 v28 (v30, v31, v32) hk21).swap 1000 1109)), trivial⟩ rfl ?_
                rcases bif_some h with ⟨hd23, h⟩ | ⟨hd23, h⟩
                · refine Tri.run 1 [.g true, .g true] [.keep [16, 17, 137] [16, 1108]] (K' := [.code [(12, 0)] 1, .code [] 13]) (σ' := ⟨[(16, .ptr 16 0), (17, .int .i64 v28), (137, .bool true)], [(16, .box [.int .i64 v27, .sl 1108 0]), (1108, .arr 3 0 0 (.ints v29))]⟩) rfl ⟨rfl, hd23, trivial⟩ rfl ?_
                  refine Tri.run 2 [.g true] [.keep [2] []] (K' := [.code [(12, 0), (1, 0)] 1, .code [] 13]) (σ' := ⟨[(2, .bool false)], []⟩) rfl ⟨rfl, trivial⟩ rfl ?_
                  have h := Option.some.inj h
                  subst h
                  exact Tri.ret rfl ⟨.inl rfl, rfl, rfl⟩
                · obtain ⟨v36, hk24, h⟩ := bind_some h
                  rcases bif_some h with ⟨hd25, h⟩ | ⟨hd25, h⟩
                  · refine Tri.run 1 [.g false, .r ⟨[], .bool v36, []⟩, .g true] [.keep [16, 17, 137] [16, 1108]] (K' := [.code [(12, 0)] 1, .code [] 13]) (σ' := ⟨[(16, .ptr 16 0), (17, .int .i64 v28), (137, .bool true)], [(16, .box [.int .i64 v27, .sl 1108 0]), (1108, .arr 3 0 0 (.ints v29))]⟩) rfl ⟨hd25, (fun _ => (w_impl_EqualGame v30 v32 v33 v35 v36 hk24)), hd23, trivial⟩ rfl ?_
                    refine Tri.run 2 [.g true] [.keep [2] []] (K' := [.code [(12, 0), (1, 0)] 1, .code [] 13]) (σ' := ⟨[(2, .bool false)], []⟩) rfl ⟨rfl, trivial⟩ rfl ?_
                    have h := Option.some.inj h
                    subst h
                    exact Tri.ret rfl ⟨.inl rfl, rfl, rfl⟩
                  · rcases bif_some h with ⟨hd26, h⟩ | ⟨hd26, h⟩
                    · obtain ⟨v37, hk27, h⟩ := bind_some h
                      obtain ⟨v38, hk28, h⟩ := bind_some h
                      rcases bif_some h with ⟨hd29, h⟩ | ⟨hd29, h⟩
                      · refine Tri.run 1 [.g false, .r ⟨[], .bool v36, []⟩, .g false, .g true, .r ⟨[], .int .i64 v37, []⟩, .r ⟨[], .int .i64 v38, []⟩, .g true] [.keep [16, 17, 137] [16, 1108]] (K' := [.code [(12, 0)] 1, .code [] 13]) (σ' := ⟨[(16, .ptr 16 0), (17, .int .i64 v28), (137, .bool true)], [(16, .box [.int .i64 v27, .sl 1108 0]), (1108, .arr 3 0 0 (.ints v29))]⟩) rfl ⟨hd29, (fun _ => (w_impl_ValueOf v27 v29 v28 v38 hk28)), (fun _ => (w_impl_GrandValue v30 v32 v37 hk27)), hd26, hd25, (fun _ => (w_impl_EqualGame v30 v32 v33 v35 v36 hk24)), hd23, trivial⟩ rfl ?_
                        refine Tri.run 2 [.g true] [.keep [2] []] (K' := [.code [(12, 0), (1, 0)] 1, .code [] 13]) (σ' := ⟨[(2, .bool false)], []⟩) rfl ⟨rfl, trivial⟩ rfl ?_
                        have h := Option.some.inj h
                        subst h
                        exact Tri.ret rfl ⟨.inl rfl, rfl, rfl⟩
                      · obtain ⟨v39, hk30, h⟩ := bind_some h
                        refine Tri.run 1 [.g false, .r ⟨[], .bool v36, []⟩, .g false, .g true, .r ⟨[], .int .i64 v37, []⟩, .r ⟨[], .int .i64 v38, []⟩, .g false, .r ⟨[], .int .i64 v39, []⟩] [.keep [16, 17, 137] [16, 1108]] (K' := [.code [(12, 0)] 1, .code [] 13]) (σ' := ⟨[(16, .ptr 16 0), (17, .int .i64 v28), (137, .bool (v30 != v39))], [(16, .box [.int .i64 v27, .sl 1108 0]), (1108, .arr 3 0 0 (.ints v29))]⟩) rfl ⟨(fun _ => (w_impl_SizeOf v28 v39 hk30)), hd29, (fun _ => (w_impl_ValueOf v27 v29 v28 v38 hk28)), (fun _ => (w_impl_GrandValue v30 v32 v37 hk27)), hd26, hd25, (fun _ => (w_impl_EqualGame v30 v32 v33 v35 v36 hk24)), hd23, trivial⟩ rfl ?_
                        rcases bif_some h with ⟨hd31, h⟩ | ⟨hd31, h⟩
                        · refine Tri.run 2 [.g true] [.keep [2] []] (K' := [.code [(12, 0), (1, 0)] 1, .code [] 13]) (σ' := ⟨[(2, .bool false)], []⟩) rfl ⟨hd31, trivial⟩ rfl ?_
                          have h := Option.some.inj h
                          subst h
                          exact Tri.ret rfl ⟨.inl rfl, rfl, rfl⟩
                        · obtain ⟨v40, hk32, h⟩ := bind_some h
                          obtain ⟨v41, hk33, h⟩ := bind_some h
                          rcases bif_some h with ⟨hd34, h⟩ | ⟨hd34, h⟩
                          · obtain ⟨v42, hk35, h⟩ := bind_some h
                            obtain ⟨v43, hk36, h⟩ := bind_some h
                            refine Tri.run 2 [.g false, .r ⟨[], .bool v40, []⟩, .r ⟨[], .bool v41, []⟩, .g true, .r ⟨[], .int .i64 v42, []⟩, .r ⟨[], .int .i64 v43, []⟩] [.keep [2] []] (K' := [.code [] 14]) (σ' := ⟨[(2, .bool (v42 == v43))], []⟩) rfl ⟨(fun _ => (w_spec_ValueOf v27 v29 v28 v43 hk36)), (fun _ => (w_impl_ValueOf v27 v29 v28 v42 hk35)), hd34, (fun _ => (w_spec_IsValidGame v27 v29 v41 hk33)), (fun _ => (w_impl_IsValidGame v27 v29 v40 hk32)), hd31, trivial⟩ rfl ?_
                            have h := Option.some.inj h
                            subst h
                            exact Tri.ret rfl ⟨.inl rfl, rfl, rfl⟩
                          · refine Tri.run 2 [.g false, .r ⟨[], .bool v40, []⟩, .r ⟨[], .bool v41, []⟩, .g false] [.keep [2] []] (K' := [.code [] 14]) (σ' := ⟨[(2, .bool false)], []⟩) rfl ⟨hd34, (fun _ => (w_spec_IsValidGame v27 v29 v41 hk33)), (fun _ => (w_impl_IsValidGame v27 v29 v40 hk32)), hd31, trivial⟩ rfl ?_
                            have h := Option.some.inj h
                            subst h
                            exact Tri.ret rfl ⟨.inl rfl, rfl, rfl⟩
                    · refine Tri.run 1 [.g false, .r ⟨[], .bool v36, []⟩, .g false, .g false] [.keep [16, 17, 137] [16, 1108]] (K' := [.code [(12, 0)] 1, .code [] 13]) (σ' := ⟨[(16, .ptr 16 0), (17, .int .i64 v28), (137, .bool false)], [(16, .box [.int .i64 v27, .sl 1108 0]), (1108, .arr 3 0 0 (.ints v29))]⟩) rfl ⟨hd26, hd25, (fun _ => (w_impl_EqualGame v30 v32 v33 v35 v36 hk24)), hd23, trivial⟩ rfl ?_
                      obtain ⟨v44, hk37, h⟩ := bind_some h
                      obtain ⟨v45, hk38, h⟩ := bind_some h
                      rcases bif_some h with ⟨hd39, h⟩ | ⟨hd39, h⟩
                      · obtain ⟨v46, hk40, h⟩ := bind_some h
                        obtain ⟨v47, hk41, h⟩ := bind_some h
                        refine Tri.run 2 [.g false, .r ⟨[], .bool v44, []⟩, .r ⟨[], .bool v45, []⟩, .g true, .r ⟨[], .int .i64 v46, []⟩, .r ⟨[], .int .i64 v47, []⟩] [.keep [2] []] (K' := [.code [] 14]) (σ' := ⟨[(2, .bool (v46 == v47))], []⟩) rfl ⟨(fun _ => (w_spec_ValueOf v27 v29 v28 v47 hk41)), (fun _ => (w_impl_ValueOf v27 v29 v28 v46 hk40)), hd39, (fun _ => (w_spec_IsValidGame v27 v29 v45 hk38)), (fun _ => (w_impl_IsValidGame v27 v29 v44 hk37)), rfl, trivial⟩ rfl ?_
                        have h := Option.some.inj h
                        subst h
                        exact Tri.ret rfl ⟨.inl rfl, rfl, rfl⟩
                      · refine Tri.run 2 [.g false, .r ⟨[], .bool v44, []⟩, .r ⟨[], .bool v45, []⟩, .g false] [.keep [2] []] (K' := [.code [] 14]) (σ' := ⟨[(2, .bool false)], []⟩) rfl ⟨hd39, (fun _ => (w_spec_IsValidGame v27 v29 v45 hk38)), (fun _ => (w_impl_IsValidGame v27 v29 v44 hk37)), rfl, trivial⟩ rfl ?_
                        have h := Option.some.inj h
                        subst h
                        exact Tri.ret rfl ⟨.inl rfl, rfl, rfl⟩
            · refine Tri.run 2 [.r ⟨[], .tuple [.agg [.int .i64 v19, .sl 1107 0], .bool v20], [(1107, .arr 3 0 0 (.ints v21))]⟩, .g false, .r ⟨[], .bool v22, []⟩, .g false, .g false, .r ⟨[], .bool v23, []⟩, .g false, .g false] [.keep [0, 93] []] (K' := [.code [(8, 0)] 1, .code [] 9]) (σ' := ⟨[(0, .list (.bytes a0)), (93, .bool false)], []⟩) rfl ⟨hd15, hd14, (fun _ => (w_impl_EqualGame v16 v18 v19 v21 v23 hk13)), hd12, hd11, (fun _ => (w_impl_EqualGame v6 v8 v9 v11 v22 hk10)), hd9, (fun _ => ((w_spec_ScaleGame v12 v14 v13 v15 (v19, v20, v21) hk8).swap 1000 1107)), trivial⟩ rfl ?_
              obtain ⟨⟨v48, v49, v50⟩, hk42, h⟩ := bind_some h
              refine Tri.run 2 [.g false, .r ⟨[], .tuple [.agg [.int .i64 v48, .sl 1111 0], .int .i64 v49], [(1111, .arr 3 0 0 (.ints v50))]⟩] [.keep [16, 17] [16, 1111]] (K' := [.code [(10, 0)] 0, .code [] 11]) (σ' := ⟨[(16, .ptr 16 0), (17, .int .i64 v49)], [(16, .box [.int .i64 v48, .sl 1111 0]), (1111, .arr 3 0 0 (.ints v50))]⟩) rfl ⟨(fun _ => ((w_spec_DrawRestrict a0 (v48, v49, v50) hk42).swap 1000 1111)), rfl, trivial⟩ rfl ?_
              obtain ⟨⟨v51, v52, v53⟩, hk43, h⟩ := bind_some h
              obtain ⟨⟨v54, v55, v56⟩, hk44, h⟩ := bind_some h
              refine Tri.run 2 [.r ⟨[], .tuple [.agg [.int .i64 v51, .sl 1112 0], .bool v52], [(1112, .arr 3 0 0 (.ints v53))]⟩, .r ⟨[], .tuple [.agg [.int .i64 v54, .sl 1113 0], .bool v55], [(1113, .arr 3 0 0 (.ints v56))]⟩] [.keep [16, 17, 18, 19, 20, 21] [16, 18, 20, 1111, 1112, 1113]] (K' := [.code [(12, 0), (0, 0)] 0, .code [(12, 0)] 1, .code [] 13]) (σ' := ⟨[(16, .ptr 16 0), (17, .int .i64 v49), (18, .ptr 18 0), (19, .bool v52), (20, .ptr 20 0), (21, .bool v55)], [(16, .box [.int .i64 v48, .sl 1111 0]), (18, .box [.int .i64 v51, .sl 1112 0]), (20, .box [.int .i64 v54, .sl 1113 0]), (1111, .arr 3 0 0 (.ints v50)), (1112, .arr 3 0 0 (.ints v53)), (1113, .arr 3 0 0 (.ints v56))]⟩) rfl ⟨(fun _ => ((w_spec_Restrict v48 v50 v49 (v54, v55, v56) hk44).swap 1000 1113)), (fun _ => ((w_impl_Restrict v48 v50 v49 (v51, v52, v53) hk43).swap 1000 1112)), trivial⟩ rfl ?_
              rcases bif_some h with ⟨hd45, h⟩ | ⟨hd45, h⟩
              · refine Tri.run 1 [.g true, .g true] [.keep [16, 17, 137] [16, 1111]] (K' := [.code [(12, 0)] 1, .code [] 13]) (σ' := ⟨[(16, .ptr 16 0), (17, .int .i64 v49), (137, .bool true)], [(16, .box [.int .i64 v48, .sl 1111 0]), (1111, .arr 3 0 0 (.ints v50))]⟩) rfl ⟨rfl, hd45, trivial⟩ rfl ?_
                refine Tri.run 2 [.g true] [.keep [2] []] (K' := [.code [(12, 0), (1, 0)] 1, .code [] 13]) (σ' := ⟨[(2, .bool false)], []⟩) rfl ⟨rfl, trivial⟩ rfl ?_
                have h := Option.some.inj h
                subst h
                exact Tri.ret rfl ⟨.inl rfl, rfl, rfl⟩
              · obtain ⟨v57, hk46, h⟩ := bind_some h
                rcases bif_some h with ⟨hd47, h⟩ | ⟨hd47, h⟩
                · refine Tri.run 1 [.g false, .r ⟨[], .bool v57, []⟩, .g true] [.keep [16, 17, 137] [16, 1111]] (K' := [.code [(12, 0)] 1, .code [] 13]) (σ' := ⟨[(16, .ptr 16 0), (17, .int .i64 v49), (137, .bool true)], [(16, .box [.int .i64 v48, .sl 1111 0]), (1111, .arr 3 0 0 (.ints v50))]⟩) rfl ⟨hd47, (fun _ => (w_impl_EqualGame v51 v53 v54 v56 v57 hk46)), hd45, trivial⟩ rfl ?_
                  refine Tri.run 2 [.g true] [.keep [2] []] (K' := [.code [(12, 0), (1, 0)] 1, .code [] 13]) (σ' := ⟨[(2, .bool false)], []⟩) rfl ⟨rfl, trivial⟩ rfl ?_
                  have h := Option.some.inj h
                  subst h
                  exact Tri.ret rfl ⟨.inl rfl, rfl, rfl⟩
                · rcases bif_some h with ⟨hd48, h⟩ | ⟨hd48, h⟩
                  · obtain ⟨v58, hk49, h⟩ := bind_some h
                    obtain ⟨v59, hk50, h⟩ := bind_some h
                    rcases bif_some h with ⟨hd51, h⟩ | ⟨hd51, h⟩
                    · refine Tri.run 1 [.g false, .r ⟨[], .bool v57, []⟩, .g false, .g true, .r ⟨[], .int .i64 v58, []⟩, .r ⟨[], .int .i64 v59, []⟩, .g true] [.keep [16, 17, 137] [16, 1111]] (K' := [.code [(12, 0)] 1, .code [] 13]) (σ' := ⟨[(16, .ptr 16 0), (17, .int .i64 v49), (137, .bool true)], [(16, .box [.int .i64 v48, .sl 1111 0]), (1111, .arr 3 0 0 (.ints v50))]⟩) rfl ⟨hd51, (fun _ => (w_impl_ValueOf v48 v50 v49 v59 hk50)), (fun _ => (w_impl_GrandValue v51 v53 v58 hk49)), hd48, hd47, (fun _ => (w_impl_EqualGame v51 v53 v54 v56 v57 hk46)), hd45, trivial⟩ rfl ?_
                      refine Tri.run 2 [.g true] [.keep [2] []] (K' := [.code [(12, 0), (1, 0)] 1, .code [] 13]) (σ' := ⟨[(2, .bool false)], []⟩) rfl ⟨rfl, trivial⟩ rfl ?_
                      have h := Option.some.inj h
                      subst h
                      exact Tri.ret rfl ⟨.inl rfl, rfl, rfl⟩
                    · obtain ⟨v60, hk52, h⟩ := bind_some h
                      refine Tri.run 1 [.g false, .r ⟨[], .bool v57, []⟩, .g false, .g true, .r ⟨[], .int .i64 v58, []⟩, .r ⟨[], .int .i64 v59, []⟩, .g false, .r ⟨[], .int .i64 v60, []⟩] [.keep [16, 17, 137] [16, 1111]] (K' := [.code [(12, 0)] 1, .code [] 13]) (σ' := ⟨[(16, .ptr 16 0), (17, .int .i64 v49), (137, .bool (v51 != v60))], [(16, .box [.int .i64 v48, .sl 1111 0]), (1111, .arr 3 0 0 (.ints v50))]⟩) rfl ⟨(fun _ => (w_impl_SizeOf v49 v60 hk52)), hd51, (fun _ => (w_impl_ValueOf v48 v50 v49 v59 hk50)), (fun _ => (w_impl_GrandValue v51 v53 v58 hk49)), hd48, hd47, (fun _ => (w_impl_EqualGame v51 v53 v54 v56 v57 hk46)), hd45, trivial⟩ rfl ?_
                      rcases bif_some h with ⟨hd53, h⟩ | ⟨hd53, h⟩
                      · refine Tri.run 2 [.g true] [.keep [2] []] (K' := [.code [(12, 0), (1, 0)] 1, .code [] 13]) (σ' := ⟨[(2, .bool false)], []⟩) rfl ⟨hd53, trivial⟩ rfl ?_
                        have h := Option.some.inj h
                        subst h
                        exact Tri.ret rfl ⟨.inl rfl, rfl, rfl⟩
                      · obtain ⟨v61, hk54, h⟩ := bind_some h
                        obtain ⟨v62, hk55, h⟩ := bind_some h
                        rcases bif_some h with ⟨hd56, h⟩ | ⟨hd56, h⟩
                        · obtain ⟨v63, hk57, h⟩ := bind_some h
                          obtain ⟨v64, hk58, h⟩ := bind_some h
                          refine Tri.run 2 [.g false, .r ⟨[], .bool v61, []⟩, .r ⟨[], .bool v62, []⟩, .g true, .r ⟨[], .int .i64 v63, []⟩, .r ⟨[], .int .i64 v64, []⟩] [.keep [2] []] (K' := [.code [] 14]) (σ' := ⟨[(2, .bool (v63 == v64))], []⟩) rfl ⟨(fun _ => (w_spec_ValueOf v48 v50 v49 v64 hk58)), (fun _ => (w_impl_ValueOf v48 v50 v49 v63 hk57)), hd56, (fun _ => (w_spec_IsValidGame v48 v50 v62 hk55)), (fun _ => (w_impl_IsValidGame v48 v50 v61 hk54)), hd53, trivial⟩ rfl ?_
                          have h := Option.some.inj h
                          subst h
                          exact Tri.ret rfl ⟨.inl rfl, rfl, rfl⟩
                        · refine Tri.run 2 [.g false, .r ⟨[], .bool v61, []⟩, .r ⟨[], .bool v62, []⟩, .g false] [.keep [2] []] (K' := [.code [] 14]) (σ' := ⟨[(2, .bool false)], []⟩) rfl ⟨hd56, (fun _ => (w_spec_IsValidGame v48 v50 v62 hk55)), (fun _ => (w_impl_IsValidGame v48 v50 v61 hk54)), hd53, trivial⟩ rfl ?_
                          have h := Option.some.inj h
                          subst h
                          exact Tri.ret rfl ⟨.inl rfl, rfl, rfl⟩
                  · refine Tri.run 1 [.g false, .r ⟨[], .bool v57, []⟩, .g false, .g false] [.keep [16, 17, 137] [16, 1111]] (K' := [.code [(12, 0)] 1, .code [] 13]) (σ' := ⟨[(16, .ptr 16 0), (17, .int .i64 v49), (137, .bool false)], [(16, .box [.int .i64 v48, .sl 1111 0]), (1111, .arr 3 0 0 (.ints v50))]⟩) rfl ⟨hd48, hd47, (fun _ => (w_impl_EqualGame v51 v53 v54 v56 v57 hk46)), hd45, trivial⟩ rfl ?_
                    obtain ⟨v65, hk59, h⟩ := bind_some h
                    obtain ⟨v66, hk60, h⟩ := bind_some h
                    rcases bif_some h with ⟨hd61, h⟩ | ⟨hd61, h⟩
                    · obtain ⟨v67, hk62, h⟩ := bind_some h
                      obtain ⟨v68, hk63, h⟩ := bind_some h
                      refine Tri.run 2 [.g false, .r ⟨[], .bool v65, []⟩, .r ⟨[], .bool v66, []⟩, .g true, .r ⟨[], .int .i64 v67, []⟩, .r ⟨[], .int .i64 v68, []⟩] [.keep [2] []] (K' := [.code [] 14]) (σ' := ⟨[(2, .bool (v67 == v68))], []⟩) rfl ⟨(fun _ => (w_spec_ValueOf v48 v50 v49 v68 hk63)), (fun _ => (w_impl_ValueOf v48 v50 v49 v67 hk62)), hd61, (fun _ => (w_spec_IsValidGame v48 v50 v66 hk60)), (fun _ => (w_impl_IsValidGame v48 v50 v65 hk59)), rfl, trivial⟩ rfl ?_
                      have h := Option.some.inj h
                      subst h
                      exact Tri.ret rfl ⟨.inl rfl, rfl, rfl⟩
                    · refine Tri.run 2 [.g false, .r ⟨[], .bool v65, []⟩, .r ⟨[], .bool v66, []⟩, .g false] [.keep [2] []] (K' := [.code [] 14]) (σ' := ⟨[(2, .bool false)], []⟩) rfl ⟨hd61, (fun _ => (w_spec_IsValidGame v48 v50 v66 hk60)), (fun _ => (w_impl_IsValidGame v48 v50 v65 hk59)), rfl, trivial⟩ rfl ?_
                      have h := Option.some.inj h
                      subst h
                      exact Tri.ret rfl ⟨.inl rfl, rfl, rfl⟩
end Go.Proofs.Ytmlfjoppaciknaa
