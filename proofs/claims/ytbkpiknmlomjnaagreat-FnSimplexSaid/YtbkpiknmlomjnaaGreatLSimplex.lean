/- The plain laws: what the models of FnSimplex compute. No condition beyond those that each theorem names. -/
import Derived.Test.YtbkpiknmlomjnaaGreatLSimplexa
namespace Go.Proofs.YtbkpiknmlomjnaaGreat
open Go.AM
noncomputable def l6F (c : List UInt8) (i h : Int) : Option (List (List Q) × List Int × Int × Int × Int) :=
 (m_spec_l5Draw_io1 c i h).bind fun (v1,v2,v3,v4,v5) =>
 (m_spec_StartTableau v1 v2 v3).bind fun (v6,v7,v8) =>
 (m_spec_l1Below_io1 c v4 v5 (3 : Int)).bind fun (v9,v10,v11) =>
 (iter (l_spec_l6Draw_io2_0 c v9) ((0 : Int),v6,v7,v8,v10,v11)).bind fun (v28,v29,v30,v31,v32) =>
 (m_spec_l1Below_io1 c v31 v32 (16 : Int)).bind fun (v33,v34,v35) =>
 bif v33 == (0 : Int) then grd (v30.length + ([(0 : Int)] : List Int).length ≤ room) <| some (v29,v30 ++ [(0 : Int)],v28,v34,v35)
 else bif v33 == (1 : Int) then
  grd ((0 : Int) ≤ (0 : Int) ∧ (0 : Int) < (v29.length : Int)) <|
  grd ((0 : Int) ≤ (1 : Int) ∧ (1 : Int) ≤ ((v29.getD ((0 : Int).toNat) []).length : Int)) <|
  grd ((0 : Int) ≤ (0 : Int) ∧ (0 : Int) < (v29.length : Int)) <|
  some (v29.set ((0 : Int).toNat) (((v29.getD ((0 : Int).toNat) []).drop ((1 : Int).toNat)).take ((v29.getD ((0 : Int).toNat) []).length - (1 : Int).toNat)),v30,v28,v34,v35)
 else bif v33 == (2 : Int) then some (v29,v30,IntKind.i64.wrap (v28 + (1 : Int)),v34,v35)
 else some (v29,v30,v28,v34,v35)
theorem l6F_ok (c : List UInt8) (i h : Int) (hc : c.length ≤ 1048576) (hi : 0 ≤ i) : ∃ rows basis cols i' h',l6F c i h = some (rows,basis,cols,i',h') ∧ TabB rows basis cols ∧ 0 ≤ i' := by
 unfold l6F
 have hroom : (room : Nat) = 1099511627776 := rfl
 obtain ⟨A,B,C,i1,h1,m,n,e1,hm,hn,r1,b1,b2,c1,c2,p1⟩ := l5draw_ok c i h hc hi
 have hlp := drawn_lpOk hm hn r1 b1 b2 c1 c2
 have hA := r1.1
 rw [e1,Option.bind_some]
 dsimp only
 rw [spec_start A B C hlp,Option.bind_some]
 dsimp only
 obtain ⟨v,i2,h2,e2,v1,p2⟩ := below_ok c i1 h1 3 hc p1 (by decide)
 rw [e2,Option.bind_some]
 dsimp only
 obtain ⟨rows,basis,i3,h3,e3,hg,p3⟩ := l6_loop c v i2 h2 hc p2 v1.1 (by omega) (start_gt hlp)
 rw [e3,Option.bind_some]
 dsimp only
 obtain ⟨x,i4,h4,e4,_,p4⟩ := below_ok c i3 h3 16 hc p3 (by decide)
 rw [e4,Option.bind_some]
 dsimp only
 have hb := gt_tabB hg
 obtain ⟨t1,t2,t3,t4,t5⟩ := hb
 have hrl := hg.rl
 have hbl := hg.bl
 have hm8 := hg.m8
 have hn70 := hg.n70
 have e0 : (0 : Int).toNat = 0 := rfl
 have e1' : (1 : Int).toNat = 1 := rfl
 rw [e0,e1']
 cases x == 0 with
 | true =>
  rw [cond_true,grd_pos (by simp only [List.length_singleton]; omega)]
  exact ⟨_,_,_,_,_,rfl,⟨t1,by rw [List.length_append,List.length_singleton]; omega,t3,t4,t5⟩,p4⟩
 | false =>
  rw [cond_false]
  cases x == 1 with
  | true =>
   have hr0 := hg.row 0 (by omega)
   rw [cond_true,grd_pos (by omega),grd_pos (by omega),grd_pos (by omega)]
   refine ⟨_,_,_,_,_,rfl,⟨by rw [List.length_set]; exact t1,t2,fun k hk => ?_,t4,t5⟩,p4⟩
   rw [List.length_set] at hk
   rw [set_rowQ _ _ _ _ (by omega)]
   split
   ·rw [List.length_take,List.length_drop]
    omega
   ·exact t3 k hk
  | false =>
   rw [cond_false]
   cases x == 2 with
   | true =>
    rw [cond_true,w64' (by omega) (by omega)]
    exact ⟨_,_,_,_,_,rfl,⟨t1,t2,t3,by omega,by omega⟩,p4⟩
   | false => exact ⟨_,_,_,_,_,rfl,⟨t1,t2,t3,t4,t5⟩,p4⟩
theorem l6_2 {c : List UInt8} {i h : Int} {rows : List (List Q)} {basis : List Int} {cols i' h' : Int} (hF : l6F c i h = some (rows,basis,cols,i',h')) (a0 : List (List Q)) (a1 : List Int) (a2 : Int) :
  m_spec_l6Draw_io2 a0 a1 a2 c i h = some (rows,basis,cols,a0,a1,a2,c,i',h') := by
 have hm : ∀ o : Option (List (List Q) × List Int × Int × Int × Int),o = some (rows,basis,cols,i',h') → (o.bind fun (r,b,k,x,y) => some (r,b,k,a0,a1,a2,c,x,y)) = some (rows,basis,cols,a0,a1,a2,c,i',h') := by
  intro o ho
  rw [ho]
  rfl
 rw [← hm _ hF]
 unfold m_spec_l6Draw_io2 l6F
 rcases m_spec_l5Draw_io1 c i h with _ | ⟨v1,v2,v3,v4,v5⟩
 ·rfl
 simp only [Option.bind_some]
 rcases m_spec_StartTableau v1 v2 v3 with _ | ⟨v6,v7,v8⟩
 ·rfl
 simp only [Option.bind_some]
 rcases m_spec_l1Below_io1 c v4 v5 3 with _ | ⟨v9,v10,v11⟩
 ·rfl
 simp only [Option.bind_some]
 rcases iter (l_spec_l6Draw_io2_0 c v9) ((0 : Int),v6,v7,v8,v10,v11) with _ | ⟨v28,v29,v30,v31,v32⟩
 ·rfl
 simp only [Option.bind_some]
 rcases m_spec_l1Below_io1 c v31 v32 16 with _ | ⟨v33,v34,v35⟩
 ·rfl
 simp only [Option.bind_some]
 cases v33 == 0 with
 | true =>
  simp only [cond_true]
  unfold grd
  split <;> rfl
 | false =>
  cases v33 == 1 with
  | true =>
   simp only [cond_true,cond_false]
   unfold grd
   split
   ·split <;> rfl
   ·rfl
  | false =>
   cases v33 == 2 with
   | true => rfl
   | false => rfl
theorem l6_3 {c : List UInt8} {i h : Int} {rows : List (List Q)} {basis : List Int} {cols i' h' : Int} (hF : l6F c i h = some (rows,basis,cols,i',h')) (a0 : List (List Q)) (a1 : List Int) (a2 : Int) (a6 : List (List Q)) (a7 : List Int) (a8 : Int) :
  m_spec_l6Draw_io3 a0 a1 a2 c i h a6 a7 a8 = some (rows,basis,cols,a0,a1,a2,c,i',h',a6,a7,a8) := by
 have hm : ∀ o : Option (List (List Q) × List Int × Int × Int × Int),o = some (rows,basis,cols,i',h') → (o.bind fun (r,b,k,x,y) => some (r,b,k,a0,a1,a2,c,x,y,a6,a7,a8)) = some (rows,basis,cols,a0,a1,a2,c,i',h',a6,a7,a8) := by
  intro o ho
  rw [ho]
  rfl
 rw [← hm _ hF]
 unfold m_spec_l6Draw_io3 l6F
 have hl : ∀ v,l_spec_l6Draw_io3_0 c v = l_spec_l6Draw_io2_0 c v := fun _ => rfl
 rcases m_spec_l5Draw_io1 c i h with _ | ⟨v1,v2,v3,v4,v5⟩
 ·rfl
 simp only [Option.bind_some]
 rcases m_spec_StartTableau v1 v2 v3 with _ | ⟨v6,v7,v8⟩
 ·rfl
 simp only [Option.bind_some]
 rcases m_spec_l1Below_io1 c v4 v5 3 with _ | ⟨v9,v10,v11⟩
 ·rfl
 simp only [Option.bind_some,hl]
 rcases iter (l_spec_l6Draw_io2_0 c v9) ((0 : Int),v6,v7,v8,v10,v11) with _ | ⟨v28,v29,v30,v31,v32⟩
 ·rfl
 simp only [Option.bind_some]
 rcases m_spec_l1Below_io1 c v31 v32 16 with _ | ⟨v33,v34,v35⟩
 ·rfl
 simp only [Option.bind_some]
 cases v33 == 0 with
 | true =>
  simp only [cond_true]
  unfold grd
  split <;> rfl
 | false =>
  cases v33 == 1 with
  | true =>
   simp only [cond_true,cond_false]
   unfold grd
   split
   ·split <;> rfl
   ·rfl
  | false =>
   cases v33 == 2 with
   | true => rfl
   | false => rfl
theorem cost_loop (c : List UInt8) (rows : List (List Q)) (cols : Int) (i h : Int) (hc : c.length ≤ 1048576) (hi : 0 ≤ i) (h0 : 0 ≤ cols) (h1 : cols ≤ 71) (hr : rows.length ≤ 8) :
  ∃ l,iter (l_spec_DrawCostRow_io1_0 rows cols c) ((0 : Int),[],i,h) = some l ∧ l.length ≤ 1000 := by
 have hroom : (room : Nat) = 1099511627776 := rfl
 exact iter_dec (step := l_spec_DrawCostRow_io1_0 rows cols c) (fun k s => s.1 + k = cols + rows.length ∧ 0 ≤ s.1 ∧ (s.2.1.length : Int) = s.1 ∧ 0 ≤ s.2.2.1) (fun a => a.length ≤ 1000) (fun k ⟨j,l,i,h⟩ ⟨g1,g2,g3,g4⟩ => by
  simp only at g1 g2 g3 g4
  unfold l_spec_DrawCostRow_io1_0
  dsimp only
  rw [w64' (n := cols + (rows.length : Int)) (by omega) (by omega)]
  by_cases e1 : j < cols + (rows.length : Int)
  ·obtain ⟨x,i1,k1,b1,b2,b3⟩ := l5num_ok c i h hc g4
   rw [decide_eq_true e1,cond_true,b1,Option.bind_some]
   dsimp only
   unfold m_spec_l3Int
   rw [Option.bind_some]
   dsimp only
   rw [grd_pos (by simp only [List.length_singleton]; omega)]
   refine .inr ⟨_,k - 1,by omega,rfl,?_,?_,?_,b3⟩ <;> dsimp only
   ·rw [w64' (by omega) (by omega)]
    omega
   ·rw [w64' (by omega) (by omega)]
    omega
   ·rw [w64' (by omega) (by omega),List.length_append,List.length_singleton]
    omega
  ·rw [decide_eq_false e1,cond_false]
   exact .inl ⟨_,rfl,by omega⟩) (cols + rows.length).toNat (0,[],i,h) ⟨by dsimp only; omega,Int.le_refl 0,rfl,hi⟩
theorem costF_len (rows : List (List Q)) (basis : List Int) (cols : Int) (cost : List Q) (h : cost.length ≤ 1000) : (costF rows basis cols cost).2.length ≤ 1001 := by
 unfold costF
 split
 ·cases hc : (costUp rows basis cost rows.length).1 with
  | true => rw [costUp_length hc]; omega
  | false => rw [costUp_false hc]; simp
 ·simp
theorem new_2 (a0 : List (List Q)) (a1 : List Int) (a2 : Int) (a3 : List (List Q)) (a4 : List Int) (a5 : Int) (c : List UInt8) : ∃ h,m_spec_l1New_io2 a0 a1 a2 a3 a4 a5 c = some (c,0,h,a2,a5) := by
 obtain ⟨h,k⟩ := new_loop c (IntKind.i64.wrap ((26583 : Int) + (c.length : Int)))
 refine ⟨h,?_⟩
 unfold m_spec_l1New_io2
 have hl : l_spec_l1New_io2_0 c = l_spec_l1New_io4_0 c := rfl
 rw [hl,k]
 rfl
theorem new_1 (a0 : List (List Q)) (a1 : List Int) (a2 : Int) (c : List UInt8) : ∃ h,m_spec_l1New_io1 a0 a1 a2 c = some (c,0,h,a2) := by
 obtain ⟨h,k⟩ := new_loop c (IntKind.i64.wrap ((26583 : Int) + (c.length : Int)))
 refine ⟨h,?_⟩
 unfold m_spec_l1New_io1
 have hl : l_spec_l1New_io1_0 c = l_spec_l1New_io4_0 c := rfl
 rw [hl,k]
 rfl
theorem draw_enter (c : List UInt8) (hc : c.length ≤ 1048576) :
  ∃ rows basis cols costs last,m_spec_DrawEnteringColumn c = some (rows,basis,cols,costs,last) ∧ TabB rows basis cols ∧ costs.length ≤ 1001 := by
 unfold m_spec_DrawEnteringColumn m_spec_DrawCostRow_io1
 obtain ⟨h,e⟩ := new_2 [] [] 0 [] [] 0 c
 rw [e,Option.bind_some]
 dsimp only
 obtain ⟨rows,basis,cols,i1,h1,e1,t,p1⟩ := l6F_ok c 0 h hc (Int.le_refl 0)
 rw [l6_3 e1,Option.bind_some]
 dsimp only
 obtain ⟨t1,t2,t3,t4,t5⟩ := t
 obtain ⟨l,e2,l1⟩ := cost_loop c rows cols i1 h1 hc p1 t4 t5 t1
 rw [e2,Option.bind_some,Option.bind_some]
 dsimp only
 rw [spec_cost rows basis cols l (by omega) (by omega) (fun i hi => Nat.le_trans (t3 i hi) (by decide)) (by omega),Option.bind_some]
 have hcl := costF_len rows basis cols l l1
 revert hcl
 rcases costF rows basis cols l with ⟨o,k⟩
 intro hcl
 dsimp only at hcl ⊢
 obtain ⟨h2,e3⟩ := new_1 [] [] 0 c
 rw [e3,Option.bind_some]
 dsimp only
 obtain ⟨y,i3,h3,e4,_,_⟩ := pick_ok c 0 h2 [cols,cols,(1 : Int),(99 : Int),(0 : Int)] hc (Int.le_refl 0) (by simp) (by simp)
 rw [e4,Option.bind_some]
 exact ⟨_,_,_,_,_,rfl,⟨t1,t2,t3,t4,t5⟩,hcl⟩
theorem draw_leave (c : List UInt8) (hc : c.length ≤ 1048576) : ∃ rows basis cols col,m_spec_DrawLeavingRow c = some (rows,basis,cols,col) ∧ TabB rows basis cols := by
 unfold m_spec_DrawLeavingRow
 obtain ⟨h,e⟩ := new_1 [] [] 0 c
 rw [e,Option.bind_some]
 dsimp only
 obtain ⟨rows,basis,cols,i1,h1,e1,t,p1⟩ := l6F_ok c 0 h hc (Int.le_refl 0)
 rw [l6_2 e1,Option.bind_some]
 dsimp only
 have ht := t
 obtain ⟨t1,t2,t3,t4,t5⟩ := t
 rw [w64' (n := cols + 2) (by omega) (by omega)]
 obtain ⟨x,i2,h2,e2,_,_⟩ := below_ok c i1 h1 (cols + 2) hc p1 (by omega)
 rw [e2,Option.bind_some]
 exact ⟨_,_,_,_,rfl,ht⟩
theorem slp_parts (A : List (List Int)) (B : List Int) (C : List Q) :
  (lpOk A B C = false ∧ slpF A B C = (0,0,0,0,[],[],[])) ∨ (lpOk A B C = true ∧ slpF A B C = (4,0,0,0,[],[],[])) ∨
  (lpOk A B C = true ∧ ∃ st vn vd p X Y R,slpF A B C = (st,vn,vd,p,X,Y,R) ∧ (st = 1 ∨ st = 2 ∨ st = 3) ∧ (0 ≤ p ∧ p ≤ 1000) ∧ X.length ≤ 70 ∧ Y.length ≤ 8 ∧ R.length ≤ 70 ∧ solF A B C C.length A.length = some (st,vn,vd,X,Y,R,p) ∧ chkS A B C st X Y R vn vd = true) := by
 unfold slpF
 cases h : lpOk A B C with
 | false => exact .inl ⟨rfl,rfl⟩
 | true =>
  refine .inr ?_
  rw [if_pos rfl]
  rcases hs : solF A B C C.length A.length with _ | ⟨st,vn,vd,X,Y,R,p⟩
  ·exact .inl ⟨rfl,rfl⟩
  ·obtain ⟨q1,q2,q3,q4,q5⟩ := sol_cases h hs
   dsimp only
   cases hk : chkS A B C st X Y R vn vd with
   | false => exact .inl ⟨rfl,rfl⟩
   | true => exact .inr ⟨rfl,st,vn,vd,p,X,Y,R,rfl,by rcases q5 with h | h | h <;> simp [h.1],q1,q2,q3,q4,rfl,hk⟩
theorem law_FnSimplex (c : List UInt8) (_ : c.length ≤ maxLen) : m_laws_FnSimplex c = some true := by
 unfold m_laws_FnSimplex m_laws_big
 by_cases hb : (c.length : Int) > 1048576
 ·rw [decide_eq_true hb]; rfl
 rw [decide_eq_false hb,Option.bind_some,cond_false]
 obtain ⟨A,B,C,e1,a1,a2,b1,c1,c2⟩ : ∃ A B C,m_spec_DrawSolveLP c = some (A,B,C) ∧ A.length ≤ 3 ∧ (∀ t,t < A.length → (A.getD t []).length ≤ 7) ∧ B.length ≤ 4 ∧ C.length ≤ 6 ∧ (∀ q ∈ C,smQ q) := by
  unfold m_spec_DrawSolveLP
  obtain ⟨h,e⟩ : ∃ h,m_spec_l1New_io4 [] [] [] c = some (c,0,h,[],[],[]) := by
   obtain ⟨h,k⟩ := new_loop c (IntKind.i64.wrap ((26583 : Int) + (c.length : Int)))
   exact ⟨h,by unfold m_spec_l1New_io4; rw [k]; rfl⟩
  rw [e,Option.bind_some]
  dsimp only
  obtain ⟨A,B,C,i1,h1,e1,a1,a2,b1,c1,c2,p1⟩ := l5bent_ok c 0 h (by omega) (Int.le_refl 0)
  rw [e1]
  exact ⟨A,B,C,rfl,a1,a2,b1,c1,c2⟩
 have hAr : ∀ i,i < A.length → (A.getD i []).length ≤ 1048576 := fun i hi => Nat.le_trans (a2 i hi) (by decide)
 have hsm := smC_of c2
 rw [e1,Option.bind_some]
 dsimp only
 rw [impl_slp A B C (by omega) hAr (by omega) (by omega) hsm,spec_slp A B C (by omega) hAr (by omega) (by omega)]
 rcases slp_parts A B C with ⟨hl,hs⟩ | ⟨hl,hs⟩ | ⟨hl,st,vn,vd,p,X,Y,R,hs,hst,hp,x1,y1,r1,hsol,hk⟩
 all_goals
  rw [hs]
  simp only [Option.bind_some]
  rw [eqres_self _ _ _ _ _ _ _ (by first | simp | omega) (by first | simp | omega) (by first | simp | omega),Option.bind_some,Bool.not_true,cond_false,impl_lp A B C (by omega) hAr (by omega) (by omega),hl,Option.bind_some]
 ·have e0 : ((0 : Int) == 0) = true := rfl
  rw [e0]
  have e2 : (true == false) = false := rfl
  rw [e2,cond_false,decide_eq_false (by omega),cond_false]
  obtain ⟨rows,basis,cols,costs,last,d1,⟨t1,t2,t3,t4,t5⟩,d2⟩ := draw_enter c (by omega)
  rw [d1,Option.bind_some]
  dsimp only
  obtain ⟨rows',basis',cols',col,d3,⟨u1,u2,u3,u4,u5⟩⟩ := draw_leave c (by omega)
  rw [d3,Option.bind_some]
  dsimp only
  rw [impl_ent rows basis cols costs last (by omega),spec_ent rows basis cols costs last (by omega),Option.bind_some,Option.bind_some,bne_self_eq_false,cond_false,
   leave_i rows' basis' cols' col (by omega) (by omega),leave_s rows' basis' cols' col (by omega) (by omega) (fun i hi => Nat.le_trans (u3 i hi) (by decide)),Option.bind_some,Option.bind_some,bne_self_eq_false,cond_false,cond_true]
 ·have e0 : ((4 : Int) == 0) = false := rfl
  rw [e0]
  have e2 : (false == true) = false := rfl
  rw [e2,cond_false,decide_eq_false (by omega),cond_false]
  obtain ⟨rows,basis,cols,costs,last,d1,⟨t1,t2,t3,t4,t5⟩,d2⟩ := draw_enter c (by omega)
  rw [d1,Option.bind_some]
  dsimp only
  obtain ⟨rows',basis',cols',col,d3,⟨u1,u2,u3,u4,u5⟩⟩ := draw_leave c (by omega)
  rw [d3,Option.bind_some]
  dsimp only
  rw [impl_ent rows basis cols costs last (by omega),spec_ent rows basis cols costs last (by omega),Option.bind_some,Option.bind_some,bne_self_eq_false,cond_false,
   leave_i rows' basis' cols' col (by omega) (by omega),leave_s rows' basis' cols' col (by omega) (by omega) (fun i hi => Nat.le_trans (u3 i hi) (by decide)),Option.bind_some,Option.bind_some,bne_self_eq_false,cond_false,cond_false]
  rfl
 ·have e0 : (st == 0) = false := by
   rw [beq_eq_false_iff_ne]
   omega
  have e4 : (st == 4) = false := by
   rw [beq_eq_false_iff_ne]
   omega
  rw [e0]
  have e2 : (false == true) = false := rfl
  rw [e2,cond_false,decide_eq_false (by omega),cond_false]
  obtain ⟨rows,basis,cols,costs,last,d1,⟨t1,t2,t3,t4,t5⟩,d2⟩ := draw_enter c (by omega)
  rw [d1,Option.bind_some]
  dsimp only
  obtain ⟨rows',basis',cols',col,d3,⟨u1,u2,u3,u4,u5⟩⟩ := draw_leave c (by omega)
  rw [d3,Option.bind_some]
  dsimp only
  rw [impl_ent rows basis cols costs last (by omega),spec_ent rows basis cols costs last (by omega),Option.bind_some,Option.bind_some,bne_self_eq_false,cond_false,
   leave_i rows' basis' cols' col (by omega) (by omega),leave_s rows' basis' cols' col (by omega) (by omega) (fun i hi => Nat.le_trans (u3 i hi) (by decide)),Option.bind_some,Option.bind_some,bne_self_eq_false,cond_false,cond_false,e4,cond_false,
   impl_check A B C hl st X Y R vn vd p (by omega) (by omega) (by omega),chk_same hl hsm hsol,hk,Option.bind_some,cond_true,spec_check A B C hl st X Y R vn vd p (by omega) (by omega),hk,Option.bind_some]
end Go.Proofs.YtbkpiknmlomjnaaGreat
