/- The plain laws: what the models of FnCoreMembers compute. No condition beyond those that each theorem names. -/
import Derived.Test.YtjnbmknniadbpaaGreatLCoreMembersa
namespace Go.Proofs.YtjnbmknniadbpaaGreat
open Go.AM
theorem impl_solve (A : List (List Int)) (B : List Int) (C : List Q) (h : lpOk A B C = true) : ∃ y,m_impl_solve A B C = some y ∧ imR A.length (solF A B C C.length A.length) y := by
 obtain ⟨p1,p2,p3,p4,p5,p6⟩ := lpOk_parts h
 have hroom : (room : Nat) = 1099511627776 := rfl
 have hg := start_gt h
 have hi := start_tinv A B C.length
 obtain ⟨x1,e1,r1⟩ := impl_ph (cost1 C.length A.length) (by rw [cost1_length]; omega) 1001 (stRows A B C.length) (stBas C.length A.length) 0 hg (by omega) (by omega) (by omega)
 unfold m_impl_solve
 have hc1 : m_impl_costsOf (zer C.length) 1 (B.length : Int) = some (cost1 C.length A.length) := by
  rw [p4,impl_costs _ _ _ (by rw [zer_length]; omega) (by omega)]
  rfl
 have hc2 : m_impl_costsOf C 0 (B.length : Int) = some (cost2 C A.length) := by
  rw [p4,impl_costs _ _ _ (by omega) (by omega)]
  rfl
 rw [impl_start A B C h,Option.bind_some]
 dsimp only
 rw [grd_pos ⟨by omega,rfl,by omega⟩,impl_zero _ (by omega),Option.bind_some,hc1,Option.bind_some,e1,Option.bind_some]
 unfold solF
 rcases hph : phF C.length (cost1 C.length A.length) 1001 (stRows A B C.length) (stBas C.length A.length) 0 with _ | ⟨c,k,r,b,p⟩ <;> rw [hph] at r1
 ·obtain ⟨c,k,r,b,nn,p,o⟩ := x1
  have : o = true := r1
  subst this
  exact ⟨_,rfl,rfl⟩
 ·have : x1 = (c,k,r,b,(C.length : Int),p,false) := r1
  subst this
  obtain ⟨g1,g2,g3,g4,_⟩ := phF_good 1001 _ _ _ hg hi (by omega) (by omega) _ _ _ _ _ hph
  obtain ⟨_,_,c3,c4⟩ := costF_val g1 g4
  dsimp only
  rw [cond_false]
  have e2 : IntKind.i64.wrap ((k.length : Int) - 1) = ((C.length + A.length : Nat) : Int) := by
   rw [w64' (by omega) (by omega)]
   omega
  have e3 : k.getD (C.length + A.length) ⟨0,0⟩ = lastQ k C.length A.length := rfl
  rw [e2,grd_pos (by omega),Int.toNat_natCast,e3]
  by_cases hneg : (lastQ k C.length A.length).num < 0
  ·rw [decide_eq_true hneg,cond_true,if_pos hneg]
   have hit := col_loop (step := l_impl_solve_0 B C k) (dlE B k C.length 1) (fun i => (dlQ k C.length 1 i).2.2) A.length ((0,0,0,0,false,[],[],[]) : ImY) (fun i hi acc hacc => by
     have e : IntKind.i64.wrap ((C.length : Int) + (i : Int)) = ((C.length + i : Nat) : Int) := by
      rw [w64' (by omega) (by omega)]
      omega
     unfold l_impl_solve_0 m_impl_whole m_impl_minus
     dsimp only
     rw [decide_eq_true (by omega),cond_true,Option.bind_some]
     dsimp only
     rw [e,grd_pos (by omega),Int.toNat_natCast,impl_sub,Option.bind_some]
     have hb := subQ_bd 1 1 (k.getD (C.length + i) ⟨0,0⟩).num (k.getD (C.length + i) ⟨0,0⟩).den
     have hd : subQ 1 1 (k.getD (C.length + i) ⟨0,0⟩).num (k.getD (C.length + i) ⟨0,0⟩).den = dlQ k C.length 1 i := rfl
     rw [hd] at hb
     rw [hd]
     unfold dlE
     revert hb
     rcases dlQ k C.length 1 i with ⟨x,y,o⟩
     intro hb
     dsimp only at hb ⊢
     rw [grd_pos (by omega),Int.toNat_natCast,w64' (n := (i : Int) + 1) (by omega) (by omega),w64' (n := 0 - x) (by omega) (by omega),Int.zero_sub,Option.bind_some]
     dsimp only
     rw [grd_pos (by rw [hacc]; simp only [List.length_singleton]; omega),grd_pos (by rw [hacc]; simp only [List.length_singleton]; omega)]
     cases o with
     | false => rfl
     | true =>
      by_cases h0 : B.getD i 0 < 0
      ·rw [decide_eq_true h0,if_pos h0]
       rfl
      ·rw [decide_eq_false h0,if_neg h0]
       rfl)
    (fun acc => by unfold l_impl_solve_0; dsimp only; rw [decide_eq_false (by omega),cond_false])
   rw [hit,Option.bind_some]
   by_cases hall : (List.range A.length).all (fun i => (dlQ k C.length 1 i).2.2) = true
   ·rw [if_pos hall]
    exact ⟨_,rfl,.inl rfl⟩
   ·rw [if_neg hall]
    refine ⟨_,rfl,.inr ⟨rfl,rfl,?_⟩⟩
    rw [all_iff] at hall
    have hex : ∃ i,i < A.length ∧ ¬ (dlQ k C.length 1 i).2.2 = true := Classical.byContradiction fun hn => hall fun i hi => Classical.byContradiction fun h2 => hn ⟨i,hi,h2⟩
    obtain ⟨i,hi,hno⟩ := hex
    refine ⟨i,hi,?_⟩
    unfold dlF
    rw [tab_getD _ _ _ _ hi]
    have hf : (dlQ k C.length 1 i).2.2 = false := by simpa using hno
    have := subQ_false hf
    have e0 : dlQ k C.length 1 i = (0,0,false) := this
    unfold dlE vq
    rw [e0]
    have : validQ (if B.getD i 0 < 0 then -(0 : Int) else 0) 0 = false := by
     split <;> decide
    dsimp only
    rw [this]
    decide
  ·rw [decide_eq_false hneg,cond_false,if_neg hneg]
   obtain ⟨y2,d1,d2⟩ := impl_drive B p4 C rfl r b p g1 g2 g3.1 g3.2
   rw [d1,Option.bind_some]
   rcases hdr : drF C.length r b p A.length with _ | ⟨r2,b2,q2⟩ <;> rw [hdr] at d2
   ·have : y2 = .inr (0,0,0,0,false,[],[],[]) := d2
    subst this
    exact ⟨_,rfl,rfl⟩
   ·have : y2 = .inl ((C.length : Int),q2,false,r2,b2) := d2
    subst this
    obtain ⟨h1,h2,h3⟩ := drF_good g1 g2 g3.1 g3.2 _ hdr
    dsimp only
    rw [hc2,Option.bind_some]
    obtain ⟨x3,f1,f2⟩ := impl_ph (cost2 C A.length) (by rw [cost2_length]; omega) 1001 r2 b2 q2 h1 h3.1 h3.2 (by omega)
    rw [f1,Option.bind_some]
    rcases hp2 : phF C.length (cost2 C A.length) 1001 r2 b2 q2 with _ | ⟨c',k2,r3,b3,p3'⟩ <;> rw [hp2] at f2
    ·obtain ⟨c,k,r,b,nn,p,o⟩ := x3
     have : o = true := f2
     subst this
     exact ⟨_,rfl,rfl⟩
    ·have : x3 = (c',k2,r3,b3,(C.length : Int),p3',false) := f2
     subst this
     obtain ⟨i1,i2,i3,i4,i5⟩ := phF_good 1001 _ _ _ h1 h2 h3.1 h3.2 _ _ _ _ _ hp2
     obtain ⟨_,_,j3,j4⟩ := costF_val i1 i4
     have hsl := slF_length r3 b3 C.length A.length A.length
     dsimp only
     rw [cond_false,impl_sol i1,Option.bind_some,grd_pos (by omega),Int.toNat_natCast]
     by_cases hc : 0 ≤ c'
     ·have hcc : c' = entF k2 (C.length : Int) := by
       rcases i5 with h | h
       ·omega
       ·exact h.1
      have hlt := entF_lt k2 (C.length : Int) (by omega)
      obtain ⟨cn,rfl⟩ : ∃ cn : Nat,c' = (cn : Int) := ⟨c'.toNat,by omega⟩
      unfold m_impl_whole
      rw [decide_eq_true (by omega),cond_true,if_pos hc,Option.bind_some,Option.bind_some]
      dsimp only
      rw [grd_pos (by rw [zer_length]; omega),Int.toNat_natCast,impl_ray i1 C rfl cn (by omega),Option.bind_some]
      exact ⟨_,rfl,.inl rfl⟩
     ·have e5 : IntKind.i64.wrap ((k2.length : Int) - 1) = ((C.length + A.length : Nat) : Int) := by
       rw [w64' (by omega) (by omega)]
       omega
      have e6 : k2.getD (C.length + A.length) ⟨0,0⟩ = lastQ k2 C.length A.length := rfl
      have hv2 := validQ_bd (j4 (C.length + A.length) (by omega)).1
      rw [e6] at hv2
      have hit := iter_tab (step := l_impl_solve_4 B C k2) [] (dlE B k2 C.length 0) A.length (fun i hi acc hacc => by
        have e : IntKind.i64.wrap ((C.length : Int) + (i : Int)) = ((C.length + i : Nat) : Int) := by
         rw [w64' (by omega) (by omega)]
         omega
        have hvi := (j4 (C.length + i) (by omega)).1
        have hvb := validQ_bd hvi
        have hdl : dlQ k2 C.length 0 i = (-(k2.getD (C.length + i) ⟨0,0⟩).num,(k2.getD (C.length + i) ⟨0,0⟩).den,true) := sub0 hvi
        unfold l_impl_solve_4 m_impl_minus
        dsimp only
        rw [decide_eq_true (by omega),cond_true,e,grd_pos (by omega),Int.toNat_natCast,Option.bind_some]
        dsimp only
        rw [grd_pos (by omega),Int.toNat_natCast,w64' (n := (i : Int) + 1) (by omega) (by omega),w64' (n := 0 - (k2.getD (C.length + i) ⟨0,0⟩).num) (by omega) (by omega),Int.zero_sub,Option.bind_some]
        dsimp only
        rw [w64' (by omega) (by omega),Int.zero_sub,grd_pos (by rw [hacc]; simp only [List.length_nil,List.length_singleton]; omega),grd_pos (by rw [hacc]; simp only [List.length_nil,List.length_singleton]; omega)]
        unfold dlE
        rw [hdl]
        by_cases h0 : B.getD i 0 < 0
        ·rw [decide_eq_true h0,if_pos h0]
         rfl
        ·rw [decide_eq_false h0,if_neg h0]
         rfl)
       (fun acc => by unfold l_impl_solve_4; dsimp only; rw [decide_eq_false (by omega),cond_false])
      rw [List.nil_append] at hit
      unfold m_impl_minus
      rw [decide_eq_false (by omega),cond_false,if_neg hc,e5,grd_pos (by omega),Int.toNat_natCast,e6,Option.bind_some]
      dsimp only
      rw [w64' (by omega) (by omega),Int.zero_sub,hit,Option.bind_some]
      exact ⟨_,rfl,.inl rfl⟩
theorem spec_column (A : List (List Int)) (B : List Int) (C : List Q) (h : lpOk A B C = true) (j : Nat) (hj : j < C.length) : m_spec_ColumnOf A B C (j : Int) = some (colA A j) := by
 obtain ⟨p1,p2,p3,p4,p5,p6⟩ := lpOk_parts h
 have hroom : (room : Nat) = 1099511627776 := rfl
 unfold m_spec_ColumnOf
 rw [spec_lp A B C (by omega) (fun i hi => by rw [(p1 i hi).1]; omega) (by omega) (by omega),h,Option.bind_some,Bool.not_true,cond_false,in_eq,w64' (by omega) (by omega),decide_eq_true (by omega),Option.bind_some,Bool.not_true,cond_false]
 have hit := iter_up (step := l_spec_ColumnOf_0 A (j : Int)) (fun k => ((k : Int),tab (fun k => (A.getD k []).getD j 0) k)) A.length (a := colA A j) (fun k hk => by
   have hr := (p1 k hk).1
   unfold l_spec_ColumnOf_0
   dsimp only
   rw [decide_eq_true (by omega),cond_true,grd_pos (by omega),Int.toNat_natCast,grd_pos (by omega),Int.toNat_natCast,grd_pos (by simp only [tab_length,List.length_singleton]; omega),w64' (by omega) (by omega),tab_succ]
   rfl)
  (by unfold l_spec_ColumnOf_0; dsimp only; rw [decide_eq_false (by omega),cond_false]; rfl)
 have e0 : tab (fun k => (A.getD k []).getD j 0) 0 = [] := rfl
 simp only [Int.natCast_zero,e0] at hit
 rw [hit,Option.bind_some]
theorem impl_column (A : List (List Int)) (B : List Int) (C : List Q) (h : lpOk A B C = true) (j : Nat) (hj : j < C.length) : m_impl_column A B C (j : Int) = some (colA A j) := by
 obtain ⟨p1,p2,p3,p4,p5,p6⟩ := lpOk_parts h
 have hroom : (room : Nat) = 1099511627776 := rfl
 unfold m_impl_column
 have hit := iter_up (step := l_impl_column_0 A (j : Int)) (fun k => ((k : Int),tab (fun k => (A.getD k []).getD j 0) k)) A.length (a := colA A j) (fun k hk => by
   have hr := (p1 k hk).1
   unfold l_impl_column_0
   dsimp only
   rw [decide_eq_true (by omega),cond_true,grd_pos (by omega),Int.toNat_natCast,grd_pos (by omega),Int.toNat_natCast,grd_pos (by simp only [tab_length,List.length_singleton]; omega),w64' (by omega) (by omega),tab_succ]
   rfl)
  (by unfold l_impl_column_0; dsimp only; rw [decide_eq_false (by omega),cond_false]; rfl)
 have e0 : tab (fun k => (A.getD k []).getD j 0) 0 = [] := rfl
 simp only [Int.natCast_zero,e0] at hit
 rw [hit,Option.bind_some]
theorem col_small {A : List (List Int)} {n : Nat} (h : ∀ k,k < A.length → (A.getD k []).length = n ∧ smallB (A.getD k []) = true) (j : Nat) : ∀ i,i < (colA A j).length → -1000000000 ≤ (colA A j).getD i 0 ∧ (colA A j).getD i 0 ≤ 1000000000 := by
 intro i hi
 rw [colA_length] at hi
 unfold colA
 rw [tab_getD _ _ _ _ hi]
 have := small_at (h i hi).2 j
 omega
def duE (A : List (List Int)) (Y c : List Q) (j : Nat) : Bool := (dotQ (ratsOf (colA A j)) Y).2.2 && !decide (cmpQ (c.getD j ⟨0,0⟩).num (c.getD j ⟨0,0⟩).den (dotQ (ratsOf (colA A j)) Y).1 (dotQ (ratsOf (colA A j)) Y).2.1 < 0)
def duS (A : List (List Int)) (Y c : List Q) (n : Nat) : Bool := (List.range n).all (duE A Y c)
theorem spec_dualB (A : List (List Int)) (B : List Int) (C Y c : List Q) (h : lpOk A B C = true) (hc : c.length = C.length) : m_spec_l5Dual A B C Y c = some (duS A Y c C.length) := by
 obtain ⟨p1,p2,p3,p4,p5,p6⟩ := lpOk_parts h
 unfold m_spec_l5Dual
 have hit := iter_findc (step := l_spec_l5Dual_0 A B C Y c) (fun j => (j : Int)) C.length (fun j => !duE A Y c j) (.inl ()) (fun _ => .inr false)
  (fun j hj => by
   unfold l_spec_l5Dual_0
   rw [decide_eq_true (by omega),cond_true,spec_column A B C h j hj,Option.bind_some,spec_l5dot _ _ (by rw [colA_length]; omega) (col_small p1 j),Option.bind_some]
   unfold duE
   rcases dotQ (ratsOf (colA A j)) Y with ⟨s,t,o⟩
   dsimp only
   rw [grd_pos (by omega),getD_nat,spec_cmp,Option.bind_some,w64' (by omega) (by omega)]
   cases o <;> cases decide (cmpQ (c.getD j ⟨0,0⟩).num (c.getD j ⟨0,0⟩).den s t < 0) <;> rfl)
  (by unfold l_spec_l5Dual_0; rw [decide_eq_false (by omega)]; rfl)
 simp only [Int.natCast_zero] at hit
 rw [find_all2] at hit
 rw [hit]
 unfold duS
 cases (List.range C.length).all (duE A Y c) <;> rfl
def duF (A : List (List Int)) (Y c : List Q) (j : Nat) : Bool := (dotQ (ratsOf (colA A j)) Y).2.2 && ((subQ (c.getD j ⟨0,0⟩).num (c.getD j ⟨0,0⟩).den (dotQ (ratsOf (colA A j)) Y).1 (dotQ (ratsOf (colA A j)) Y).2.1).2.2 && !decide ((subQ (c.getD j ⟨0,0⟩).num (c.getD j ⟨0,0⟩).den (dotQ (ratsOf (colA A j)) Y).1 (dotQ (ratsOf (colA A j)) Y).2.1).1 < 0))
theorem impl_col_dot (A : List (List Int)) (B : List Int) (C Y : List Q) (h : lpOk A B C = true) (hY : Y.length ≤ 1048576) (j : Nat) (hj : j < C.length) {β : Type} (f : Int × Int × Bool → Option β) :
  ((m_impl_column A B C (j : Int)).bind fun v4 => (m_impl_rats v4).bind fun v5 => (m_impl_DotRat Y v5).bind f) = f (dotQ (ratsOf (colA A j)) Y) := by
 obtain ⟨p1,p2,p3,p4,p5,p6⟩ := lpOk_parts h
 rw [impl_column A B C h j hj,Option.bind_some,impl_rats _ (by rw [colA_length]; omega) (col_small p1 j),Option.bind_some,impl_dot _ _ hY,Option.bind_some,dotQ_comm]
theorem impl_dualB (A : List (List Int)) (B : List Int) (C Y : List Q) (h : lpOk A B C = true) (hY : Y.length ≤ 1048576) : iter (l_impl_CheckLP_0 A B C Y) 0 = some (if (List.range C.length).all (duF A Y C) = true then .inl () else .inr false) := by
 obtain ⟨p1,p2,p3,p4,p5,p6⟩ := lpOk_parts h
 have hit := iter_findc (step := l_impl_CheckLP_0 A B C Y) (fun j => (j : Int)) C.length (fun j => !duF A Y C j) (.inl ()) (fun _ => .inr false)
  (fun j hj => by
   unfold l_impl_CheckLP_0
   rw [decide_eq_true (by omega),cond_true,grd_pos (by omega),getD_nat]
   refine (impl_col_dot A B C Y h hY j hj _).trans ?_
   unfold duF
   rcases dotQ (ratsOf (colA A j)) Y with ⟨s,t,o⟩
   dsimp only
   rw [impl_sub,Option.bind_some]
   rcases subQ (C.getD j ⟨0,0⟩).num (C.getD j ⟨0,0⟩).den s t with ⟨x,y,o2⟩
   dsimp only
   rw [w64' (by omega) (by omega)]
   cases o <;> cases o2 <;> cases decide (x < 0) <;> rfl)
  (by unfold l_impl_CheckLP_0; rw [decide_eq_false (by omega)]; rfl)
 simp only [Int.natCast_zero] at hit
 rw [find_all2] at hit
 exact hit
def duG (A : List (List Int)) (Y : List Q) (j : Nat) : Bool := (dotQ (ratsOf (colA A j)) Y).2.2 && !decide ((dotQ (ratsOf (colA A j)) Y).1 > 0)
theorem impl_dualG (A : List (List Int)) (B : List Int) (C Y : List Q) (h : lpOk A B C = true) (hY : Y.length ≤ 1048576) : iter (l_impl_CheckLP_1 A B C Y) 0 = some (if (List.range C.length).all (duG A Y) = true then .inl () else .inr false) := by
 obtain ⟨p1,p2,p3,p4,p5,p6⟩ := lpOk_parts h
 have hit := iter_findc (step := l_impl_CheckLP_1 A B C Y) (fun j => (j : Int)) C.length (fun j => !duG A Y j) (.inl ()) (fun _ => .inr false)
  (fun j hj => by
   unfold l_impl_CheckLP_1
   rw [decide_eq_true (by omega),cond_true]
   refine (impl_col_dot A B C Y h hY j hj _).trans ?_
   unfold duG
   rcases dotQ (ratsOf (colA A j)) Y with ⟨s,t,o⟩
   dsimp only
   rw [w64' (by omega) (by omega)]
   cases o <;> cases decide (s > 0) <;> rfl)
  (by unfold l_impl_CheckLP_1; rw [decide_eq_false (by omega)]; rfl)
 simp only [Int.natCast_zero] at hit
 rw [find_all2] at hit
 exact hit
theorem duG_eq (A : List (List Int)) (Y : List Q) (n j : Nat) (hj : j < n) : duG A Y j = duE A Y (zer n) j := by
 unfold duG duE
 rw [zer_at n j hj]
 rcases h : dotQ (ratsOf (colA A j)) Y with ⟨s,t,o⟩
 cases o with
 | false => rfl
 | true =>
  dsimp only
  congr 2
  refine decide_eq_decide.2 ?_
  have hv := (dotQ_val h).2.1
  rw [cmpQ_neg valid01 hv,rv01]
  exact (rv_sign hv).2.symm
theorem duG_all (A : List (List Int)) (Y : List Q) (n : Nat) : (List.range n).all (duG A Y) = duS A Y (zer n) n := by
 unfold duS
 cases h : (List.range n).all (duE A Y (zer n)) with
 | true =>
  rw [all_iff] at h
  rw [all_iff]
  exact fun j hj => by rw [duG_eq A Y n j hj]; exact h j hj
 | false =>
  rw [← Bool.not_eq_true] at h ⊢
  intro h2
  refine h ((all_iff _ _).2 fun j hj => ?_)
  rw [← duG_eq A Y n j hj]
  exact (all_iff _ _).1 h2 j hj
def optE (B : List Int) (C X Y : List Q) (vn vd : Int) : Bool := (dotQ C X).2.2 && ((dotQ (ratsOf B) Y).2.2 && (((dotQ C X).1 == (dotQ (ratsOf B) Y).1 && (dotQ C X).2.1 == (dotQ (ratsOf B) Y).2.1) && ((dotQ C X).1 == vn && (dotQ C X).2.1 == vd)))
def chkS (A : List (List Int)) (B : List Int) (C : List Q) (st : Int) (X Y R : List Q) (vn vd : Int) : Bool :=
 bif st == 1 then feasB A B C X && (decide (Y.length = B.length) && (duS A Y C C.length && optE B C X Y vn vd)) else
 bif st == 2 then decide (Y.length = B.length) && (duS A Y (zer C.length) C.length && ((dotQ (ratsOf B) Y).2.2 && decide ((dotQ (ratsOf B) Y).1 > 0))) else
 bif st == 3 then feasB A B C X && (decide (R.length = C.length) && (nnB R && (gvB A R (List.replicate B.length 0) && ((dotQ C R).2.2 && decide ((dotQ C R).1 < 0))))) else false
theorem spec_zeros (n : Nat) (hn : n ≤ 1000) : m_spec_l5Zeros (n : Int) = some (zer n) := by
 unfold m_spec_l5Zeros
 have hroom : (room : Nat) = 1099511627776 := rfl
 have h1 := iter_tab (step := l_spec_l5Zeros_0 (n : Int)) [] (fun _ => ⟨0,1⟩) n (fun i hi acc hacc => by
   unfold l_spec_l5Zeros_0 m_spec_l3Int
   dsimp only
   rw [decide_eq_true (by omega),cond_true,Option.bind_some]
   dsimp only
   rw [grd_pos (by rw [hacc]; simp only [List.length_nil,List.length_singleton]; omega),w64' (by omega) (by omega)]
   rfl)
  (fun acc => by unfold l_spec_l5Zeros_0; dsimp only; rw [decide_eq_false (by omega),cond_false])
 rw [List.nil_append] at h1
 rw [h1,Option.bind_some]
 rfl
theorem neI (a b : Nat) : ((a : Int) != (b : Int)) = !decide (a = b) := by
 by_cases h : a = b
 ·simp [h]
 ·have : ¬ ((a : Int) = (b : Int)) := by omega
  simp [h,this]
theorem eqI (a b : Nat) : ((a : Int) == (b : Int)) = decide (a = b) := beqI a b
theorem spec_check (A : List (List Int)) (B : List Int) (C : List Q) (h : lpOk A B C = true) (st : Int) (X Y R : List Q) (vn vd p : Int) (hX : X.length ≤ 1048576) (hR : R.length ≤ 1048576) :
  m_spec_CheckLP A B C st X Y R vn vd p = some (chkS A B C st X Y R vn vd) := by
 obtain ⟨p1,p2,p3,p4,p5,p6⟩ := lpOk_parts h
 have hroom : (room : Nat) = 1099511627776 := rfl
 have hAr : ∀ i,i < A.length → (A.getD i []).length ≤ 1048576 := fun i hi => by rw [(p1 i hi).1]; omega
 have hfeas := spec_feas A B C X (by omega) hAr (by omega) (by omega) hX
 have hdotB := spec_l5dot B Y (by omega) (small_ok p5)
 unfold m_spec_CheckLP m_spec_l5Optimal chkS
 rw [spec_lp A B C (by omega) hAr (by omega) (by omega),h,Option.bind_some,Bool.not_true,cond_false,hfeas]
 cases h1 : (st == 1) with
 | true =>
  rw [cond_true,cond_true]
  rw [spec_dualB A B C Y C h rfl,spec_dot C X (by omega),hdotB,neI]
  unfold optE
  rcases dotQ C X with ⟨a,b,o1⟩
  rcases dotQ (ratsOf B) Y with ⟨c,d,o2⟩
  dsimp only [Option.bind_some]
  cases feasB A B C X <;> cases decide (Y.length = B.length) <;> cases duS A Y C C.length <;> cases o1 <;> cases o2 <;> cases (a == c) <;> cases (b == d) <;> rfl
 | false =>
  rw [cond_false,cond_false]
  cases h2 : (st == 2) with
  | true =>
   rw [cond_true,cond_true,hdotB,Option.bind_some,eqI,spec_zeros _ (by omega)]
   rcases dotQ (ratsOf B) Y with ⟨c,d,o2⟩
   dsimp only [Option.bind_some]
   rw [spec_dualB A B C Y (zer C.length) h (zer_length _)]
   dsimp only [Option.bind_some]
   cases decide (Y.length = B.length) <;> cases duS A Y (zer C.length) C.length <;> cases o2 <;> rfl
  | false =>
   rw [cond_false,cond_false]
   cases h3 : (st == 3) with
   | false => rfl
   | true =>
    rw [cond_true,cond_true,spec_dot C R (by omega),Option.bind_some,eqI,spec_nn R hR,Int.toNat_natCast,spec_gv A B C R (List.replicate B.length 0) (by omega) (fun i hi => ⟨hAr i hi,(p1 i hi).2⟩) (by rw [List.length_replicate,p4])]
    have hgr : ((0 : Int) ≤ (B.length : Int) ∧ (B.length : Int) = (B.length : Int) ∧ (B.length : Int) ≤ (room : Int)) := ⟨by omega,rfl,by omega⟩
    rcases dotQ C R with ⟨a,b,o1⟩
    dsimp only [Option.bind_some]
    rw [grd_pos hgr]
    cases feasB A B C X <;> cases decide (R.length = C.length) <;> cases nnB R <;> cases gvB A R (List.replicate B.length 0) <;> cases o1 <;> rfl
def chkI (A : List (List Int)) (B : List Int) (C : List Q) (st : Int) (X Y R : List Q) (vn vd : Int) : Bool :=
 bif st == 1 then feasB A B C X && (decide (Y.length = B.length) && ((List.range C.length).all (duF A Y C) && optE B C X Y vn vd)) else chkS A B C st X Y R vn vd
theorem impl_check (A : List (List Int)) (B : List Int) (C : List Q) (h : lpOk A B C = true) (st : Int) (X Y R : List Q) (vn vd p : Int) (hX : X.length ≤ 1048576) (hY : Y.length ≤ 1048576) (hR : R.length ≤ 1048576) :
  m_impl_CheckLP A B C st X Y R vn vd p = some (chkI A B C st X Y R vn vd) := by
 obtain ⟨p1,p2,p3,p4,p5,p6⟩ := lpOk_parts h
 have hroom : (room : Nat) = 1099511627776 := rfl
 have hAr : ∀ i,i < A.length → (A.getD i []).length ≤ 1048576 := fun i hi => by rw [(p1 i hi).1]; omega
 have hfeas := impl_feas A B C X (by omega) hAr (by omega) (by omega) hX
 have hrB := impl_rats B (by omega) (small_ok p5)
 have hdB := impl_dot Y (ratsOf B) hY
 rw [dotQ_comm] at hdB
 unfold m_impl_CheckLP m_impl_notNegative chkI chkS
 rw [impl_lp A B C (by omega) hAr (by omega) (by omega),h,Option.bind_some,Bool.not_true,cond_false,hfeas,hrB]
 cases h1 : (st == 1) with
 | true =>
  rw [cond_true,cond_true]
  rw [impl_dualB A B C Y h hY,impl_dot C X (by omega),neI]
  unfold optE
  dsimp only [Option.bind_some]
  rw [hdB]
  rcases dotQ C X with ⟨a,b,o1⟩
  rcases dotQ (ratsOf B) Y with ⟨c,d,o2⟩
  dsimp only [Option.bind_some]
  cases feasB A B C X <;> cases decide (Y.length = B.length) <;> cases (List.range C.length).all (duF A Y C) <;> cases o1 <;> cases o2 <;> cases (a == c) <;> cases (b == d) <;> rfl
 | false =>
  rw [cond_false,cond_false]
  cases h2 : (st == 2) with
  | true =>
   rw [cond_true,cond_false,cond_true,neI,impl_dualG A B C Y h hY,duG_all]
   dsimp only [Option.bind_some]
   rw [hdB]
   rcases dotQ (ratsOf B) Y with ⟨c,d,o2⟩
   dsimp only [Option.bind_some]
   cases decide (Y.length = B.length) <;> cases duS A Y (zer C.length) C.length <;> cases o2 <;> rfl
  | false =>
   rw [cond_false,cond_false,cond_false]
   cases h3 : (st == 3) with
   | false => rfl
   | true =>
    rw [cond_true,cond_true,impl_dot C R (by omega),eqI,impl_nn1 R hR,Int.toNat_natCast,impl_gv A B C R (List.replicate B.length 0) (by omega) (fun i hi => ⟨hAr i hi,(p1 i hi).2⟩) (by rw [List.length_replicate,p4])]
    have hgr : ((0 : Int) ≤ (B.length : Int) ∧ (B.length : Int) = (B.length : Int) ∧ (B.length : Int) ≤ (room : Int)) := ⟨by omega,rfl,by omega⟩
    rcases dotQ C R with ⟨a,b,o1⟩
    dsimp only [Option.bind_some]
    rw [grd_pos hgr]
    cases feasB A B C X <;> cases decide (R.length = C.length) <;> cases nnB R <;> cases gvB A R (List.replicate B.length 0) <;> cases o1 <;> rfl
def smC (C : List Q) : Prop := ∀ j,j < C.length → (-100000000 ≤ (C.getD j ⟨0,0⟩).num ∧ (C.getD j ⟨0,0⟩).num ≤ 100000000) ∧ (C.getD j ⟨0,0⟩).den ≤ 100000000
theorem cost2_at (C : List Q) (m j : Nat) (h : j < C.length) : qg (cost2 C m) j = qg C j := by
 unfold qg cost2
 rw [getD_app1 _ _ _ _ h]
theorem cost2_art (C : List Q) (m i : Nat) (h : i < m) : qg (cost2 C m) (C.length + i) = 0 := by
 unfold qg cost2
 rw [getD_app2 _ _ _ _ _ rfl,zer_at m i h]
 exact rv01
theorem dlF_val {n m : Nat} {B : List Int} {k2 : List Q} (hv : ∀ j,j ≤ n + m → vq (k2.getD j ⟨0,0⟩)) (i : Nat) (hi : i < m) : vq ((dlF B k2 n m 0).getD i ⟨0,0⟩) ∧ qg (dlF B k2 n m 0) i = ((sgB B i : Int) : Rat) * (-(qg k2 (n + i))) := by
 have hq := hv (n + i) (by omega)
 unfold qg dlF
 rw [tab_getD _ _ _ _ hi]
 have hdl : dlQ k2 n 0 i = (-(k2.getD (n + i) ⟨0,0⟩).num,(k2.getD (n + i) ⟨0,0⟩).den,true) := sub0 hq
 unfold dlE sgB qr vq
 rw [hdl]
 dsimp only
 by_cases h0 : B.getD i 0 < 0
 ·rw [if_pos h0,if_pos h0]
  refine ⟨by rw [Int.neg_neg]; exact hq,?_⟩
  rw [rv_neg,rv_neg]
  have : ((-1 : Int) : Rat) = -1 := rfl
  rw [this]
  grind
 ·rw [if_neg h0,if_neg h0]
  refine ⟨by rw [validQ_neg]; exact hq,?_⟩
  rw [rv_neg]
  have : ((1 : Int) : Rat) = 1 := rfl
  rw [this]
  grind
theorem entF_pos {costs : List Q} {n : Nat} (hl : n ≤ costs.length) (h : entF costs (n : Int) < 0) (j : Nat) (hj : j < n) : ¬ cmpQ (costs.getD j ⟨0,0⟩).num (costs.getD j ⟨0,0⟩).den 0 1 < 0 := by
 unfold entF at h
 rw [if_pos (by omega),Int.toNat_natCast] at h
 split at h
 ·omega
 ·rename_i hn
  rw [List.find?_range_eq_none] at hn
  have := hn j hj
  simpa using this
theorem red_dual {A : List (List Int)} {B : List Int} {C : List Q} {r : List (List Q)} {b : List Int} {k2 : List Q} (hg : GT C.length A.length r b) (hi : TInv (stS A B C.length) C.length A.length (tv r) (bn b)) (hc : costF r b (C.length : Int) (cost2 C A.length) = (true,k2)) (j : Nat) (hj : j < C.length) :
  qg k2 j = qg C j - sR (fun i => ag A i j * qg (dlF B k2 C.length A.length 0) i) A.length := by
 obtain ⟨_,_,_,c4⟩ := costF_val hg hc
 have hr := red_cost (cost := qg (cost2 C A.length)) (costs := qg k2) hi (fun j hj => (c4 j hj).2) j (by omega)
 rw [hr,cost2_at C _ j hj]
 congr 1
 refine sR_ext fun i hi2 => ?_
 rw [cost2_art C _ i hi2,stS_X A B _ i j hi2 hj,(dlF_val (fun j hj => (c4 j hj).1) i hi2).2]
 grind
theorem opt_dual {A : List (List Int)} {B : List Int} {C : List Q} {r : List (List Q)} {b : List Int} {k2 : List Q} (hC : allB C = true) (hs : smC C) (hg : GT C.length A.length r b) (hi : TInv (stS A B C.length) C.length A.length (tv r) (bn b)) (hc : costF r b (C.length : Int) (cost2 C A.length) = (true,k2)) (he : entF k2 (C.length : Int) < 0) (j : Nat) (hj : j < C.length) :
  duF A (dlF B k2 C.length A.length 0) C j = duE A (dlF B k2 C.length A.length 0) C j := by
 obtain ⟨_,_,c3,c4⟩ := costF_val hg hc
 have hr := red_dual hg hi hc j hj
 have hk := (c4 j (by omega)).1
 have hpos := entF_pos (by omega) he j hj
 unfold duF duE
 rcases hd : dotQ (ratsOf (colA A j)) (dlF B k2 C.length A.length 0) with ⟨s,t,o⟩
 cases o with
 | false => rfl
 | true =>
  obtain ⟨_,d2,_,d4⟩ := colA_dot hd
  have hcj := all_val hC j hj
  obtain ⟨s1,s2⟩ := hs j hj
  have v1 := validQ_bd hcj
  have v2 := validQ_bd d2
  have hval : rv (k2.getD j ⟨0,0⟩).num (k2.getD j ⟨0,0⟩).den = rv (C.getD j ⟨0,0⟩).num (C.getD j ⟨0,0⟩).den - rv s t := by
   rw [d4]
   exact hr
  have b1 : -100000000000000000 ≤ (C.getD j ⟨0,0⟩).num * t ∧ (C.getD j ⟨0,0⟩).num * t ≤ 100000000000000000 := by
   have m1 := Int.mul_le_mul_of_nonneg_right s1.1 (by omega : (0 : Int) ≤ t)
   have m2 := Int.mul_le_mul_of_nonneg_right s1.2 (by omega : (0 : Int) ≤ t)
   omega
  have b2 : -100000000000000000 ≤ s * (C.getD j ⟨0,0⟩).den ∧ s * (C.getD j ⟨0,0⟩).den ≤ 100000000000000000 := by
   have m1 := Int.mul_le_mul_of_nonneg_right v2.2.2.1 (by omega : (0 : Int) ≤ (C.getD j ⟨0,0⟩).den)
   have m2 := Int.mul_le_mul_of_nonneg_right v2.2.2.2.1 (by omega : (0 : Int) ≤ (C.getD j ⟨0,0⟩).den)
   omega
  have hsub := subQ_of hcj d2 hk (by omega) hval
  dsimp only
  rw [hsub]
  dsimp only
  rw [cmpQ_neg hk valid01,rv01] at hpos
  have e1 : decide ((k2.getD j ⟨0,0⟩).num < 0) = false := decide_eq_false fun h => hpos ((rv_sign hk).1.2 h)
  have e2 : decide (cmpQ (C.getD j ⟨0,0⟩).num (C.getD j ⟨0,0⟩).den s t < 0) = false := decide_eq_false fun h => by
   rw [cmpQ_neg hcj d2] at h
   exact hpos (by rw [hval]; grind)
  rw [e1,e2]
  rfl
structure OptE (A : List (List Int)) (B : List Int) (C : List Q) (vn vd : Int) (X Y : List Q) (r : List (List Q)) (b : List Int) (k : List Q) : Prop where
 g : GT C.length A.length r b
 t : TInv (stS A B C.length) C.length A.length (tv r) (bn b)
 c : costF r b (C.length : Int) (cost2 C A.length) = (true,k)
 e : entF k (C.length : Int) < 0
 x : X = (slF r b C.length A.length A.length).take C.length
 y : Y = dlF B k C.length A.length 0
 v : vn = -(lastQ k C.length A.length).num ∧ vd = (lastQ k C.length A.length).den
theorem sol_cases {A : List (List Int)} {B : List Int} {C : List Q} (h : lpOk A B C = true) {st vn vd : Int} {X Y R : List Q} {p : Int} (hs : solF A B C C.length A.length = some (st,vn,vd,X,Y,R,p)) :
  (0 ≤ p ∧ p ≤ 1000) ∧ X.length ≤ 70 ∧ Y.length ≤ 8 ∧ R.length ≤ 70 ∧ ((st = 2 ∧ X = [] ∧ R = []) ∨ (st = 3 ∧ Y = []) ∨ (st = 1 ∧ R = [] ∧ ∃ r b k,OptE A B C vn vd X Y r b k)) := by
 obtain ⟨p1,p2,p3,p4,p5,p6⟩ := lpOk_parts h
 have hg := start_gt h
 have hi := start_tinv A B C.length
 unfold solF at hs
 rcases hph : phF C.length (cost1 C.length A.length) 1001 (stRows A B C.length) (stBas C.length A.length) 0 with _ | ⟨c,k,r,b,p'⟩
 ·rw [hph] at hs
  cases hs
 ·rw [hph] at hs
  dsimp only at hs
  obtain ⟨g1,g2,g3,g4,_⟩ := phF_good 1001 _ _ _ hg hi (by omega) (by omega) _ _ _ _ _ hph
  by_cases hneg : (lastQ k C.length A.length).num < 0
  ·rw [if_pos hneg] at hs
   simp only [Option.some.injEq,Prod.mk.injEq] at hs
   obtain ⟨rfl,rfl,rfl,rfl,rfl,rfl,rfl⟩ := hs
   refine ⟨g3,by simp,?_,by simp,.inl ⟨rfl,rfl,rfl⟩⟩
   unfold dlF
   rw [tab_length]
   omega
  ·rw [if_neg hneg] at hs
   rcases hdr : drF C.length r b p' A.length with _ | ⟨r2,b2,q2⟩
   ·rw [hdr] at hs
    cases hs
   ·rw [hdr] at hs
    dsimp only at hs
    obtain ⟨h1,h2,h3⟩ := drF_good g1 g2 g3.1 g3.2 _ hdr
    rcases hp2 : phF C.length (cost2 C A.length) 1001 r2 b2 q2 with _ | ⟨c',k2,r3,b3,p3'⟩
    ·rw [hp2] at hs
     cases hs
    ·rw [hp2] at hs
     dsimp only at hs
     obtain ⟨i1,i2,i3,i4,i5⟩ := phF_good 1001 _ _ _ h1 h2 h3.1 h3.2 _ _ _ _ _ hp2
     by_cases hc : 0 ≤ c'
     ·rw [if_pos hc] at hs
      simp only [Option.some.injEq,Prod.mk.injEq] at hs
      obtain ⟨rfl,rfl,rfl,rfl,rfl,rfl,rfl⟩ := hs
      refine ⟨i3,by rw [List.length_take]; omega,by simp,by rw [ryF_length]; omega,.inr (.inl ⟨rfl,rfl⟩)⟩
     ·rw [if_neg hc] at hs
      simp only [Option.some.injEq,Prod.mk.injEq] at hs
      obtain ⟨rfl,rfl,rfl,rfl,rfl,rfl,rfl⟩ := hs
      refine ⟨i3,by rw [List.length_take]; omega,?_,by simp,.inr (.inr ⟨rfl,rfl,r3,b3,k2,i1,i2,i4,?_,rfl,rfl,rfl,rfl⟩)⟩
      ·unfold dlF
       rw [tab_length]
       omega
      ·rcases i5 with h | h
       ·exact h.2
       ·omega
abbrev LpR := Int × Int × Int × Int × List Q × List Q × List Q
def slpF (A : List (List Int)) (B : List Int) (C : List Q) : LpR :=
 if lpOk A B C = true then (match solF A B C C.length A.length with
  | none => (4,0,0,0,[],[],[])
  | some (st,vn,vd,X,Y,R,p) => bif chkS A B C st X Y R vn vd then (st,vn,vd,p,X,Y,R) else (4,0,0,0,[],[],[])) else (0,0,0,0,[],[],[])
theorem spec_slp (A : List (List Int)) (B : List Int) (C : List Q) (hA : A.length ≤ 1048576) (hAr : ∀ i,i < A.length → (A.getD i []).length ≤ 1048576) (hB : B.length ≤ 1048576) (hC : C.length ≤ 1048576) : m_spec_SolveLP A B C = some (slpF A B C) := by
 unfold m_spec_SolveLP slpF
 rw [spec_lp A B C hA hAr hB hC,Option.bind_some]
 cases h : lpOk A B C with
 | false => rw [if_neg (by simp)]; rfl
 | true =>
  rw [if_pos rfl,Bool.not_true,cond_false,spec_start A B C h,Option.bind_some]
  dsimp only
  obtain ⟨x,e,r⟩ := spec_solve A B C h
  rw [e,Option.bind_some]
  rcases hs : solF A B C C.length A.length with _ | ⟨st,vn,vd,X,Y,R,p⟩ <;> rw [hs] at r
  ·obtain ⟨x1,x2,x3,x4,x5,x6,x7,x8,x9,x10,x11,x12⟩ := x
   have : x12 = true := r
   subst this
   rfl
  ·obtain ⟨rr,bb,rfl⟩ := r
   obtain ⟨_,l1,l2,l3,_⟩ := sol_cases h hs
   dsimp only
   rw [cond_false,spec_check A B C h st X Y R vn vd p (by omega) (by omega),Option.bind_some]
   cases hck : chkS A B C st X Y R vn vd with
   | false => rfl
   | true =>
    rw [Bool.not_true,cond_false,spec_copy X (by omega),Option.bind_some]
    rfl
theorem chk_same {A : List (List Int)} {B : List Int} {C : List Q} (h : lpOk A B C = true) (hsm : smC C) {st vn vd : Int} {X Y R : List Q} {p : Int} (hs : solF A B C C.length A.length = some (st,vn,vd,X,Y,R,p)) : chkI A B C st X Y R vn vd = chkS A B C st X Y R vn vd := by
 obtain ⟨p1,p2,p3,p4,p5,p6⟩ := lpOk_parts h
 obtain ⟨_,_,_,_,hc⟩ := sol_cases h hs
 unfold chkI
 cases h1 : (st == 1) with
 | false => rfl
 | true =>
  rw [cond_true]
  unfold chkS
  rw [h1,cond_true]
  have hst : st = 1 := by simpa using h1
  rcases hc with ⟨h2,_⟩ | ⟨h2,_⟩ | ⟨_,_,r,b,k,o⟩
  ·omega
  ·omega
  ·have hall : (List.range C.length).all (duF A Y C) = duS A Y C C.length := by
    unfold duS
    have hj : ∀ j,j < C.length → duF A Y C j = duE A Y C j := fun j hj => by
     rw [o.y]
     exact opt_dual p6 hsm o.g o.t o.c o.e j hj
    cases hd : (List.range C.length).all (duE A Y C) with
    | true =>
     rw [all_iff] at hd
     rw [all_iff]
     exact fun j hjl => by rw [hj j hjl]; exact hd j hjl
    | false =>
     rw [← Bool.not_eq_true] at hd ⊢
     intro h2
     refine hd ((all_iff _ _).2 fun j hjl => ?_)
     rw [← hj j hjl]
     exact (all_iff _ _).1 h2 j hjl
   rw [hall]
theorem impl_slp (A : List (List Int)) (B : List Int) (C : List Q) (hA : A.length ≤ 1048576) (hAr : ∀ i,i < A.length → (A.getD i []).length ≤ 1048576) (hB : B.length ≤ 1048576) (hC : C.length ≤ 1048576) (hsm : smC C) : m_impl_SolveLP A B C = some (slpF A B C) := by
 unfold m_impl_SolveLP slpF
 rw [impl_lp A B C hA hAr hB hC,Option.bind_some]
 cases h : lpOk A B C with
 | false => rw [if_neg (by simp)]; rfl
 | true =>
  rw [if_pos rfl,Bool.not_true,cond_false]
  obtain ⟨y,e,r⟩ := impl_solve A B C h
  rw [e,Option.bind_some]
  rcases hs : solF A B C C.length A.length with _ | ⟨st,vn,vd,X,Y,R,p⟩ <;> rw [hs] at r
  ·obtain ⟨y1,y2,y3,y4,y5,y6,y7,y8⟩ := y
   have : y5 = false := r
   subst this
   rfl
  ·obtain ⟨_,l1,l2,l3,hcs⟩ := sol_cases h hs
   rcases r with rfl | ⟨r1,rfl,kk,hk,hno⟩
   ·dsimp only
    rw [Bool.not_true,cond_false,impl_check A B C h st X Y R vn vd p (by omega) (by omega) (by omega),Option.bind_some,chk_same h hsm hs]
    cases chkS A B C st X Y R vn vd <;> rfl
   ·obtain ⟨y1,y2,y3,y4,y5,y6,y7,y8⟩ := y
    have : y5 = false := r1
    subst this
    obtain ⟨p1,p2,p3,p4,p5,p6⟩ := lpOk_parts h
    have hck : chkS A B C 2 X Y R vn vd = false := by
     unfold chkS
     have e1 : ((2 : Int) == 1) = false := rfl
     have e2 : ((2 : Int) == 2) = true := rfl
     rw [e1,e2,cond_false,cond_true]
     rcases hd : dotQ (ratsOf B) Y with ⟨s,t,o⟩
     cases o with
     | false => simp
     | true =>
      exfalso
      obtain ⟨_,_,q3,_⟩ := dotQ_val hd
      exact hno (q3 kk (by rw [ratsOf_length]; omega)).2
    dsimp only
    rw [hck]
    rfl
theorem slp_one {A : List (List Int)} {B : List Int} {C : List Q} {vn vd p : Int} {X Y R : List Q} (h : slpF A B C = (1,vn,vd,p,X,Y,R)) :
  lpOk A B C = true ∧ R = [] ∧ (∃ r b k,OptE A B C vn vd X Y r b k) ∧ feasB A B C X = true ∧ Y.length = B.length ∧ duS A Y C C.length = true ∧ optE B C X Y vn vd = true := by
 unfold slpF at h
 split at h
 ·rename_i hl
  rcases hs : solF A B C C.length A.length with _ | ⟨st,a,b,X',Y',R',q⟩
  ·rw [hs] at h
   simp at h
  ·rw [hs] at h
   dsimp only at h
   obtain ⟨_,_,_,_,hc⟩ := sol_cases hl hs
   cases hk : chkS A B C st X' Y' R' a b with
   | false =>
    rw [hk] at h
    simp at h
   | true =>
    rw [hk,cond_true] at h
    simp only [Prod.mk.injEq] at h
    obtain ⟨rfl,rfl,rfl,rfl,rfl,rfl,rfl⟩ := h
    rcases hc with ⟨h2,_⟩ | ⟨h2,_⟩ | ⟨_,h3,h4⟩
    ·omega
    ·omega
    ·unfold chkS at hk
     have e1 : ((1 : Int) == 1) = true := rfl
     rw [e1,cond_true] at hk
     simp only [Bool.and_eq_true,decide_eq_true_eq] at hk
     exact ⟨hl,h3,h4,hk.1,hk.2.1,hk.2.2.1,hk.2.2.2⟩
 ·simp at h
theorem opt_val {B : List Int} {C X Y : List Q} {vn vd : Int} (h : optE B C X Y vn vd = true) : validQ vn vd = true ∧ X.length = C.length ∧ (∀ i,i < B.length → vq (Y.getD i ⟨0,0⟩)) ∧ rv vn vd = sR (fun j => qg C j * qg X j) C.length ∧ rv vn vd = sR (fun i => ig B i * qg Y i) B.length ∧ dotQ C X = (vn,vd,true) := by
 unfold optE at h
 simp only [Bool.and_eq_true,beq_iff_eq] at h
 obtain ⟨h1,h2,⟨h3,h4⟩,h5,h6⟩ := h
 rcases hx : dotQ C X with ⟨a,b,o1⟩
 rcases hy : dotQ (ratsOf B) Y with ⟨c,d,o2⟩
 rw [hx] at h1 h3 h4 h5 h6
 rw [hy] at h2 h3 h4
 dsimp only at h1 h2 h3 h4 h5 h6
 subst h1 h2 h5 h6 h3 h4
 obtain ⟨a1,a2,a3,a4⟩ := dotQ_val hx
 obtain ⟨b1,b2,b3,b4⟩ := dotQ_val hy
 rw [ratsOf_length] at b3 b4
 refine ⟨a2,a1.symm,fun i hi => (b3 i hi).2,a4,?_,rfl⟩
 rw [b4]
 refine sR_ext fun i hi => ?_
 rw [qg_ratsOf B i hi]
 rfl
theorem smC_int {C : List Q} (h : ∀ j,j < C.length → (C.getD j ⟨0,0⟩).den = 1 ∧ -100000000 ≤ (C.getD j ⟨0,0⟩).num ∧ (C.getD j ⟨0,0⟩).num ≤ 100000000) : smC C := fun j hj => by
 have := h j hj
 omega
theorem val_all {n : Int} {l : List Int} (h : Valid n l) (i : Nat) : -500 ≤ l.getD i 0 ∧ l.getD i 0 ≤ 500 := by
 by_cases hi : i < l.length
 ·exact h.2.2.2 i hi
 ·have : l.getD i 0 = 0 := by
   rw [List.getD_eq_getElem?_getD,List.getElem?_eq_none (by omega)]
   rfl
  rw [this]
  decide
def nqs (Y : List Q) (n : Nat) : List Q := tab (fun k => nq (Y.getD k ⟨0,0⟩)) n
theorem impl_negs (Y : List Q) (hN : Y.length ≤ 1000) (hv : ∀ i,i < Y.length → vq (Y.getD i ⟨0,0⟩)) : m_impl_minusAll Y = some (nqs Y Y.length) := by
 unfold m_impl_minusAll
 have hroom : (room : Nat) = 1099511627776 := rfl
 have h1 := iter_tab (step := l_impl_minusAll_0 Y) [] (fun k => nq (Y.getD k ⟨0,0⟩)) Y.length (fun i hi acc hacc => by
   have hb := validQ_bd (hv i hi)
   unfold l_impl_minusAll_0 m_impl_minus
   dsimp only
   rw [decide_eq_true (by omega),cond_true,grd_pos (by omega),Int.toNat_natCast,Option.bind_some]
   dsimp only
   rw [grd_pos (by rw [hacc]; simp only [List.length_nil,List.length_singleton]; omega),w64' (by omega) (by omega),w64' (by omega) (by omega),Int.zero_sub]
   rfl)
  (fun acc => by unfold l_impl_minusAll_0; dsimp only; rw [decide_eq_false (by omega),cond_false])
 rw [List.nil_append] at h1
 rw [h1,Option.bind_some]
 rfl
theorem take_at (Y : List Q) (n i : Nat) (hi : i < n) (hl : n ≤ Y.length) : (Y.take n).getD i ⟨0,0⟩ = Y.getD i ⟨0,0⟩ := by
 rw [getD_get _ _ _ (by rw [List.length_take]; omega),getD_get _ _ _ (by omega),List.getElem_take]
theorem slF_at {n m : Nat} {rows : List (List Q)} {basis : List Int} (h : GT n m rows basis) : ∀ (k : Nat),k ≤ m → ∀ j,j < n + m → qg (slF rows basis n m k) j = 0 ∨ ∃ i,i < m ∧ qg (slF rows basis n m k) j = tv rows i (n + m)
 | 0,_,j,hj => by
  left
  unfold qg slF
  rw [zer_at _ j hj]
  exact rv01
 | k + 1,hk,j,hj => by
  have hl := slF_length rows basis n m k
  have hb := h.bas k (by omega)
  simp only [slF]
  unfold qg
  rw [getD_get _ _ _ (by rw [List.length_set]; omega),List.getElem_set]
  by_cases e : bn basis k = j
  ·rw [if_pos e]
   exact .inr ⟨k,by omega,rfl⟩
  ·rw [if_neg e]
   have := slF_at h k (by omega) j hj
   unfold qg at this
   rwa [getD_get _ _ _ (by omega)] at this
theorem opt_X {A : List (List Int)} {B : List Int} {C X Y : List Q} {vn vd : Int} {r : List (List Q)} {b : List Int} {k : List Q} (o : OptE A B C vn vd X Y r b k) (j : Nat) (hj : j < C.length) : qg X j = 0 ∨ ∃ i,i < A.length ∧ qg X j = tv r i (C.length + A.length) := by
 have hl := slF_length r b C.length A.length A.length
 have := slF_at o.g A.length (Nat.le_refl _) j (by omega)
 rw [o.x]
 have e : qg ((slF r b C.length A.length A.length).take C.length) j = qg (slF r b C.length A.length A.length) j := by
  unfold qg
  rw [take_at _ _ _ hj (by omega)]
 rw [e]
 exact this
theorem stS_int {A : List (List Int)} {B : List Int} {n : Nat} (i j : Nat) (hi : i < A.length) (hj : j ≤ n + A.length) : ∃ z : Int,stS A B n i j = z := by
 by_cases h1 : j < n
 ·rw [stS_X A B n i j hi h1]
  exact ⟨sgB B i * (A.getD i []).getD j 0,by rw [Rat.intCast_mul]; rfl⟩
 ·by_cases h2 : j < n + A.length
  ·have e : j = n + (j - n) := by omega
   rw [e,stS_U A B n i _ hi (by omega)]
   split
   ·exact ⟨1,rfl⟩
   ·exact ⟨0,rfl⟩
  ·have e : j = n + A.length := by omega
   rw [e,stS_B A B n i hi]
   exact ⟨sgB B i * B.getD i 0,by rw [Rat.intCast_mul]; rfl⟩
theorem den_prim {A : List (List Int)} {B : List Int} {n : Nat} {r : List (List Q)} {b : List Int} (hi : TInv (stS A B n) n A.length (tv r) (bn b)) {K : Nat} {lo : Nat → Int}
  (hb : ∀ i,i < A.length → ∀ f : Nat → Rat,(∀ k,k < A.length → 0 ≤ f k ∧ f k < 1) → (lo i : Rat) - 1 < sR (fun k => stS A B n i (bn b k) * f k) A.length ∧ sR (fun k => stS A B n i (bn b k) * f k) A.length < (lo i : Rat) + (K : Int)) :
  ∃ D : Nat,1 ≤ D ∧ D ≤ K ^ A.length ∧ ∀ k,k < A.length → ∃ z : Int,(D : Rat) * tv r k (n + A.length) = z := by
 refine den_small (W := fun i k => stS A B n i (bn b k)) (N := fun l i => tv r l (n + i)) (fun i hii k hk => ?_) (fun l hl k hk => ?_) (fun i hii => ?_) hb
 ·have := hi.bb k hk
  exact stS_int i _ hii (by omega)
 ·have := hi.bb k hk
  rw [← hi.L l hl (bn b k) (by omega),hi.U l hl k hk]
 ·rw [← hi.R i hii (n + A.length) (Nat.le_refl _)]
  exact stS_int i _ hii (Nat.le_refl _)
theorem den_dual {A : List (List Int)} {B : List Int} {C : List Q} {r : List (List Q)} {b : List Int} {k2 : List Q} (hg : GT C.length A.length r b) (hi : TInv (stS A B C.length) C.length A.length (tv r) (bn b)) (hc : costF r b (C.length : Int) (cost2 C A.length) = (true,k2)) (hint : ∀ j,j < C.length → ∃ z : Int,qg C j = z) {K : Nat} {lo : Nat → Int}
  (hb : ∀ l,l < A.length → ∀ f : Nat → Rat,(∀ k,k < A.length → 0 ≤ f k ∧ f k < 1) → (lo l : Rat) - 1 < sR (fun i => stS A B C.length i (bn b l) * f i) A.length ∧ sR (fun i => stS A B C.length i (bn b l) * f i) A.length < (lo l : Rat) + (K : Int)) :
  ∃ D : Nat,1 ≤ D ∧ D ≤ K ^ A.length ∧ ∀ i,i < A.length → ∃ z : Int,(D : Rat) * qg k2 (C.length + i) = z := by
 obtain ⟨_,_,_,c4⟩ := costF_val hg hc
 have hk : ∀ i,i < A.length → qg k2 (C.length + i) = - sR (fun k => qg (cost2 C A.length) (bn b k) * tv r k (C.length + i)) A.length := fun i hii => by
  rw [(c4 (C.length + i) (by omega)).2,cost2_art C _ i hii]
  grind
 have hci : ∀ l,l < A.length → ∃ z : Int,qg (cost2 C A.length) (bn b l) = z := fun l hl => by
  have := hi.bb l hl
  by_cases h1 : bn b l < C.length
  ·rw [cost2_at C _ _ h1]
   exact hint _ h1
  ·have e : bn b l = C.length + (bn b l - C.length) := by omega
   rw [e,cost2_art C _ _ (by omega)]
   exact ⟨0,rfl⟩
 obtain ⟨D,d1,d2,d3⟩ := den_small (W := fun l i => stS A B C.length i (bn b l)) (N := fun i l => tv r l (C.length + i)) (x := fun i => - qg k2 (C.length + i)) (K := K) (lo := lo) (m := A.length) (fun l hl i hii => by
   have := hi.bb l hl
   exact stS_int i _ hii (by omega))
  (fun i hii i' hii' => by
   have h1 := hi.R i' hii' (C.length + i) (by omega)
   have h2 : sR (fun l => tv r l (C.length + i) * stS A B C.length i' (bn b l)) A.length = stS A B C.length i' (C.length + i) := by
    rw [h1]
    exact sR_ext fun l _ => Rat.mul_comm _ _
   rw [h2,stS_U A B _ i' i hii' hii]
   by_cases e : i = i'
   ·rw [if_pos e,if_pos e.symm]
   ·rw [if_neg e,if_neg fun x => e x.symm])
  (fun l hl => by
   have hbl := hi.bb l hl
   have e1 : sR (fun i => stS A B C.length i (bn b l) * -qg k2 (C.length + i)) A.length = sR (fun i => sR (fun k => qg (cost2 C A.length) (bn b k) * (tv r k (C.length + i) * stS A B C.length i (bn b l))) A.length) A.length := sR_ext fun i hii => by
    rw [hk i hii,Rat.neg_neg,← sR_mul]
    exact sR_ext fun k _ => by grind
   rw [e1,sR_comm]
   have e2 : sR (fun k => sR (fun i => qg (cost2 C A.length) (bn b k) * (tv r k (C.length + i) * stS A B C.length i (bn b l))) A.length) A.length = sR (fun k => qg (cost2 C A.length) (bn b k) * (if k = l then 1 else 0)) A.length := sR_ext fun k hkk => by
    rw [sR_mul,← hi.L k hkk (bn b l) (by omega),hi.U k hkk l hl]
   rw [e2,sR_single hl fun k hk2 hne => by rw [if_neg hne,Rat.mul_zero],if_pos rfl,Rat.mul_one]
   exact hci l hl) hb
 refine ⟨D,d1,d2,fun i hii => ?_⟩
 obtain ⟨z,hz⟩ := d3 i hii
 refine ⟨-z,?_⟩
 rw [Rat.intCast_neg,← hz]
 grind
theorem den_le {a b : Int} (h : validQ a b = true) {D : Nat} (hD : 1 ≤ D) {z : Int} (hz : (D : Rat) * rv a b = z) : b ≤ (D : Int) := by
 have hb := den_ne h
 have v := validQ_bd h
 have e := rv_mul (a := a) hb
 have e2 : ((D : Int) : Rat) * (a : Rat) = (z : Rat) * (b : Rat) := by
  rw [← e,← hz,Rat.intCast_natCast]
  grind
 rw [← Rat.intCast_mul,← Rat.intCast_mul] at e2
 have e3 := Rat.intCast_inj.1 e2
 have hd : b ∣ (D : Int) := by
  refine int_cop (b := a) ⟨z,?_⟩ v.2.2.2.2
  rw [Int.mul_comm a,e3,Int.mul_comm]
 exact Int.le_of_dvd (by omega) hd
theorem rv_le_of {a b : Int} {M : Int} (hb : 0 < b) (h1 : -(M : Rat) ≤ rv a b) (h2 : rv a b ≤ (M : Rat)) : -(M * b) ≤ a ∧ a ≤ M * b := by
 have e := rv_mul (a := a) (show b ≠ 0 by omega)
 have hp : (0 : Rat) ≤ (b : Rat) := Rat.le_of_lt (Rat.intCast_pos.2 hb)
 have k1 := Rat.mul_le_mul_of_nonneg_right h1 hp
 have k2 := Rat.mul_le_mul_of_nonneg_right h2 hp
 rw [e] at k1 k2
 have k1' : ((-(M * b) : Int) : Rat) ≤ (a : Rat) := by
  rw [Rat.intCast_neg,Rat.intCast_mul]
  grind
 rw [← Rat.intCast_mul] at k2
 exact ⟨Rat.intCast_le_intCast.1 k1',Rat.intCast_le_intCast.1 k2⟩
def balA (N m : Nat) : List (List Int) := tab (rowK m) N
def balB (N : Nat) : List Int := tab (fun _ => (1 : Int)) N
def balC (l : List Int) (m : Nat) : List Q := tab (negV l) m
theorem balB_at (N i : Nat) (hi : i < N) : (balB N).getD i 0 = 1 := tab_getD _ _ _ _ hi
theorem balA_at (N m i j : Nat) (hi : i < N) (hj : j < m) : ((balA N m).getD i []).getD j 0 = if (j + 1).testBit i = true then 1 else 0 := by
 unfold balA
 rw [tab_getD _ _ _ _ hi]
 unfold rowK
 rw [tab_getD _ _ _ _ hj]
theorem ag_bal (N m i j : Nat) (hi : i < N) (hj : j < m) : ag (balA N m) i j = if (j + 1).testBit i = true then 1 else 0 := by
 unfold ag
 rw [balA_at N m i j hi hj]
 split <;> rfl
theorem ag_bal01 (N m i j : Nat) (hi : i < N) (hj : j < m) : 0 ≤ ag (balA N m) i j ∧ ag (balA N m) i j ≤ 1 := by
 rw [ag_bal N m i j hi hj]
 split
 ·exact ⟨by grind,by grind⟩
 ·exact ⟨by grind,by grind⟩
theorem bal_S01 (N m i j : Nat) (hi : i < N) (hj : j < m + N) : 0 ≤ stS (balA N m) (balB N) m i j ∧ stS (balA N m) (balB N) m i j ≤ 1 := by
 have hl : (balA N m).length = N := tab_length _ _
 have hs : sgB (balB N) i = 1 := if_neg (by rw [balB_at N i hi]; decide)
 by_cases h1 : j < m
 ·rw [stS_X _ _ _ i j (by omega) h1,hs]
  have := ag_bal01 N m i j hi h1
  have e : ((1 : Int) : Rat) = 1 := rfl
  rw [e]
  constructor <;> grind
 ·have e : j = m + (j - m) := by omega
  rw [e,stS_U _ _ _ i (j - m) (by omega) (by omega)]
  split
  ·exact ⟨by grind,by grind⟩
  ·exact ⟨by grind,by grind⟩
theorem sR_lt {g : Nat → Rat} : ∀ {m : Nat},1 ≤ m → (∀ k,k < m → g k < 1) → sR g m < (m : Rat)
 | 1,_,h => by
  simp only [sR]
  have := h 0 (by omega)
  have e : ((1 : Nat) : Rat) = 1 := rfl
  rw [e]
  grind
 | m + 2,_,h => by
  have ih := sR_lt (g := g) (m := m + 1) (by omega) fun k hk => h k (by omega)
  have h2 := h (m + 1) (by omega)
  show sR g (m + 1) + g (m + 1) < _
  rw [Rat.natCast_add] at ih ⊢
  have e : ((2 : Nat) : Rat) = 2 := rfl
  have e1 : ((1 : Nat) : Rat) = 1 := rfl
  rw [e1] at ih
  rw [e]
  grind
theorem bnd01 {m K : Nat} {W f : Nat → Rat} (hm : 1 ≤ m) (hK : m ≤ K) (hW : ∀ k,k < m → 0 ≤ W k ∧ W k ≤ 1) (hf : ∀ k,k < m → 0 ≤ f k ∧ f k < 1) : ((0 : Int) : Rat) - 1 < sR (fun k => W k * f k) m ∧ sR (fun k => W k * f k) m < ((0 : Int) : Rat) + (K : Int) := by
 have e0 : ((0 : Int) : Rat) = 0 := rfl
 have h0 : 0 ≤ sR (fun k => W k * f k) m := sR_nonneg fun k hk => Rat.mul_nonneg (hW k hk).1 (hf k hk).1
 have h1 : sR (fun k => W k * f k) m < (m : Rat) := sR_lt hm fun k hk => by
  have a := hW k hk
  have b := hf k hk
  have := Rat.mul_le_mul_of_nonneg_right a.2 b.1
  grind
 have h2 : (m : Rat) ≤ ((K : Int) : Rat) := by
  rw [Rat.intCast_natCast]
  exact Rat.natCast_le_natCast.2 hK
 rw [e0]
 constructor <;> grind
theorem balC_at (l : List Int) (m j : Nat) (hj : j < m) : (balC l m).getD j ⟨0,0⟩ = ⟨-(l.getD (j + 1) 0),1⟩ := tab_getD _ _ _ _ hj
theorem balC_val (l : List Int) (m j : Nat) (hj : j < m) : qg (balC l m) j = -((l.getD (j + 1) 0 : Int) : Rat) := by
 unfold qg
 rw [balC_at l m j hj]
 unfold qr
 rw [rv_neg,rv_int]
theorem pow5 (N : Nat) (h : N ≤ 5) : 5 ^ N ≤ 3125 := by
 have := Nat.pow_le_pow_right (n := 5) (by decide) h
 exact Nat.le_trans this (by decide)
theorem bit_ex : ∀ S : Fin 32,∀ N : Fin 6,1 ≤ S.val → S.val < 2 ^ N.val → ∃ i : Fin 5,i.val < N.val ∧ S.val.testBit i.val = true := by decide +kernel
theorem bal_w {N m : Nat} {x : Nat → Rat} (hN : N ≤ 5) (hm : m + 1 = 2 ^ N) (h0 : ∀ j,j < m → 0 ≤ x j) (hs : ∀ i,i < N → sR (fun j => ag (balA N m) i j * x j) m = 1) (j : Nat) (hj : j < m) : x j ≤ 1 := by
 have h32 := pow_le32 hN
 obtain ⟨i,hi,hb⟩ := bit_ex ⟨j + 1,by omega⟩ ⟨N,by omega⟩ (by show 1 ≤ j + 1; omega) (by show j + 1 < 2 ^ N; omega)
 have ht := sR_term (f := fun j => ag (balA N m) i.val j * x j) hj fun k hk => Rat.mul_nonneg (ag_bal01 N m i.val k hi hk).1 (h0 k hk)
 rw [hs i.val hi] at ht
 rw [ag_bal N m i.val j hi hj,if_pos hb] at ht
 grind
theorem abs_sum {c x : Nat → Rat} {M : Rat} (hM : 0 ≤ M) : ∀ {n : Nat},(∀ j,j < n → -M ≤ c j ∧ c j ≤ M) → (∀ j,j < n → 0 ≤ x j) → -(M * sR x n) ≤ sR (fun j => c j * x j) n ∧ sR (fun j => c j * x j) n ≤ M * sR x n
 | 0,_,_ => by
  simp only [sR]
  constructor <;> grind
 | n + 1,hc,hx => by
  obtain ⟨h1,h2⟩ := abs_sum hM (n := n) (fun j hj => hc j (by omega)) fun j hj => hx j (by omega)
  simp only [sR]
  have a := hc n (by omega)
  have b := hx n (by omega)
  have k1 := Rat.mul_le_mul_of_nonneg_right a.1 b
  have k2 := Rat.mul_le_mul_of_nonneg_right a.2 b
  constructor <;> grind
theorem pow_m {N m : Nat} (h1 : 1 ≤ N) (h2 : N ≤ 5) (hm : m + 1 = 2 ^ N) : 1 ≤ m ∧ m ≤ 31 := by
 have a := Nat.pow_le_pow_right (n := 2) (by decide) h1
 have b := pow_le32 h2
 omega
structure BalE (N m : Nat) (l : List Int) (vn vd : Int) (X Y : List Q) : Prop where
 xl : X.length = m
 yl : Y.length = N
 xv : ∀ j,j < m → vq (X.getD j ⟨0,0⟩) ∧ 0 ≤ qg X j
 xs : ∀ i,i < N → sR (fun j => ag (balA N m) i j * qg X j) m = 1
 yv : ∀ i,i < N → vq (Y.getD i ⟨0,0⟩)
 yd : ∀ j,j < m → sR (fun i => ag (balA N m) i j * qg Y i) N ≤ qg (balC l m) j
 v : validQ vn vd = true
 vx : rv vn vd = sR (fun j => qg (balC l m) j * qg X j) m
 vy : rv vn vd = sR (fun i => qg Y i) N
 vd_le : vd ≤ 3125
 vb : -(15500 : Rat) ≤ rv vn vd ∧ rv vn vd ≤ 15500
 yden : ∃ D : Nat,1 ≤ D ∧ D ≤ 3125 ∧ ∀ i,i < N → ∃ z : Int,(D : Rat) * qg Y i = z
 fe : feasB (balA N m) (balB N) (balC l m) X = true
 dx : dotQ (balC l m) X = (vn,vd,true)
theorem duS_val {A : List (List Int)} {Y c : List Q} {n : Nat} (hc : ∀ j,j < n → vq (c.getD j ⟨0,0⟩)) (h : duS A Y c n = true) (j : Nat) (hj : j < n) : sR (fun i => ag A i j * qg Y i) A.length ≤ qg c j := by
 have := (all_iff _ _).1 h j hj
 unfold duE at this
 rcases hd : dotQ (ratsOf (colA A j)) Y with ⟨s,t,o⟩
 rw [hd] at this
 simp only [Bool.and_eq_true,Bool.not_eq_true',decide_eq_false_iff_not] at this
 obtain ⟨h1,h2⟩ := this
 subst h1
 obtain ⟨_,d2,_,d4⟩ := colA_dot hd
 rw [cmpQ_neg (hc j hj) d2] at h2
 rw [← d4]
 exact Rat.not_lt.1 h2
theorem bal_end {N m : Nat} {l : List Int} (h1 : 1 ≤ N) (h2 : N ≤ 5) (hm : m + 1 = 2 ^ N) (hv : ∀ i,-500 ≤ l.getD i 0 ∧ l.getD i 0 ≤ 500) {vn vd p : Int} {X Y R : List Q} (hs : slpF (balA N m) (balB N) (balC l m) = (1,vn,vd,p,X,Y,R)) : BalE N m l vn vd X Y := by
 obtain ⟨q1,q2,⟨r,b,k,o⟩,q4,q5,q6,q7⟩ := slp_one hs
 obtain ⟨o1,o2,o3,o4,o5,o6⟩ := opt_val q7
 obtain ⟨p1,p2,p3,p4,p5,p6⟩ := lpOk_parts q1
 have lA : (balA N m).length = N := tab_length _ _
 have lB : (balB N).length = N := tab_length _ _
 have lC : (balC l m).length = m := tab_length _ _
 obtain ⟨hm1,hm31⟩ := pow_m h1 h2 hm
 obtain ⟨f1,f2,f3,f4⟩ := feas_val q4
 rw [lC] at f2 f3 o4
 rw [lB] at o3 o5 q5
 have hx0 : ∀ j,j < m → 0 ≤ qg X j := fun j hj => (f3 j hj).2
 have hxs : ∀ i,i < N → sR (fun j => ag (balA N m) i j * qg X j) m = 1 := fun i hi => by
  have := f4 i (by omega)
  rw [lC] at this
  rw [this]
  unfold ig
  rw [balB_at N i hi]
  rfl
 have hx1 : ∀ j,j < m → qg X j ≤ 1 := bal_w h2 hm hx0 hxs
 have hcb : ∀ j,j < m → -(500 : Rat) ≤ qg (balC l m) j ∧ qg (balC l m) j ≤ 500 := fun j hj => by
  rw [balC_val l m j hj]
  obtain ⟨a1,a2⟩ := hv (j + 1)
  have b1 : ((-500 : Int) : Rat) ≤ ((l.getD (j + 1) 0 : Int) : Rat) := Rat.intCast_le_intCast.2 a1
  have b2 : ((l.getD (j + 1) 0 : Int) : Rat) ≤ ((500 : Int) : Rat) := Rat.intCast_le_intCast.2 a2
  have c1 : ((-500 : Int) : Rat) = -500 := rfl
  have c2 : ((500 : Int) : Rat) = 500 := rfl
  rw [c1] at b1
  rw [c2] at b2
  constructor <;> grind
 have hsum : sR (fun j => qg X j) m ≤ 31 := by
  have a : sR (fun j => qg X j) m ≤ sR (fun _ => 1) m := sR_le fun j hj => hx1 j hj
  have b : ∀ n : Nat,sR (fun _ => 1) n = (n : Rat) := fun n => by
   induction n with
   | zero => rfl
   | succ n ih =>
    show sR (fun _ => 1) n + 1 = _
    rw [ih,Rat.natCast_add]
    rfl
  rw [b m] at a
  have c : (m : Rat) ≤ ((31 : Nat) : Rat) := Rat.natCast_le_natCast.2 hm31
  have d : ((31 : Nat) : Rat) = 31 := rfl
  rw [d] at c
  exact Rat.le_trans a c
 have hvb : -(15500 : Rat) ≤ rv vn vd ∧ rv vn vd ≤ 15500 := by
  rw [o4]
  obtain ⟨a1,a2⟩ := abs_sum (c := qg (balC l m)) (x := fun j => qg X j) (M := 500) (by grind) hcb hx0
  constructor <;> grind
 have hint : ∀ j,j < (balC l m).length → ∃ z : Int,qg (balC l m) j = z := fun j hj => by
  rw [lC] at hj
  exact ⟨-(l.getD (j + 1) 0),by rw [balC_val l m j hj,Rat.intCast_neg]⟩
 have hbb : ∀ k,k < N → bn b k < m + N := fun k hk => by
  have := o.t.bb k (by omega)
  omega
 have hvd : vd ≤ 3125 := by
  obtain ⟨D,d1,d2,d3⟩ := den_prim o.t (K := 5) (lo := fun _ => 0) (fun i hi f hf => by
   rw [lA] at hi hf ⊢
   rw [lC]
   exact bnd01 h1 h2 (fun k hk => bal_S01 N m i (bn b k) hi (hbb k hk)) hf)
  rw [lA] at d2 d3
  have hD : ∀ j,j < m → ∃ z : Int,(D : Rat) * qg X j = z := fun j hj => by
   rcases opt_X o j (by omega) with h | ⟨i,hi,h⟩
   ·exact ⟨0,by rw [h,Rat.mul_zero]; rfl⟩
   ·rw [h,lA]
    exact d3 i (by omega)
  obtain ⟨z,hz⟩ := sR_int (f := fun j => qg (balC l m) j * ((D : Rat) * qg X j)) (n := m) fun j hj => by
   obtain ⟨z1,e1⟩ := hint j (by omega)
   obtain ⟨z2,e2⟩ := hD j hj
   exact ⟨z1 * z2,by rw [e1,e2,Rat.intCast_mul]⟩
  have := den_le o1 d1 (z := z) (by
   rw [o4,← sR_mul,← hz]
   exact sR_ext fun j _ => by grind)
  have h3125 := pow5 N h2
  omega
 have hyden : ∃ D : Nat,1 ≤ D ∧ D ≤ 3125 ∧ ∀ i,i < N → ∃ z : Int,(D : Rat) * qg Y i = z := by
  obtain ⟨D,d1,d2,d3⟩ := den_dual o.g o.t o.c hint (K := 5) (lo := fun _ => 0) (fun i hi f hf => by
   rw [lA] at hi hf ⊢
   rw [lC]
   exact bnd01 h1 h2 (fun k hk => bal_S01 N m k (bn b i) hk (hbb i hi)) hf)
  rw [lA] at d2 d3
  have h3125 := pow5 N h2
  refine ⟨D,d1,by omega,fun i hi => ?_⟩
  obtain ⟨z,hz⟩ := d3 i hi
  obtain ⟨_,_,_,c4⟩ := costF_val o.g o.c
  have hy := (dlF_val (B := balB N) (fun j hj => (c4 j hj).1) i (by omega : i < (balA N m).length)).2
  have hsg : sgB (balB N) i = 1 := if_neg (by rw [balB_at N i hi]; decide)
  rw [hsg] at hy
  refine ⟨-z,?_⟩
  rw [o.y,hy,Rat.intCast_neg,← hz]
  have e : ((1 : Int) : Rat) = 1 := rfl
  rw [e]
  grind
 refine ⟨f2,q5,f3,hxs,o3,fun j hj => ?_,o1,o4,?_,hvd,hvb,hyden,q4,o6⟩
 ·have := duS_val (fun j hj => all_val p6 j hj) q6 j (by omega)
  rw [lA] at this
  exact this
 ·rw [o5]
  refine sR_ext fun i hi => ?_
  unfold ig
  rw [balB_at N i hi]
  have e : ((1 : Int) : Rat) = 1 := rfl
  rw [e,Rat.one_mul]
theorem add_small {a b c d : Int} (h1 : validQ a b = true) (h2 : validQ c d = true) (hn : -1000000000 ≤ a * d + c * b ∧ a * d + c * b ≤ 1000000000) (hd : b * d ≤ 1000000000) : ∃ x y,addQ a b c d = (x,y,true) ∧ validQ x y = true ∧ rv x y = rv a b + rv c d := by
 have v1 := validQ_bd h1
 have v2 := validQ_bd h2
 have hp : 1 ≤ b * d := by
  have := Int.mul_le_mul (show (1 : Int) ≤ b by omega) (show (1 : Int) ≤ d by omega) (by decide) (by omega)
  omega
 obtain ⟨x,y,g,r1,r2,r3,r4,r5⟩ := ratOf_ok (a * d + c * b) (b * d) hn ⟨hp,hd⟩
 have ha : addQ a b c d = (x,y,true) := by
  unfold addQ
  rw [if_pos ⟨h1,h2⟩,r1]
 exact ⟨x,y,ha,r5,(addQ_val ha).2.2⟩
theorem bal_slack {N m : Nat} {l : List Int} {vn vd : Int} {X Y : List Q} (e : BalE N m l vn vd X Y) (g : Int) (hg : -500 ≤ g ∧ g ≤ 500) : ∃ x y,addQ g 1 vn vd = (x,y,true) ∧ validQ x y = true ∧ rv x y = (g : Rat) + rv vn vd := by
 have v := validQ_bd e.v
 obtain ⟨b1,b2⟩ := rv_le_of (M := 15500) (by omega : 0 < vd) e.vb.1 e.vb.2
 have hvd := e.vd_le
 have m1 := Int.mul_le_mul_of_nonneg_right hg.1 (show (0 : Int) ≤ vd by omega)
 have m2 := Int.mul_le_mul_of_nonneg_right hg.2 (show (0 : Int) ≤ vd by omega)
 obtain ⟨x,y,h1,h2,h3⟩ := add_small (a := g) (b := 1) (validQ_int (by omega)) e.v (by omega) (by omega)
 exact ⟨x,y,h1,h2,by rw [h3,rv_int]⟩
def fcF (N m : Nat) (l : List Int) : Int × List Q × List Q := match slpF (balA N m) (balB N) (balC l m) with
 | (st,vn,vd,_,X,Y,_) => bif st != 1 then (3,[],[]) else
  bif decide ((addQ (l.getD m 0) 1 vn vd).1 < 0) then (2,[],X) else
   match addQ ((nqs Y N).getD (N - 1) ⟨0,0⟩).num ((nqs Y N).getD (N - 1) ⟨0,0⟩).den (addQ (l.getD m 0) 1 vn vd).1 (addQ (l.getD m 0) 1 vn vd).2.1 with
   | (a,b,o) => bif !o then (3,[],[]) else (1,(nqs Y N).set (N - 1) ⟨a,b⟩,[])
theorem nqs_length (Y : List Q) (n : Nat) : (nqs Y n).length = n := tab_length _ _
theorem spec_negs2 (Y : List Q) (hN : Y.length ≤ 1000) (hv : ∀ i,i < Y.length → vq (Y.getD i ⟨0,0⟩)) : iter (l_spec_FindCore_0 Y) ((0 : Int),[]) = some (nqs Y Y.length) := by
 have hroom : (room : Nat) = 1099511627776 := rfl
 have h1 := iter_tab (step := l_spec_FindCore_0 Y) [] (fun k => nq (Y.getD k ⟨0,0⟩)) Y.length (fun i hi acc hacc => by
   have hb := validQ_bd (hv i hi)
   unfold l_spec_FindCore_0 m_spec_l7Negated
   dsimp only
   rw [decide_eq_true (by omega),cond_true,grd_pos (by omega),Int.toNat_natCast,Option.bind_some]
   dsimp only
   rw [grd_pos (by rw [hacc]; simp only [List.length_nil,List.length_singleton]; omega),w64' (by omega) (by omega),w64' (by omega) (by omega),Int.zero_sub]
   rfl)
  (fun acc => by unfold l_spec_FindCore_0; dsimp only; rw [decide_eq_false (by omega),cond_false])
 rw [List.nil_append] at h1
 exact h1
theorem core_two (N m : Nat) (l : List Int) (hv : validB (N : Int) l = true) (hm : l.length = m + 1) : m_spec_FindCore (N : Int) l = some (fcF N m l) ∧ m_impl_FindCore (N : Int) l = some (fcF N m l) := by
 have hV := (validB_eq _ l).1 hv
 obtain ⟨N',hN',h1,h2,h3,h4⟩ := valid_nat hV
 have hNN : N' = N := by omega
 subst hNN
 have hm2 : m + 1 = 2 ^ N' := by omega
 obtain ⟨hm1,hm31⟩ := pow_m h1 h2 hm2
 have lA : (balA N' m).length = N' := tab_length _ _
 have lB : (balB N').length = N' := tab_length _ _
 have lC : (balC l m).length = m := tab_length _ _
 have hAr : ∀ i,i < (balA N' m).length → ((balA N' m).getD i []).length ≤ 1048576 := fun i hi => by
  rw [lA] at hi
  unfold balA
  rw [tab_getD _ _ _ _ hi,rowK_length]
  omega
 have hsm : smC (balC l m) := smC_int fun j hj => by
  rw [lC] at hj
  rw [balC_at l m j hj]
  have := val_all hV (j + 1)
  dsimp only
  omega
 have hgr := grand_val N' l hv
 have hg := val_all hV m
 have hgm : l.length - 1 = m := by omega
 rw [hgm] at hgr
 have esp := spec_slp (balA N' m) (balB N') (balC l m) (by omega) hAr (by omega) (by omega)
 have eim := impl_slp (balA N' m) (balB N') (balC l m) (by omega) hAr (by omega) (by omega) hsm
 have eb1 : m_spec_BalancedLP (N' : Int) l = some (true,balA N' m,balB N',balC l m) := spec_bal N' m l hv hm
 have eb2 : m_impl_BalancedLP (N' : Int) l = some (true,balA N' m,balB N',balC l m) := impl_bal N' m l hv hm
 unfold m_spec_FindCore m_impl_FindCore fcF
 rw [eb1,eb2,Option.bind_some,Option.bind_some]
 dsimp only
 rw [Bool.not_true,cond_false,cond_false,esp,eim,Option.bind_some,Option.bind_some]
 rcases hs : slpF (balA N' m) (balB N') (balC l m) with ⟨st,vn,vd,p,X,Y,R⟩
 dsimp only
 rw [hgr.1,hgr.2]
 unfold m_spec_l3Int m_impl_whole m_impl_minus
 rw [Option.bind_some,Option.bind_some,Option.bind_some,Option.bind_some]
 dsimp only
 rw [spec_add,Option.bind_some,Option.bind_some]
 cases hst : (st != 1) with
 | true => exact ⟨rfl,rfl⟩
 | false =>
  have hst : st = 1 := by simpa using hst
  subst hst
  have e := bal_end h1 h2 hm2 (val_all hV) hs
  have vb := validQ_bd e.v
  obtain ⟨x,y,a1,a2,a3⟩ := bal_slack e (l.getD m 0) hg
  have hyl := e.yl
  have hneg2 := spec_negs2 Y (by omega) (fun i hi => e.yv i (by omega))
  have hneg3 := impl_negs Y (by omega) (fun i hi => e.yv i (by omega))
  rw [hyl] at hneg2 hneg3
  have el : IntKind.i64.wrap ((N' : Int) - 1) = ((N' - 1 : Nat) : Int) := by
   rw [w64' (by omega) (by omega)]
   omega
  have hcmp : decide (cmpQ (-vn) vd (l.getD m 0) 1 > 0) = decide (x < 0) := by
   refine decide_eq_decide.2 ?_
   have hvn : validQ (-vn) vd = true := by rw [validQ_neg]; exact e.v
   have hgv : validQ (l.getD m 0) 1 = true := validQ_int (by omega)
   have hc := cmpQ_pos hvn hgv
   rw [rv_neg,rv_int] at hc
   have hsx := (rv_sign a2).1
   rw [← hsx,a3]
   refine hc.trans ?_
   constructor <;> intro h <;> grind
  rw [a1]
  dsimp only
  rw [cond_false,cond_false,cond_false]
  constructor
  ·rw [Bool.not_true,cond_false]
   cases hx : decide (x < 0) with
   | true => rfl
   | false =>
    rw [cond_false,cond_false,hneg2,Option.bind_some]
    rw [el,grd_pos (by rw [nqs_length]; omega),Int.toNat_natCast,spec_add,Option.bind_some]
    rcases addQ ((nqs Y N').getD (N' - 1) ⟨0,0⟩).num ((nqs Y N').getD (N' - 1) ⟨0,0⟩).den x y with ⟨a,b,o⟩
    dsimp only
    cases o with
    | false => rfl
    | true =>
     rw [Bool.not_true,cond_false,cond_false,grd_pos (by rw [nqs_length]; omega)]
  ·rw [w64' (by omega) (by omega),Int.zero_sub,impl_cmp,Option.bind_some,hcmp]
   cases hx : decide (x < 0) with
   | true => rfl
   | false =>
    rw [cond_false,cond_false,hneg3,Option.bind_some,impl_add,a1,Option.bind_some]
    dsimp only
    rw [nqs_length,el,grd_pos (by omega),Int.toNat_natCast,impl_add,Option.bind_some]
    rcases addQ ((nqs Y N').getD (N' - 1) ⟨0,0⟩).num ((nqs Y N').getD (N' - 1) ⟨0,0⟩).den x y with ⟨a,b,o⟩
    dsimp only
    cases o with
    | false => rfl
    | true =>
     rw [Bool.not_true,cond_false,cond_false,cond_false,grd_pos (by omega)]
theorem core0 (n : Int) (l : List Int) (hl : l.length ≤ 1048576) (hv : validB n l = false) : m_spec_FindCore n l = some (0,[],[]) ∧ m_impl_FindCore n l = some (0,[],[]) := by
 unfold m_spec_FindCore m_impl_FindCore m_spec_BalancedLP m_impl_BalancedLP
 rw [spec_valid n l hl,impl_valid n l hl,hv]
 exact ⟨rfl,rfl⟩
noncomputable def incF (n : Int) (l : List Int) (x : List Q) : Bool := payB n l x && ((exs l x 1 (l.length - 2)).1 && !(List.range (exs l x 1 (l.length - 2)).2.length).any (posP (exs l x 1 (l.length - 2)).2))
theorem core_sp (n : Int) (l : List Int) (x : List Q) (hl : l.length ≤ 1048576) (hx : x.length ≤ 1048576) : m_spec_InCore n l x = some (incF n l x) := by
 unfold m_spec_InCore incF
 cases hp : payB n l x with
 | false =>
  rw [spec_all0 n l x hp hl hx,Option.bind_some]
  dsimp only
  rw [spec_pos [] (by simp)]
  rfl
 | true =>
  have hle := exs_length l x 1 (l.length - 2)
  have hp' := hp
  simp only [payB,Bool.and_eq_true] at hp'
  obtain ⟨N,hN,h1,h2,h3,h4⟩ := valid_nat ((validB_eq n l).1 hp'.1)
  rw [spec_all n l x hp hl hx,Option.bind_some]
  revert hle
  rcases exs l x 1 (l.length - 2) with ⟨o,e⟩
  intro hle
  dsimp only at hle ⊢
  rw [spec_pos e (by omega)]
  cases o <;> cases (List.range e.length).any (posP e) <;> rfl
def balF (n : Int) (w : List Q) : Bool := decide (1 ≤ n ∧ n ≤ 5) && (decide (w.length = 2 ^ n.toNat - 1) && (nnB w && (List.range n.toNat).all fun k => decide (dotQ (ratsOf (rowK w.length k)) w = (1,1,true))))
def bt (s : Nat) (x : List Q) (k : Nat) : Rat := if s.testBit k = true then qg x k else 0
def pS (x : List Q) (s : Nat) : Rat := sR (bt s x) 5
def lS (x : List Q) : List Int → Rat
 | [] => 0
 | m :: r => qg x m.toNat + lS x r
theorem lS_app (x : List Q) (a b : List Int) : lS x (a ++ b) = lS x a + lS x b := by
 induction a with
 | nil => simp only [List.nil_append,lS]; grind
 | cons m r ih => simp only [List.cons_append,lS]; rw [ih]; grind
theorem lS_fil (x : List Q) (s : Nat) : ∀ n,lS x (fil s.testBit (fun k => (k : Int)) n) = sR (bt s x) n
 | 0 => rfl
 | n + 1 => by
  rw [fil_succ]
  simp only [sR]
  rw [← lS_fil x s n]
  unfold bt
  by_cases h : s.testBit n = true
  ·rw [if_pos h,if_pos h,lS_app]
   simp only [lS,Int.toNat_natCast]
   grind
  ·rw [if_neg h,if_neg h]
   grind
theorem share_val (x : List Q) : ∀ (ms : List Int) (a b u w : Int),validQ a b = true → shareFrom x ms a b = .inl (u,w) → validQ u w = true ∧ rv u w = rv a b + lS x ms
 | [],a,b,u,w,hv,h => by
  simp only [shareFrom,Sum.inl.injEq,Prod.mk.injEq] at h
  obtain ⟨rfl,rfl⟩ := h
  refine ⟨hv,?_⟩
  simp only [lS]
  grind
 | m :: r,a,b,u,w,hv,h => by
  unfold shareFrom at h
  split at h
  ·cases h
  ·rcases ha : addQ a b (x.getD m.toNat ⟨0,0⟩).num (x.getD m.toNat ⟨0,0⟩).den with ⟨e,f,o⟩
   rw [ha] at h
   cases o with
   | false => simp at h
   | true =>
    obtain ⟨_,v5,v6⟩ := addQ_val ha
    obtain ⟨w1,w2⟩ := share_val x r e f u w v5 (by simpa using h)
    refine ⟨w1,?_⟩
    rw [w2,v6]
    simp only [lS]
    have : rv (x.getD m.toNat ⟨0,0⟩).num (x.getD m.toNat ⟨0,0⟩).den = qg x m.toNat := rfl
    rw [this]
    grind
theorem shareF_val {x : List Q} {s : Nat} {u w : Int} (h : shareF x s = (u,w,true)) : validQ u w = true ∧ rv u w = pS x s := by
 unfold shareF at h
 rcases hs : shareFrom x (mems s) 0 1 with ⟨a,b⟩ | r
 ·rw [hs] at h
  simp only [Prod.mk.injEq,and_true] at h
  obtain ⟨rfl,rfl⟩ := h
  obtain ⟨h1,h2⟩ := share_val x (mems s) 0 1 a b valid01 hs
  refine ⟨h1,?_⟩
  rw [h2,rv01]
  unfold mems pS
  rw [lS_fil]
  grind
 ·rw [hs] at h
  have := shareFrom_inr x (mems s) 0 1 r hs
  subst this
  simp at h
theorem excess_val {l : List Int} {x : List Q} {s : Nat} {a b : Int} (h : excessF l x s = (a,b,true)) : validQ a b = true ∧ rv a b = ((l.getD s 0 : Int) : Rat) - pS x s := by
 unfold excessF at h
 rcases hs : shareF x s with ⟨u,w,o⟩
 rw [hs] at h
 dsimp only at h
 cases o with
 | false =>
  have := shareF_false (x := x) (s := s) (by rw [hs])
  rw [hs] at this
  simp only [Prod.mk.injEq] at this
  obtain ⟨rfl,rfl,_⟩ := this
  rw [subQ_00] at h
  simp at h
 | true =>
  obtain ⟨h1,h2⟩ := shareF_val hs
  obtain ⟨_,h4,h5⟩ := subQ_val h
  refine ⟨h4,?_⟩
  rw [h5,rv_int,h2]
theorem inc_val {N : Nat} {l : List Int} {x : List Q} (h : incF (N : Int) l x = true) : validB (N : Int) l = true ∧ x.length = N ∧ pS x (l.length - 1) = ((l.getD (l.length - 1) 0 : Int) : Rat) ∧ ∀ s,1 ≤ s → s < l.length - 1 → ((l.getD s 0 : Int) : Rat) ≤ pS x s := by
 unfold incF at h
 simp only [Bool.and_eq_true] at h
 obtain ⟨h1,h2,h3⟩ := h
 unfold payB at h1
 simp only [Bool.and_eq_true,beq_iff_eq,decide_eq_true_eq] at h1
 obtain ⟨p1,p2,p3,p4⟩ := h1
 refine ⟨p1,by omega,?_,fun s hs1 hs2 => ?_⟩
 ·have := (shareF_val p4).2
  rw [rv_int] at this
  exact this.symm
 ·unfold exs at h2 h3
  split at h2
  ·rename_i hall
   rw [if_pos hall] at h3
   have ok := (all_iff _ _).1 hall (s - 1) (by omega)
   rw [show 1 + (s - 1) = s by omega] at ok
   dsimp only at h3
   rw [tab_length] at h3
   have hnp : posP (tab (fun i => exQ l x (1 + i)) (l.length - 2)) (s - 1) = false := by
    cases hc : posP (tab (fun i => exQ l x (1 + i)) (l.length - 2)) (s - 1) with
    | false => rfl
    | true =>
     have : (List.range (l.length - 2)).any (posP (tab (fun i => exQ l x (1 + i)) (l.length - 2))) = true := List.any_eq_true.2 ⟨s - 1,List.mem_range.2 (by omega),hc⟩
     rw [this] at h3
     cases h3
   unfold posP at hnp
   rw [tab_getD _ _ _ _ (by omega),show 1 + (s - 1) = s by omega] at hnp
   unfold exOk at ok
   unfold exQ at hnp
   rcases he : excessF l x s with ⟨a,b,o⟩
   rw [he] at ok hnp
   dsimp only at ok hnp
   subst ok
   obtain ⟨v1,v2⟩ := excess_val he
   have hn : ¬ 0 < a := by
    have := of_decide_eq_false hnp
    omega
   have := (rv_sign v1).2
   have h0 : ¬ 0 < rv a b := fun h => hn (this.1 h)
   have h0 := Rat.not_lt.1 h0
   rw [v2] at h0
   grind
  ·simp at h2
theorem bal_val {N : Nat} {w : List Q} (h : balF (N : Int) w = true) : w.length = 2 ^ N - 1 ∧ (∀ j,j < w.length → vq (w.getD j ⟨0,0⟩) ∧ 0 ≤ qg w j) ∧ ∀ i,i < N → sR (fun j => ag (balA N w.length) i j * qg w j) w.length = 1 := by
 unfold balF at h
 simp only [Bool.and_eq_true,decide_eq_true_eq,Int.toNat_natCast] at h
 obtain ⟨h1,h2,h3,h4⟩ := h
 refine ⟨h2,fun j hj => ?_,fun i hi => ?_⟩
 ·have := nn_val h3 j hj
  exact ⟨this.1,this.2.2⟩
 ·have := of_decide_eq_true ((all_iff _ _).1 h4 i hi)
  obtain ⟨d1,_,_,d4⟩ := dotQ_val this
  rw [rv_int,ratsOf_length,rowK_length] at d4
  refine Eq.trans ?_ d4.symm
  refine sR_ext fun j hj => ?_
  rw [qg_ratsOf _ _ (by rw [rowK_length]; exact hj)]
  unfold ag balA
  rw [tab_getD _ _ _ _ hi]
theorem bt_high {x : List Q} {N s k : Nat} (hs : s < 2 ^ N) (hk : N ≤ k) : bt s x k = 0 := by
 unfold bt
 have : s.testBit k = false := Nat.testBit_lt_two_pow (Nat.lt_of_lt_of_le hs (Nat.pow_le_pow_right (by decide) hk))
 rw [this]
 simp
theorem sR_cut {f : Nat → Rat} {N : Nat} : ∀ {n : Nat},N ≤ n → (∀ i,N ≤ i → i < n → f i = 0) → sR f n = sR f N
 | 0,h,_ => by
  have : N = 0 := by omega
  rw [this]
 | n + 1,h,hz => by
  by_cases e : N = n + 1
  ·rw [e]
  ·simp only [sR]
   rw [hz n (by omega) (by omega),sR_cut (n := n) (by omega) fun i h1 h2 => hz i h1 (by omega)]
   grind
theorem pS_N {x : List Q} {N s : Nat} (hN : N ≤ 5) (hs : s < 2 ^ N) : pS x s = sR (bt s x) N := sR_cut hN fun i h _ => bt_high hs h
theorem pS_ag {x : List Q} {N m j : Nat} (hN : N ≤ 5) (hm : m + 1 = 2 ^ N) (hj : j < m) : pS x (j + 1) = sR (fun i => ag (balA N m) i j * qg x i) N := by
 rw [pS_N hN (by omega)]
 refine sR_ext fun i hi => ?_
 unfold bt
 rw [ag_bal N m i j hi hj]
 by_cases h : (j + 1).testBit i = true
 ·rw [if_pos h,if_pos h]
  grind
 ·rw [if_neg h,if_neg h]
  grind
theorem full_bit {N k : Nat} (hk : k < N) : (2 ^ N - 1).testBit k = true := by
 rw [Nat.testBit_two_pow_sub_one]
 exact decide_eq_true hk
theorem pS_full {x : List Q} {N : Nat} (hN : N ≤ 5) : pS x (2 ^ N - 1) = sR (qg x) N := by
 have hp : 0 < 2 ^ N := Nat.pow_pos (by decide)
 rw [pS_N hN (by omega)]
 refine sR_ext fun i hi => ?_
 unfold bt
 rw [full_bit hi,if_pos rfl]
theorem core_weak {N : Nat} {l : List Int} {x w : List Q} (hx : incF (N : Int) l x = true) (hw : balF (N : Int) w = true) : sR (fun j => ((l.getD (j + 1) 0 : Int) : Rat) * qg w j) w.length ≤ ((l.getD (l.length - 1) 0 : Int) : Rat) := by
 obtain ⟨x1,x2,x3,x4⟩ := inc_val hx
 obtain ⟨w1,w2,w3⟩ := bal_val hw
 have hV := (validB_eq _ l).1 x1
 obtain ⟨N',hN',h1,h2,h3,h4⟩ := valid_nat hV
 have hNN : N' = N := by omega
 subst hNN
 have hpos : 0 < 2 ^ N' := Nat.pow_pos (by decide)
 have hm : w.length + 1 = 2 ^ N' := by omega
 have hle : sR (fun j => ((l.getD (j + 1) 0 : Int) : Rat) * qg w j) w.length ≤ sR (fun j => pS x (j + 1) * qg w j) w.length := sR_le fun j hj => by
  refine Rat.mul_le_mul_of_nonneg_right ?_ (w2 j hj).2
  by_cases e : j + 1 = l.length - 1
  ·rw [e,x3]
   exact Rat.le_refl
  ·exact x4 (j + 1) (by omega) (by omega)
 have heq : sR (fun j => pS x (j + 1) * qg w j) w.length = sR (fun i => 1 * qg x i) N' := by
  have e1 : sR (fun j => pS x (j + 1) * qg w j) w.length = sR (fun j => sR (fun i => qg x i * (ag (balA N' w.length) i j * qg w j)) N') w.length := sR_ext fun j hj => by
   rw [pS_ag h2 hm hj,← sR_mulr]
   exact sR_ext fun i _ => by grind
  rw [e1,sR_comm]
  refine sR_ext fun i hi => ?_
  rw [sR_mul,w3 i hi]
  grind
 rw [heq] at hle
 have hfin : sR (fun i => 1 * qg x i) N' = ((l.getD (l.length - 1) 0 : Int) : Rat) := by
  rw [← x3,h3,pS_full h2]
  exact sR_ext fun i _ => Rat.one_mul _
 rw [hfin] at hle
 exact hle
theorem bal_ok {N m : Nat} {l : List Int} {vn vd : Int} {X Y : List Q} (h1 : 1 ≤ N) (h2 : N ≤ 5) (hm : m + 1 = 2 ^ N) (e : BalE N m l vn vd X Y) : balF (N : Int) X = true := by
 have hf := e.fe
 unfold feasB at hf
 simp only [Bool.and_eq_true] at hf
 obtain ⟨_,_,f3,f4⟩ := hf
 have lA : (balA N m).length = N := tab_length _ _
 have hx := e.xl
 unfold balF
 rw [decide_eq_true (show 1 ≤ (N : Int) ∧ (N : Int) ≤ 5 by omega),Int.toNat_natCast,decide_eq_true (show X.length = 2 ^ N - 1 by omega),f3,Bool.true_and,Bool.true_and,Bool.true_and]
 refine (all_iff _ _).2 fun k hk => ?_
 unfold gvB at f4
 rw [lA] at f4
 have := (all_iff _ _).1 f4 k hk
 unfold balA at this
 rw [tab_getD _ _ _ _ hk,balB_at N k hk] at this
 rw [hx]
 exact this
theorem fc_two {N m : Nat} {l : List Int} {x : List Q} (hv : validB (N : Int) l = true) (hm : l.length = m + 1) (hc : (fcF N m l).1 = 2) : incF (N : Int) l x = false := by
 have hV := (validB_eq _ l).1 hv
 obtain ⟨N',hN',h1,h2,h3,h4⟩ := valid_nat hV
 have hNN : N' = N := by omega
 subst hNN
 have hm2 : m + 1 = 2 ^ N' := by omega
 have hg := val_all hV m
 cases hi : incF (N' : Int) l x with
 | false => rfl
 | true =>
  exfalso
  unfold fcF at hc
  rcases hs : slpF (balA N' m) (balB N') (balC l m) with ⟨st,vn,vd,p,X,Y,R⟩
  rw [hs] at hc
  dsimp only at hc
  cases hst : (st != 1) with
  | true =>
   rw [hst,cond_true] at hc
   exact absurd hc (by decide)
  | false =>
   rw [hst,cond_false] at hc
   have hst : st = 1 := by simpa using hst
   subst hst
   have e := bal_end h1 h2 hm2 (val_all hV) hs
   obtain ⟨y,z,a1,a2,a3⟩ := bal_slack e (l.getD m 0) hg
   rw [a1] at hc
   dsimp only at hc
   by_cases hy : y < 0
   ·have w := core_weak hi (bal_ok h1 h2 hm2 e)
    have hsx := (rv_sign a2).1.2 hy
    rw [a3,e.vx] at hsx
    rw [e.xl,show l.length - 1 = m by omega] at w
    have hn : sR (fun j => qg (balC l m) j * qg X j) m = -sR (fun j => ((l.getD (j + 1) 0 : Int) : Rat) * qg X j) m := by
     have e1 : sR (fun j => qg (balC l m) j * qg X j) m = sR (fun j => (-1) * (((l.getD (j + 1) 0 : Int) : Rat) * qg X j)) m := sR_ext fun j hj => by
      rw [balC_val l m j hj]
      grind
     rw [e1,sR_mul]
     grind
    rw [hn] at hsx
    grind
   ·rw [decide_eq_false hy,cond_false] at hc
    revert hc
    rcases addQ ((nqs Y N').getD (N' - 1) ⟨0,0⟩).num ((nqs Y N').getD (N' - 1) ⟨0,0⟩).den y z with ⟨a,b,o⟩
    dsimp only
    cases o
    ·rw [Bool.not_false,cond_true]
     intro hc
     exact absurd (show (3 : Int) = 2 from hc) (by decide)
    ·rw [Bool.not_true,cond_false]
     intro hc
     exact absurd (show (1 : Int) = 2 from hc) (by decide)
theorem fc_codes (N m : Nat) (l : List Int) : (fcF N m l).1 = 1 ∨ (fcF N m l).1 = 2 ∨ (fcF N m l).1 = 3 := by
 unfold fcF
 rcases slpF (balA N m) (balB N) (balC l m) with ⟨st,vn,vd,p,X,Y,R⟩
 dsimp only
 cases (st != 1) with
 | true => exact .inr (.inr rfl)
 | false =>
  cases decide ((addQ (l.getD m 0) 1 vn vd).1 < 0) with
  | true => exact .inr (.inl rfl)
  | false =>
   rw [cond_false,cond_false]
   rcases addQ ((nqs Y N).getD (N - 1) ⟨0,0⟩).num ((nqs Y N).getD (N - 1) ⟨0,0⟩).den (addQ (l.getD m 0) 1 vn vd).1 (addQ (l.getD m 0) 1 vn vd).2.1 with ⟨a,b,o⟩
   dsimp only
   cases o
   ·exact .inr (.inr rfl)
   ·exact .inl rfl
theorem pay_ok (c : List UInt8) (i h n : Int) (l : List Int) (hc : c.length ≤ 1048576) (hi : 0 ≤ i) (hn : -1 ≤ n ∧ n ≤ 6) (hl : l.length ≤ 1048576) : ∃ x i' h',m_spec_l11Payoff_io1 c i h n l = some (x,i',h') ∧ x.length ≤ 5 ∧ 0 ≤ i' := by
 have hg : ∃ v,m_spec_GrandValue n l = some v := by
  cases hv : validB n l with
  | true =>
   obtain ⟨N,rfl,_⟩ := valid_nat ((validB_eq n l).1 hv)
   exact ⟨_,(grand_val N l hv).1⟩
  | false =>
   refine ⟨0,?_⟩
   unfold m_spec_GrandValue
   rw [spec_valid n l hl,hv]
   rfl
 obtain ⟨v,hv⟩ := hg
 have hroom : (room : Nat) = 1099511627776 := rfl
 obtain ⟨a,h1,h2⟩ := iter_dec (step := l_spec_l11Payoff_io1_0 c n) (fun k s => s.2.1 + k = 5 ∧ 0 ≤ s.2.1 ∧ (s.2.2.1.length : Int) = s.2.1 ∧ 0 ≤ s.2.2.2.1) (fun a => a.1.length ≤ 5 ∧ 0 ≤ a.2.1) (fun k ⟨v2,v3,v4,v5,v6⟩ ⟨h1,h2,h3,h4⟩ => by
  simp only at h1 h2 h3 h4
  unfold l_spec_l11Payoff_io1_0
  dsimp only
  by_cases e1 : v3 < n
  ·by_cases e2 : v3 < 5
   ·obtain ⟨x,i',h',b1,_,b3⟩ := pick_ok c v5 v6 [(0 : Int),(1 : Int),(2 : Int),(3 : Int),(-1 : Int),(5 : Int)] hc h4 (by decide) (by decide)
    rw [decide_eq_true e1,decide_eq_true e2,cond_true,cond_true,b1,Option.bind_some]
    unfold m_spec_l3Int
    dsimp only
    cases (v3 == IntKind.i64.wrap (n - (1 : Int))) with
    | true =>
     rw [cond_true,Option.bind_some]
     dsimp only
     rw [grd_pos (by simp only [List.length_singleton]; omega)]
     refine .inr ⟨_,k - 1,by omega,rfl,?_,?_,?_,?_⟩ <;> dsimp only
     ·rw [w64' (by omega) (by omega)]
      omega
     ·rw [w64' (by omega) (by omega)]
      omega
     ·rw [w64' (by omega) (by omega),List.length_append,List.length_singleton]
      omega
     ·exact b3
    | false =>
     rw [cond_false,Option.bind_some]
     dsimp only
     rw [grd_pos (by simp only [List.length_singleton]; omega)]
     refine .inr ⟨_,k - 1,by omega,rfl,?_,?_,?_,?_⟩ <;> dsimp only
     ·rw [w64' (by omega) (by omega)]
      omega
     ·rw [w64' (by omega) (by omega)]
      omega
     ·rw [w64' (by omega) (by omega),List.length_append,List.length_singleton]
      omega
     ·exact b3
   ·rw [decide_eq_true e1,decide_eq_false e2,cond_true,cond_false]
    exact .inl ⟨_,rfl,by dsimp only; omega,h4⟩
  ·rw [decide_eq_false e1,cond_false]
   exact .inl ⟨_,rfl,by dsimp only; omega,h4⟩) 5 (v,0,[],i,h) ⟨rfl,Int.le_refl 0,rfl,hi⟩
 unfold m_spec_l11Payoff_io1
 rw [hv,Option.bind_some,h1]
 exact ⟨_,_,_,rfl,h2⟩
theorem l3draw_ok (c : List UInt8) (i h : Int) (hc : c.length ≤ 1048576) (hi : 0 ≤ i) : ∃ a b i' h',m_spec_l3Draw_io1 c i h = some (a,b,i',h') ∧ 0 ≤ i' := by
 unfold m_spec_l3Draw_io1
 obtain ⟨x1,i1,h1,e1,_,p1⟩ := pick_ok c i h [(0 : Int),(1 : Int),(2 : Int),(-1 : Int),(3 : Int),(-7 : Int),(12 : Int),(999999999 : Int),(-1000000000 : Int)] hc hi (by decide) (by decide)
 rw [e1,Option.bind_some]
 dsimp only
 obtain ⟨x2,i2,h2,e2,_,p2⟩ := pick_ok c i1 h1 [(1 : Int),(1 : Int),(2 : Int),(3 : Int),(7 : Int),(1000000000 : Int),(999999937 : Int)] hc p1 (by decide) (by decide)
 rw [e2,Option.bind_some]
 dsimp only
 rw [spec_ratOf,Option.bind_some]
 rcases ratOf x1 x2 with ⟨a,b,o⟩
 dsimp only
 obtain ⟨x3,i3,h3,e3,p3⟩ := once_ok c i2 h2 12 hc p2 (by decide)
 rw [e3,Option.bind_some]
 dsimp only
 cases x3 with
 | false => exact ⟨_,_,_,_,rfl,p3⟩
 | true =>
  rw [cond_true]
  obtain ⟨x4,i4,h4,e4,_,p4⟩ := pick_ok c i3 h3 [(0 : Int),(2 : Int),(1000000001 : Int)] hc p3 (by decide) (by decide)
  rw [e4,Option.bind_some]
  dsimp only
  obtain ⟨x5,i5,h5,e5,_,p5⟩ := pick_ok c i4 h4 [(0 : Int),(2 : Int),(-1 : Int),(1 : Int)] hc p4 (by decide) (by decide)
  rw [e5,Option.bind_some]
  exact ⟨_,_,_,_,rfl,p5⟩
theorem shap_tot (n : Int) (l : List Int) (hl : l.length ≤ 1048576) : ∃ b r,r.length ≤ 1048576 ∧ m_spec_ShapleyValue n l = some (b,r) := by
 cases hv : validB n l with
 | false => exact ⟨false,[],by simp,spec_shap0 n l hl hv⟩
 | true =>
  obtain ⟨N,rfl,h1,h2,h3,h4⟩ := valid_nat ((validB_eq n l).1 hv)
  exact ⟨true,tab (shQ l N) N,by rw [tab_length]; omega,spec_shap N l hl hv⟩
theorem args_tail (c : List UInt8) (i h n : Int) (l : List Int) (hc : c.length ≤ 1048576) (hi : 0 ≤ i) (hn : -1 ≤ n ∧ n ≤ 6) (hl : l.length ≤ 17) :
  ∃ x : List Q,x.length ≤ 1048576 ∧ ((m_spec_l11Payoff_io1 c i h n l).bind fun (v42,v43,v44) =>
bif decide ((v42.length : Int) > (0 : Int)) then
((m_spec_l1Once_io1 c v43 v44 (10 : Int)).bind fun (v45,v46,v47) =>
bif v45 then
((m_spec_l3Draw_io1 c v46 v47).bind fun (v48,v49,v50,v51) =>
grd ((0 : Int) ≤ (0 : Int) ∧ (0 : Int) < (v42.length : Int)) <|
(m_spec_l1Once_io1 c v50 v51 (3 : Int)).bind fun (v52,_,_) =>
bif v52 then
((m_spec_ShapleyValue n l).bind fun (_,v56) =>
some (n,l,v56))
else
(some (n,l,v42.set ((0 : Int).toNat) ⟨v48,v49⟩)))
else
((m_spec_l1Once_io1 c v46 v47 (3 : Int)).bind fun (v57,_,_) =>
bif v57 then
((m_spec_ShapleyValue n l).bind fun (_,v61) =>
some (n,l,v61))
else
(some (n,l,v42))))
else
((m_spec_l1Once_io1 c v43 v44 (3 : Int)).bind fun (v62,_,_) =>
bif v62 then
((m_spec_ShapleyValue n l).bind fun (_,v66) =>
some (n,l,v66))
else
(some (n,l,v42)))) = some (n,l,x) := by
 obtain ⟨x,i1,h1,e1,p1,q1⟩ := pay_ok c i h n l hc hi hn (by omega)
 obtain ⟨b,r,r1,r2⟩ := shap_tot n l (by omega)
 rw [e1,r2,Option.bind_some]
 dsimp only
 simp only [Option.bind_some]
 cases hx : decide ((x.length : Int) > 0) with
 | false =>
  obtain ⟨o,i2,h2,e2,q2⟩ := once_ok c i1 h1 3 hc q1 (by decide)
  rw [cond_false,e2,Option.bind_some]
  cases o with
  | true => exact ⟨r,r1,rfl⟩
  | false => exact ⟨x,by omega,rfl⟩
 | true =>
  have hx := of_decide_eq_true hx
  obtain ⟨o,i2,h2,e2,q2⟩ := once_ok c i1 h1 10 hc q1 (by decide)
  rw [cond_true,e2,Option.bind_some]
  dsimp only
  cases o with
  | true =>
   obtain ⟨a,b,i3,h3,e3,q3⟩ := l3draw_ok c i2 h2 hc q2
   rw [cond_true,e3,Option.bind_some]
   dsimp only
   obtain ⟨o4,i4,h4,e4,q4⟩ := once_ok c i3 h3 3 hc q3 (by decide)
   rw [grd_pos ⟨Int.le_refl 0,hx⟩,e4,Option.bind_some]
   cases o4 with
   | true => exact ⟨r,r1,rfl⟩
   | false => exact ⟨x.set (0 : Int).toNat ⟨a,b⟩,by rw [List.length_set]; omega,rfl⟩
  | false =>
   obtain ⟨o4,i4,h4,e4,q4⟩ := once_ok c i2 h2 3 hc q2 (by decide)
   rw [cond_false,e4,Option.bind_some]
   cases o4 with
   | true => exact ⟨r,r1,rfl⟩
   | false => exact ⟨x,by omega,rfl⟩
theorem args_ok (c : List UInt8) (hc : c.length ≤ 1048576) : ∃ n l x,m_spec_l11Args c = some (n,l,x) ∧ l.length ≤ 17 ∧ x.length ≤ 1048576 ∧ (-1 ≤ n ∧ n ≤ 6) := by
 unfold m_spec_l11Args
 obtain ⟨h,e⟩ := new2 0 [] c
 rw [e,Option.bind_some]
 dsimp only
 obtain ⟨n,l,i1,h1,e1,p1,q1,r1⟩ := draw8_ok c 0 h hc (Int.le_refl 0)
 rw [e1,Option.bind_some]
 dsimp only
 obtain ⟨o,i2,h2,e2,r2⟩ := once_ok c i1 h1 16 hc r1 (by decide)
 rw [e2,Option.bind_some]
 dsimp only
 cases o with
 | false =>
  obtain ⟨x,x1,x2⟩ := args_tail c i2 h2 n l hc r2 (by omega) (by omega)
  refine ⟨n,l,x,?_,by omega,x1,by omega⟩
  rw [cond_false]
  exact x2
 | true =>
  obtain ⟨n,l,i3,h3,e3,p3,q3,r3⟩ := bent_ok c i2 h2 hc r2
  rw [cond_true,e3,Option.bind_some]
  dsimp only
  obtain ⟨x,x1,x2⟩ := args_tail c i3 h3 n l hc r3 (by omega) (by omega)
  exact ⟨n,l,x,x2,by omega,x1,by omega⟩
theorem law_FnCoreMembers (c : List UInt8) (_ : c.length ≤ maxLen) : m_laws_FnCoreMembers c = some true := by
 unfold m_laws_FnCoreMembers m_laws_big m_spec_DrawInCore
 by_cases hb : (c.length : Int) > 1048576
 ·rw [decide_eq_true hb]; rfl
 obtain ⟨n,l,x,hd,hl,hx,hn⟩ := args_ok c (by omega)
 have hl' : l.length ≤ 1048576 := by omega
 simp only [decide_eq_false hb,Option.bind_some,cond_false,hd]
 rw [core_sp n l x hl' hx]
 cases hv : validB n l with
 | false =>
  obtain ⟨e1,e2⟩ := core0 n l hl' hv
  have hi : incF n l x = false := by
   unfold incF payB
   rw [hv]
   rfl
  rw [e1,e2,hi]
  rfl
 | true =>
  obtain ⟨N,rfl,h1,h2,h3,h4⟩ := valid_nat ((validB_eq n l).1 hv)
  have hpos : 0 < l.length := by rw [h3]; exact Nat.pow_pos (by decide)
  obtain ⟨e1,e2⟩ := core_two N (l.length - 1) l hv (by omega)
  have k1 := fc_codes N (l.length - 1) l
  have k2 := fc_two (x := x) hv (show l.length = (l.length - 1) + 1 by omega)
  rw [e1,e2]
  rcases hf : fcF N (l.length - 1) l with ⟨code,P,W⟩
  rw [hf] at k1 k2
  simp only [Option.bind_some]
  rw [bne_self_eq_false,cond_false]
  cases hi : incF (N : Int) l x with
  | false => rfl
  | true =>
   rw [Bool.not_true,cond_false]
   rcases k1 with k1 | k1 | k1
   ·dsimp only at k1
    rw [k1]
    rfl
   ·rw [k2 k1] at hi
    exact absurd hi (by decide)
   ·dsimp only at k1
    rw [k1]
    rfl
end Go.Proofs.YtjnbmknniadbpaaGreat
