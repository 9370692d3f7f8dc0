/- The plain laws: what the models of FnExactParseGame compute. No condition beyond those that each theorem names. -/
import Derived.Test.YtdaoggmpohnjhaaDoorGEParseGame
import Derived.Test.YtdaoggmpohnjhaaDoorAmC
namespace Go.Proofs.YtdaoggmpohnjhaaDoor
open Go.AM
theorem eq_ints (a b : List Int) (ha : a.length ≤ 1048576) (hb : b.length ≤ 1048576) : m_laws_eqIntS a b = some (decide (a = b)) := by
 unfold m_laws_eqIntS
 by_cases hl : a.length = b.length
 ·have e : ((a.length : Int) != (b.length : Int)) = false := by simp [hl]
  have hit := iter_all (step := l_laws_eqIntS_0 a b) (fun i => (i : Int)) a.length (fun i => a.getD i 0 == b.getD i 0) (a := .inl ()) (b := .inr false)
   (fun i hi hp => by
    have hi' : (i : Int) < a.length := by omega
    have hi2 : (i : Int) < b.length := by omega
    unfold l_laws_eqIntS_0
    rw [decide_eq_true hi',cond_true,grd_pos ⟨by omega,hi'⟩,grd_pos ⟨by omega,hi2⟩]
    simp only [beq_iff_eq] at hp
    rw [Int.toNat_natCast,hp,w64' (by omega) (by omega),bne_self_eq_false,cond_false]
    rfl)
   (fun i hi hp => by
    have hi' : (i : Int) < a.length := by omega
    have hi2 : (i : Int) < b.length := by omega
    unfold l_laws_eqIntS_0
    rw [decide_eq_true hi',cond_true,grd_pos ⟨by omega,hi'⟩,grd_pos ⟨by omega,hi2⟩]
    rw [Int.toNat_natCast]
    have : (a.getD i 0 != b.getD i 0) = true := by
     simp only [bne,hp,Bool.not_false]
    rw [this]
    rfl)
   (by
    unfold l_laws_eqIntS_0
    rw [decide_eq_false (by omega)]
    rfl)
  rw [e,cond_false]
  simp only [Int.ofNat_eq_natCast,Int.natCast_zero] at hit
  rw [hit]
  by_cases hall : ∀ i,i < a.length → (a.getD i 0 == b.getD i 0) = true
  ·have : a = b := eq_of_all 0 hl fun i hi => by simpa using hall i hi
   rw [if_pos hall]
   simp [this]
  ·have : ¬ a = b := fun e => hall fun i hi => by rw [e]; simp
   rw [if_neg hall]
   simp [this]
 ·have e : ((a.length : Int) != (b.length : Int)) = true := by
   simp only [bne_iff_ne,ne_eq]
   omega
  rw [e]
  have : ¬ a = b := fun e => hl (by rw [e])
  simp [this]
theorem eq_game (n : Int) (l : List Int) (m : Int) (k : List Int) (hl : l.length ≤ 1048576) (hk : k.length ≤ 1048576) : m_laws_eqGame n l m k = some (decide (n = m ∧ l = k)) := by
 unfold m_laws_eqGame
 rw [eq_ints l k hl hk]
 by_cases h1 : n = m
 ·by_cases h2 : l = k
  ·simp [h1,h2]
  ·simp [h1,h2]
 ·have : (n != m) = true := by simpa using h1
  simp [h1,this]
def Valid (n : Int) (l : List Int) : Prop := (1 ≤ n ∧ n ≤ 5) ∧ (l.length : Int) = 2 ^ n.toNat ∧ l.getD 0 0 = 0 ∧ ∀ i,i < l.length → -500 ≤ l.getD i 0 ∧ l.getD i 0 ≤ 500
open Classical in
noncomputable def validB (n : Int) (l : List Int) : Bool := decide (Valid n l)
theorem in_eq (a b c : Int) : m_spec_l1In a b c = some (decide (b ≤ a ∧ a ≤ c)) := by
 unfold m_spec_l1In
 by_cases h : a ≥ b
 ·have h' : b ≤ a := h
  simp [h,h']
 ·have h' : ¬ b ≤ a := h
  simp [h,h']
theorem within_eq (a b c : Int) : m_impl_within a b c = some (decide (b ≤ a ∧ a ≤ c)) := in_eq a b c
theorem count_eq (n : Int) (h1 : 1 ≤ n) (h2 : n ≤ 5) : m_spec_CountCoalitions n = some (2 ^ n.toNat) := by
 unfold m_spec_CountCoalitions
 rw [in_eq]
 have hb : decide ((0 : Int) ≤ n ∧ n ≤ 5) = true := by simp; omega
 rw [hb,Option.bind_some,Bool.not_true,cond_false]
 have hit := iter_up (step := l_spec_CountCoalitions_0 n) (fun i => ((2 : Int) ^ i,(i : Int))) n.toNat (a := 2 ^ n.toNat) (fun i hi => by
   have hlt : (i : Int) < n := by omega
   have hi5 : i < 5 := by omega
   unfold l_spec_CountCoalitions_0
   simp only [hlt,decide_true,cond_true]
   have hp : (2 : Int) ^ i ≤ 16 := by
    have : i = 0 ∨ i = 1 ∨ i = 2 ∨ i = 3 ∨ i = 4 := by omega
    rcases this with rfl | rfl | rfl | rfl | rfl <;> decide
   have hp0 : (0 : Int) < 2 ^ i := Int.pow_pos (by decide)
   rw [w64' (by omega) (by omega),w64' (by omega) (by omega)]
   simp [Int.pow_succ])
  (by
   unfold l_spec_CountCoalitions_0
   have : ¬ ((n.toNat : Int) < n) := by omega
   simp only [this,decide_false,cond_false])
 simp only [Int.pow_zero,Int.ofNat_eq_natCast,Int.natCast_zero] at hit
 rw [hit]
 rfl
theorem spec_valid (n : Int) (l : List Int) (hl : l.length ≤ 1048576) : m_spec_IsValidGame n l = some (validB n l) := by
 unfold m_spec_IsValidGame
 have hit := iter_first (step := l_spec_IsValidGame_0 l) (fun i => (i : Int)) l.length (fun i => decide (-500 ≤ l.getD i 0 ∧ l.getD i 0 ≤ 500)) (a := .inl ()) (fun _ => .inr false)
  (fun i hi hp => by
   have hi' : (i : Int) < l.length := by omega
   unfold l_spec_IsValidGame_0
   rw [decide_eq_true hi',cond_true,grd_pos ⟨by omega,hi'⟩,in_eq,Int.toNat_natCast,hp,Option.bind_some,Bool.not_true,cond_false,w64' (by omega) (by omega)]
   rfl)
  (fun i hi hp => by
   have hi' : (i : Int) < l.length := by omega
   unfold l_spec_IsValidGame_0
   rw [decide_eq_true hi',cond_true,grd_pos ⟨by omega,hi'⟩,in_eq,Int.toNat_natCast,hp]
   rfl)
  (by
   unfold l_spec_IsValidGame_0
   rw [decide_eq_false (by omega)]
   rfl)
 simp only [Int.ofNat_eq_natCast,Int.natCast_zero] at hit
 rcases hit with ⟨h1,h2⟩ | ⟨i,h1,h2,h3⟩
 ·rw [h2]
  simp only [Option.bind_some]
  rw [in_eq]
  by_cases hn : 1 ≤ n ∧ n ≤ 5
  ·rw [decide_eq_true hn,Option.bind_some,cond_true,count_eq n hn.1 hn.2,Option.bind_some]
   by_cases hlen : (l.length : Int) = 2 ^ n.toNat
   ·have hpos : (0 : Int) < 2 ^ n.toNat := Int.pow_pos (by decide)
    have e1 : ((l.length : Int) == 2 ^ n.toNat) = true := by simpa using hlen
    rw [e1,cond_true,grd_pos ⟨by omega,by omega⟩]
    congr 1
    have h0 : (0 : Int).toNat = 0 := rfl
    rw [h0]
    by_cases hz : l.getD 0 0 = 0
    ·have hv : Valid n l := ⟨hn,hlen,hz,fun i hi => by simpa using h1 i hi⟩
     rw [hz]
     simp [validB,hv]
    ·have hv : ¬ Valid n l := fun h => hz h.2.2.1
     simp only [validB,hv,decide_false]
     simpa using hz
   ·have e1 : ((l.length : Int) == 2 ^ n.toNat) = false := by simpa using hlen
    have hv : ¬ Valid n l := fun h => hlen h.2.1
    rw [e1,cond_false]
    simp [validB,hv]
  ·have hv : ¬ Valid n l := fun h => hn h.1
   rw [decide_eq_false hn]
   simp [validB,hv]
 ·rw [h3]
  have hv : ¬ Valid n l := fun h => by
   have := h.2.2.2 i h1
   simp only [decide_eq_false_iff_not] at h2
   exact h2 this
  simp [validB,hv]
theorem contains_eq (l : List Int) (hl : l.length ≤ 1048576) : ∃ r,m_slices_ContainsFunc_int_int_impl_IsValidGame_1 l = some r ∧ (r = false ↔ ∀ i,i < l.length → -500 ≤ l.getD i 0 ∧ l.getD i 0 ≤ 500) := by
 unfold m_slices_ContainsFunc_int_int_impl_IsValidGame_1 m_slices_IndexFunc_int_int_impl_IsValidGame_1
 have hm : ∀ x,m_impl_IsValidGame_1 x = some (!decide (-500 ≤ x ∧ x ≤ 500)) := fun x => by
  unfold m_impl_IsValidGame_1
  rw [within_eq]
  rfl
 have hit := iter_first (step := l_slices_IndexFunc_int_int_impl_IsValidGame_1_0 l) (fun i => (i : Int)) l.length (fun i => decide (-500 ≤ l.getD i 0 ∧ l.getD i 0 ≤ 500)) (a := .inl ()) (fun i => .inr (i : Int))
  (fun i hi hp => by
   have hi' : (i : Int) < l.length := by omega
   unfold l_slices_IndexFunc_int_int_impl_IsValidGame_1_0
   rw [decide_eq_true hi',cond_true,grd_pos ⟨by omega,hi'⟩,hm,Int.toNat_natCast,hp,Option.bind_some,Bool.not_true,cond_false,w64' (by omega) (by omega)]
   rfl)
  (fun i hi hp => by
   have hi' : (i : Int) < l.length := by omega
   unfold l_slices_IndexFunc_int_int_impl_IsValidGame_1_0
   rw [decide_eq_true hi',cond_true,grd_pos ⟨by omega,hi'⟩,hm,Int.toNat_natCast,hp]
   rfl)
  (by
   unfold l_slices_IndexFunc_int_int_impl_IsValidGame_1_0
   rw [decide_eq_false (by omega)]
   rfl)
 simp only [Int.ofNat_eq_natCast,Int.natCast_zero] at hit
 rcases hit with ⟨h1,h2⟩ | ⟨i,h1,h2,h3⟩
 ·rw [h2]
  exact ⟨false,rfl,by simpa using h1⟩
 ·rw [h3]
  refine ⟨true,by simp,?_⟩
  simp only [reduceCtorEq,false_iff]
  intro h
  simp only [decide_eq_false_iff_not] at h2
  exact h2 (h i h1)
theorem impl_valid (n : Int) (l : List Int) (hl : l.length ≤ 1048576) : m_impl_IsValidGame n l = some (validB n l) := by
 unfold m_impl_IsValidGame
 rw [within_eq]
 by_cases hn : 1 ≤ n ∧ n ≤ 5
 ·rw [decide_eq_true hn,Option.bind_some,Bool.not_true,cond_false,grd_pos (by omega)]
  have hw : IntKind.i64.wrap ((1 : Int) * 2 ^ (min n.toNat 64)) = 2 ^ n.toNat := by
   have : n = 1 ∨ n = 2 ∨ n = 3 ∨ n = 4 ∨ n = 5 := by omega
   rcases this with rfl | rfl | rfl | rfl | rfl <;> decide
  rw [hw]
  by_cases hlen : (l.length : Int) = 2 ^ n.toNat
  ·have hpos : (0 : Int) < 2 ^ n.toNat := Int.pow_pos (by decide)
   have e1 : ((l.length : Int) != 2 ^ n.toNat) = false := by simpa using hlen
   rw [e1,cond_false,grd_pos ⟨by omega,by omega⟩]
   have h0 : (0 : Int).toNat = 0 := rfl
   rw [h0]
   by_cases hz : l.getD 0 0 = 0
   ·have e2 : (l.getD 0 0 != 0) = false := by simpa using hz
    rw [e2,cond_false]
    obtain ⟨r,h1,h2⟩ := contains_eq l hl
    rw [h1,Option.bind_some]
    congr 1
    by_cases hr : r = false
    ·have hv : Valid n l := ⟨hn,hlen,hz,h2.1 hr⟩
     simp [validB,hv,hr]
    ·have hv : ¬ Valid n l := fun h => hr (h2.2 h.2.2.2)
     have hr' : r = true := by cases r <;> simp at hr ⊢
     simp [validB,hv,hr']
   ·have e2 : (l.getD 0 0 != 0) = true := by simpa using hz
    have hv : ¬ Valid n l := fun h => hz h.2.2.1
    rw [e2]
    simp [validB,hv]
  ·have e1 : ((l.length : Int) != 2 ^ n.toNat) = true := by simpa using hlen
   have hv : ¬ Valid n l := fun h => hlen h.2.1
   rw [e1]
   simp [validB,hv]
 ·have hv : ¬ Valid n l := fun h => hn h.1
  rw [decide_eq_false hn]
  simp [validB,hv]
theorem iter_find {S A : Type} {step : S → Option (S ⊕ A)} (st : Nat → S) (n : Nat) (p : Nat → Bool) (a : A) (b : Nat → A)
  (hs : ∀ i,i < n → step (st i) = some (if p i = true then .inr (b i) else .inl (st (i + 1)))) (hd : step (st n) = some (.inr a)) :
  iter step (st 0) = some (match (List.range n).find? p with
   | some i => b i
   | none => a) := by
 have key : ∀ k,k ≤ n → iter step (st (n - k)) = some (match (List.range' (n - k) k).find? p with
   | some i => b i
   | none => a) := by
  intro k
  induction k with
  | zero => intro _; simpa using iter_done hd
  | succ k ih =>
   intro hk
   have h1 := hs (n - (k + 1)) (by omega)
   rw [List.range'_succ,List.find?_cons]
   cases hp : p (n - (k + 1)) with
   | true =>
    rw [if_pos hp] at h1
    exact iter_done h1
   | false =>
    rw [if_neg (by simp [hp])] at h1
    rw [iter_next h1,show n - (k + 1) + 1 = n - k by omega]
    exact ih (by omega)
 have := key n (Nat.le_refl _)
 rw [Nat.sub_self,← List.range_eq_range'] at this
 exact this
def tab {α : Type} (f : Nat → α) (n : Nat) : List α := (List.range n).map f
theorem tab_succ {α : Type} (f : Nat → α) (n : Nat) : tab f (n + 1) = tab f n ++ [f n] := by simp [tab,List.range_succ]
theorem tab_length {α : Type} (f : Nat → α) (n : Nat) : (tab f n).length = n := by simp [tab]
theorem tab_getD {α : Type} (f : Nat → α) (n : Nat) (d : α) (i : Nat) (h : i < n) : (tab f n).getD i d = f i := by
 simp [tab,List.getD,List.getElem?_map,List.getElem?_range h]
def fil {α : Type} (p : Nat → Bool) (f : Nat → α) (n : Nat) : List α := ((List.range n).filter p).map f
theorem fil_succ {α : Type} (p : Nat → Bool) (f : Nat → α) (n : Nat) : fil p f (n + 1) = if p n = true then fil p f n ++ [f n] else fil p f n := by
 simp only [fil,List.range_succ,List.filter_append]
 by_cases h : p n = true
 ·simp [h]
 ·simp [h]
theorem fil_length {α : Type} (p : Nat → Bool) (f : Nat → α) (n : Nat) : (fil p f n).length ≤ n := by
 simp only [fil,List.length_map]
 exact Nat.le_trans (List.length_filter_le _ _) (by simp)
theorem set_tab {α : Type} (f : Nat → α) (l : List α) (i : Nat) (h : i < l.length) : (tab f i ++ l.drop i).set i (f i) = tab f (i + 1) ++ l.drop (i + 1) := by
 rw [List.set_append]
 have h1 : ¬ i < (tab f i).length := by rw [tab_length]; omega
 rw [if_neg h1,tab_length,Nat.sub_self,tab_succ,List.drop_eq_getElem_cons h]
 simp only [List.set_cons_zero,List.append_assoc,List.singleton_append]
theorem getD_nat {α : Type} (l : List α) (i : Nat) (d : α) : l.getD (i : Int).toNat d = l.getD i d := by rw [Int.toNat_natCast]
theorem mark_ints (l : List Int) (k : Int) (h1 : 0 ≤ k) (h2 : k ≤ 1000000000000) (hl : l.length ≤ 1000000000000) : m_laws_markIntS_io1 l k = some (k + l.length,tab (fun i => k + (i : Int)) l.length) := by
 unfold m_laws_markIntS_io1
 have hit := iter_up (step := l_laws_markIntS_io1_0) (fun i => (k + (i : Int),(i : Int),tab (fun i => k + (i : Int)) i ++ l.drop i)) l.length (a := (k + l.length,tab (fun i => k + (i : Int)) l.length)) (fun i hi => by
   have hlen : (tab (fun i => k + (i : Int)) i ++ l.drop i).length = l.length := by simp [tab_length]; omega
   unfold l_laws_markIntS_io1_0
   simp only [hlen]
   rw [decide_eq_true (by omega),cond_true,grd_pos ⟨by omega,by omega⟩,w64' (by omega) (by omega),w64' (by omega) (by omega),Int.toNat_natCast,set_tab (fun i => k + (i : Int)) l i hi]
   simp [Int.add_assoc])
  (by
   unfold l_laws_markIntS_io1_0
   simp [tab_length])
 simp only [Int.natCast_zero,Int.add_zero,List.drop_zero,tab,List.range_zero,List.map_nil,List.nil_append] at hit
 rw [hit]
 rfl
theorem held_ints (k : Int) (n : Nat) (h1 : 0 ≤ k) (h2 : k ≤ 1000000000000) (hn : n ≤ 1000000000000) : m_laws_heldIntS (tab (fun i => k + (i : Int)) n) k = some (k + n) := by
 unfold m_laws_heldIntS
 have hit := iter_up (step := l_laws_heldIntS_0 (tab (fun i => k + (i : Int)) n)) (fun i => (k + (i : Int),(i : Int))) n (a := .inl (k + n)) (fun i hi => by
   unfold l_laws_heldIntS_0
   simp only [tab_length]
   rw [decide_eq_true (by omega),cond_true,grd_pos ⟨by omega,by omega⟩,w64' (by omega) (by omega),w64' (by omega) (by omega),getD_nat,tab_getD _ _ _ _ hi]
   simp [Int.add_assoc])
  (by
   unfold l_laws_heldIntS_0
   simp [tab_length])
 simp only [Int.natCast_zero,Int.add_zero] at hit
 rw [hit]
 rfl
theorem mark_game (n : Int) (l : List Int) (k : Int) (h1 : 0 ≤ k) (h2 : k ≤ 1000000000000) (hl : l.length ≤ 1000000000000) : m_laws_markGame_io1 n l k = some (k + l.length,tab (fun i => k + (i : Int)) l.length) := by
 unfold m_laws_markGame_io1
 rw [mark_ints l k h1 h2 hl]
 rfl
theorem held_game (n : Int) (k : Int) (m : Nat) (h1 : 0 ≤ k) (h2 : k ≤ 1000000000000) (hl : m ≤ 1000000000000) : m_laws_heldGame n (tab (fun i => k + (i : Int)) m) k = some (k + m) := by
 unfold m_laws_heldGame
 rw [held_ints k m h1 h2 hl,Option.bind_some,decide_eq_false (by omega),cond_false]
instance : DecidableEq Q := fun a b =>
 if h1 : a.num = b.num then
  if h2 : a.den = b.den then isTrue (by cases a; cases b; simp only at h1 h2; rw [h1,h2])
  else isFalse (fun h => h2 (by rw [h]))
 else isFalse (fun h => h1 (by rw [h]))
theorem count0 (n : Nat) (h : n ≤ 5) : m_spec_CountCoalitions (n : Int) = some (2 ^ n) := by
 rcases Nat.eq_zero_or_pos n with rfl | h1
 ·unfold m_spec_CountCoalitions
  rw [in_eq,decide_eq_true (by omega),Option.bind_some,Bool.not_true,cond_false]
  rw [iter_done (a := (1 : Int)) (by simp [l_spec_CountCoalitions_0])]
  rfl
 ·rw [count_eq (n : Int) (by omega) (by omega)]
  simp
theorem bit2 (k : Nat) (h : k < 5) : m_spec_l2Bit (k : Int) = some (2 ^ k) := by
 unfold m_spec_l2Bit
 rw [count0 k (by omega)]
 rfl
theorem and_tab : ∀ s : Fin 32,∀ k : Fin 5,bitsOf .and .i64 (((s.val : Nat) : Int).fdiv (2 ^ (min ((k.val : Nat) : Int).toNat 64))) 1 = if s.val.testBit k.val then 1 else 0 := by decide +kernel
theorem has_tab : ∀ s : Fin 32,∀ k : Fin 5,((IntKind.i64.wrap (((s.val : Nat) : Int).tdiv (2 ^ k.val))).tmod 2 == 1) = s.val.testBit k.val := by decide +kernel
theorem and_eq (s k : Nat) (hs : s < 32) (hk : k < 5) : bitsOf .and .i64 ((s : Int).fdiv (2 ^ (min (k : Int).toNat 64))) 1 = if s.testBit k then 1 else 0 := and_tab ⟨s,hs⟩ ⟨k,hk⟩
theorem spec_has (s k : Nat) (hs : s < 32) (hk : k < 5) : m_spec_HasPlayer (s : Int) (k : Int) = some (s.testBit k) := by
 unfold m_spec_HasPlayer
 have hp : (0 : Int) < 2 ^ k := Int.pow_pos (by decide)
 rw [in_eq,decide_eq_true (by omega),Option.bind_some,cond_true,decide_eq_true (by omega),cond_true,bit2 k hk,Option.bind_some,grd_pos (by omega),grd_pos (by decide)]
 rw [← has_tab ⟨s,hs⟩ ⟨k,hk⟩]
theorem valid_nat {n : Int} {l : List Int} (h : Valid n l) : ∃ N : Nat,n = (N : Int) ∧ 1 ≤ N ∧ N ≤ 5 ∧ l.length = 2 ^ N ∧ l.length ≤ 32 := by
 obtain ⟨h1,h2,_⟩ := h
 have hn : n = 1 ∨ n = 2 ∨ n = 3 ∨ n = 4 ∨ n = 5 := by omega
 refine ⟨n.toNat,by omega,by omega,by omega,?_,?_⟩
 ·rcases hn with rfl | rfl | rfl | rfl | rfl <;> simp at h2 ⊢ <;> omega
 ·rcases hn with rfl | rfl | rfl | rfl | rfl <;> simp at h2 ⊢ <;> omega
theorem validB_eq (n : Int) (l : List Int) : validB n l = true ↔ Valid n l := by simp [validB]
theorem iter_findc {S A : Type} {step : S → Option (S ⊕ A)} (st : Nat → S) (n : Nat) (p : Nat → Bool) (a : A) (b : Nat → A)
  (hs : ∀ i,i < n → step (st i) = some (bif p i then .inr (b i) else .inl (st (i + 1)))) (hd : step (st n) = some (.inr a)) :
  iter step (st 0) = some (match (List.range n).find? p with
   | some i => b i
   | none => a) := iter_find st n p a b (fun i hi => by rw [hs i hi]; cases p i <;> rfl) hd
theorem good_eq (a : Nat) (ha : a < 32) : m_spec_l2Good (a : Int) = some true := by
 unfold m_spec_l2Good
 rw [in_eq,decide_eq_true (by omega)]
 rfl
theorem impl_has (s k : Nat) (hs : s < 32) (hk : k < 5) : m_impl_HasPlayer (s : Int) (k : Int) = some (s.testBit k) := by
 unfold m_impl_HasPlayer
 rw [decide_eq_true (by omega),cond_true,within_eq,decide_eq_true (by omega),Option.bind_some,cond_true,grd_pos (by omega),and_eq s k hs hk]
 cases s.testBit k <;> rfl
def mems (s : Nat) : List Int := fil s.testBit (fun k => (k : Int)) 5
theorem impl_members (s : Nat) (hs : s < 32) : m_impl_MembersOf (s : Int) = some (mems s) := by
 unfold m_impl_MembersOf
 have hit := iter_up (step := l_impl_MembersOf_0 (s : Int)) (fun k => ((k : Int),fil s.testBit (fun k => (k : Int)) k)) 5 (a := mems s) (fun k hk => by
   have hb := fil_length s.testBit (fun k => (k : Int)) k
   unfold l_impl_MembersOf_0
   dsimp only
   rw [decide_eq_true (by omega),cond_true,impl_has s k hs hk,Option.bind_some,w64' (by omega) (by omega),fil_succ,grd_pos (by simp only [List.length_singleton,room]; omega)]
   cases s.testBit k <;> rfl)
  (by unfold l_impl_MembersOf_0; dsimp only; rw [decide_eq_false (by omega)]; rfl)
 have e : fil s.testBit (fun k => (k : Int)) 0 = [] := rfl
 simp only [Int.natCast_zero,e] at hit
 rw [within_eq,decide_eq_true (by omega),Option.bind_some,Bool.not_true,cond_false,hit]
 rfl
theorem mems_mem {s : Nat} {m : Int} (h : m ∈ mems s) : ∃ k : Nat,m = (k : Int) ∧ k < 5 ∧ s.testBit k = true := by
 simp only [mems,fil,List.mem_map,List.mem_filter,List.mem_range] at h
 obtain ⟨k,⟨h1,h2⟩,h3⟩ := h
 exact ⟨k,h3.symm,h1,h2⟩
theorem iter_dec {S A : Type} {step : S → Option (S ⊕ A)} (I : Nat → S → Prop) (Post : A → Prop)
  (h : ∀ k s,I k s → (∃ a,step s = some (.inr a) ∧ Post a) ∨ ∃ s' k',k = k' + 1 ∧ step s = some (.inl s') ∧ I k' s') : ∀ k s,I k s → ∃ a,iter step s = some a ∧ Post a := by
 intro k
 induction k with
 | zero =>
  intro s hs
  rcases h 0 s hs with ⟨a,h1,h2⟩ | ⟨s',k',h1,_⟩
  ·exact ⟨a,iter_done h1,h2⟩
  ·omega
 | succ k ih =>
  intro s hs
  rcases h _ s hs with ⟨a,h1,h2⟩ | ⟨s',k',h1,h2,h3⟩
  ·exact ⟨a,iter_done h1,h2⟩
  ·obtain rfl : k' = k := by omega
   obtain ⟨a,h4,h5⟩ := ih s' h3
   exact ⟨a,by rw [iter_next h2]; exact h4,h5⟩
def sR (f : Nat → Rat) : Nat → Rat
 | 0 => 0
 | n + 1 => sR f n + f n
theorem sR_ext {f g : Nat → Rat} : ∀ {n : Nat},(∀ i,i < n → f i = g i) → sR f n = sR g n
 | 0,_ => rfl
 | n + 1,h => by
  simp only [sR]
  rw [sR_ext fun i hi => h i (by omega),h n (by omega)]
structure TInv (S : Nat → Nat → Rat) (n m : Nat) (T : Nat → Nat → Rat) (b : Nat → Nat) : Prop where
 bb : ∀ k,k < m → b k < n + m
 L : ∀ k,k < m → ∀ j,j ≤ n + m → T k j = sR (fun i => T k (n + i) * S i j) m
 R : ∀ i,i < m → ∀ j,j ≤ n + m → S i j = sR (fun k => S i (b k) * T k j) m
 U : ∀ k,k < m → ∀ l,l < m → T k (b l) = if k = l then 1 else 0
theorem getD_get {α : Type} (l : List α) (i : Nat) (d : α) (h : i < l.length) : l.getD i d = l[i] := by simp [List.getD,List.getElem?_eq_getElem h]
theorem TInv.congr {S T T' : Nat → Nat → Rat} {n m : Nat} {b b' : Nat → Nat} (h : TInv S n m T b) (hT : ∀ k,k < m → ∀ j,j ≤ n + m → T' k j = T k j) (hb : ∀ k,k < m → b' k = b k) : TInv S n m T' b' := by
 refine ⟨fun k hk => by rw [hb k hk]; exact h.bb k hk,fun k hk j hj => ?_,fun i hi j hj => ?_,fun k hk l hl => ?_⟩
 ·rw [hT k hk j hj,h.L k hk j hj]
  exact sR_ext fun i hi => by rw [hT k hk (n + i) (by omega)]
 ·rw [h.R i hi j hj]
  exact sR_ext fun k hk => by rw [hb k hk,hT k hk j hj]
 ·rw [hb l hl,hT k hk _ (by have := h.bb l hl; omega),h.U k hk l hl]
theorem w8' {n : Int} (h1 : 0 ≤ n) (h2 : n < 256) : IntKind.u8.wrap n = n := by
 unfold IntKind.wrap
 simp only [IntKind.signed,IntKind.bits,Bool.false_and,Bool.false_eq_true,if_false]
 omega
theorem dec_one {u : Nat} (h : u < 10) : Lib.decDigits u = [UInt8.ofNat (48 + u)] := by rw [Lib.decDigits,dif_pos h]
theorem dec_app {u : Nat} (h : ¬ u < 10) : Lib.decDigits u = Lib.decDigits (u / 10) ++ [UInt8.ofNat (48 + u % 10)] := by rw [Lib.decDigits,dif_neg h]
theorem dec_len : ∀ (k u : Nat),u < 10 ^ (k + 1) → (Lib.decDigits u).length ≤ k + 1
 | 0,u,h => by rw [dec_one (by simpa using h)]; simp
 | k + 1,u,h => by
  by_cases h1 : u < 10
  ·rw [dec_one h1]; simp
  ·rw [dec_app h1,List.length_append,List.length_singleton]
   rw [Nat.pow_succ] at h
   have := dec_len k (u / 10) (by omega)
   omega
theorem itoa_len {n : Int} (h1 : -1000000000000000000 ≤ n) (h2 : n ≤ 1000000000000000000) : (Lib.itoa n).length ≤ 20 := by
 unfold Lib.itoa
 split
 ·have := dec_len 18 n.natAbs (by omega)
  rw [List.length_cons]
  omega
 ·have := dec_len 18 n.toNat (by omega)
  omega
def dgs (u : Nat) : List UInt8 := if u = 0 then [] else Lib.decDigits u
theorem dgs_step {u : Nat} (h : u ≠ 0) : dgs u = dgs (u / 10) ++ [UInt8.ofNat (48 + u % 10)] := by
 unfold dgs
 rw [if_neg h]
 by_cases h1 : u < 10
 ·rw [dec_one h1,if_pos (by omega),show u % 10 = u by omega]
  rfl
 ·rw [dec_app h1,if_neg (by omega)]
theorem fmt_loop : ∀ (k : Nat) (n : Int) (out : List UInt8),n.natAbs < 10 ^ k → -1000000000000000000 ≤ n → n ≤ 1000000000000000000 → out.length + k ≤ 1000 → iter l_spec_FormatInt_0 (n,out) = some (dgs n.natAbs ++ out)
 | 0,n,out,h,_,_,_ => by
  have h0 : n = 0 := by
   rw [Nat.pow_zero] at h
   omega
  subst h0
  exact iter_done rfl
 | k + 1,n,out,h,hn1,hn2,hl => by
  by_cases h0 : n = 0
  ·subst h0
   exact iter_done rfl
  ·have hne : (n != 0) = true := by simpa using h0
   have hm : (n.tmod 10).natAbs = n.natAbs % 10 := Int.natAbs_tmod n 10
   have hq : (n.tdiv 10).natAbs = n.natAbs / 10 := Int.natAbs_tdiv n 10
   rw [Nat.pow_succ] at h
   have hb : ∀ d : Int,d = ((n.natAbs % 10 : Nat) : Int) → UInt8.ofNat (IntKind.u8.wrap (IntKind.i64.wrap ((48 : Int) + d))).toNat = UInt8.ofNat (48 + n.natAbs % 10) ∧ ((0 : Int) ≤ IntKind.u8.wrap (IntKind.i64.wrap ((48 : Int) + d)) ∧ IntKind.u8.wrap (IntKind.i64.wrap ((48 : Int) + d)) < 256) := fun d hd => by
    have : n.natAbs % 10 < 10 := Nat.mod_lt _ (by decide)
    rw [w64' (by omega) (by omega),w8' (by omega) (by omega)]
    refine ⟨?_,by omega,by omega⟩
    congr 1
    omega
   have hs : l_spec_FormatInt_0 (n,out) = some (.inl (n.tdiv 10,[UInt8.ofNat (48 + n.natAbs % 10)] ++ out)) := by
    unfold l_spec_FormatInt_0
    dsimp only
    have hlen : ∀ b : UInt8,((([b].length + out.length : Nat) : Int) ≤ 9223372036854775807) := fun b => by
     rw [List.length_singleton]
     omega
    rw [hne,cond_true,grd_pos (by decide)]
    by_cases hneg : n.tmod 10 < 0
    ·obtain ⟨b1,b2⟩ := hb (IntKind.i64.wrap ((0 : Int) - n.tmod 10)) (by rw [w64' (by omega) (by omega)]; omega)
     rw [decide_eq_true hneg,cond_true,grd_pos b2,grd_pos (hlen _),grd_pos (by decide),b1,w64' (by omega) (by omega)]
    ·obtain ⟨b1,b2⟩ := hb (n.tmod 10) (by omega)
     rw [decide_eq_false hneg,cond_false,grd_pos b2,grd_pos (hlen _),grd_pos (by decide),b1,w64' (by omega) (by omega)]
   rw [iter_next hs,fmt_loop k (n.tdiv 10) _ (by omega) (by omega) (by omega) (by rw [List.length_append,List.length_singleton]; omega),hq,dgs_step (by omega : n.natAbs ≠ 0),List.append_assoc]
theorem spec_itoa' (n : Int) (h1 : -1000000000000000000 ≤ n) (h2 : n ≤ 1000000000000000000) : m_spec_FormatInt n = some (Lib.itoa n) := by
 unfold m_spec_FormatInt Lib.itoa
 by_cases h0 : n = 0
 ·subst h0
  rw [if_neg (by decide),dec_one (by decide)]
  rfl
 ·have e0 : (n == 0) = false := by simpa using h0
  rw [e0,cond_false,fmt_loop 19 n [] (by omega) h1 h2 (by simp),Option.bind_some,List.append_nil]
  unfold dgs
  rw [if_neg (by omega)]
  have hl := dec_len 18 n.natAbs (by omega)
  by_cases hneg : n < 0
  ·rw [decide_eq_true hneg,cond_true,if_pos hneg,grd_pos (by rw [List.length_singleton]; omega)]
   rfl
  ·rw [decide_eq_false hneg,cond_false,if_neg hneg,show n.natAbs = n.toNat by omega]
theorem impl_itoa (n : Int) (h1 : -1000000000000000000 ≤ n) (h2 : n ≤ 1000000000000000000) : m_impl_FormatInt n = some (Lib.itoa n) := by
 unfold m_impl_FormatInt m_strconv_Itoa
 rw [grd_pos (by omega)]
 rfl
def clL (s n : Nat) : List UInt8 := fil s.testBit (fun k => UInt8.ofNat (97 + k)) n
def clF (s : Nat) : List UInt8 := if clL s 5 = [] then [45] else clL s 5
theorem clL_len (s n : Nat) : (clL s n).length ≤ n := fil_length _ _ _
theorem clF_len (s : Nat) : (clF s).length ≤ 5 := by
 unfold clF
 split
 ·simp
 ·exact clL_len s 5
theorem abc_at : ∀ k : Fin 5,(([97,98,99,100,101] : List UInt8).drop k.val).take (k.val + 1 - k.val) = [UInt8.ofNat (97 + k.val)] := by decide
theorem cond_nil (x : List UInt8) : (bif x == [] then some ([45] : List UInt8) else some x) = some (if x = [] then [45] else x) := by
 cases x <;> rfl
theorem spec_fc (s : Nat) (hs : s < 32) : m_spec_FormatCoalition (s : Int) = some (clF s) := by
 unfold m_spec_FormatCoalition
 have hit := iter_up (step := l_spec_FormatCoalition_0 (s : Int)) (fun k => (clL s k,(k : Int))) 5 (a := clL s 5) (fun k hk => by
   have hb := clL_len s k
   unfold l_spec_FormatCoalition_0
   dsimp only
   rw [decide_eq_true (by omega),cond_true,spec_has s k hs hk,Option.bind_some,w64' (by omega) (by omega)]
   have e1 : ((k : Int) + 1).toNat = k + 1 := by omega
   have e2 := abc_at ⟨k,hk⟩
   dsimp only at e2
   have e3 : clL s (k + 1) = if s.testBit k = true then clL s k ++ [UInt8.ofNat (97 + k)] else clL s k := fil_succ _ _ _
   rw [e1,Int.toNat_natCast,e2,e3]
   cases s.testBit k with
   | false => rfl
   | true =>
    rw [cond_true,grd_pos (by simp only [List.length_cons,List.length_nil]; omega),grd_pos (by simp only [List.length_cons,List.length_nil]; omega),if_pos rfl]
    rfl)
  (by unfold l_spec_FormatCoalition_0; dsimp only; rw [decide_eq_false (by omega)]; rfl)
 have e : clL s 0 = [] := rfl
 simp only [Int.natCast_zero,e] at hit
 rw [good_eq s hs,Option.bind_some,Bool.not_true,cond_false,hit,Option.bind_some,cond_nil]
 rfl
theorem fc_map (s : Nat) : (mems s).map (fun m => UInt8.ofNat (97 + m.toNat)) = clL s 5 := by
 unfold mems clL fil
 rw [List.map_map]
 rfl
theorem impl_fc (s : Nat) (hs : s < 32) : m_impl_FormatCoalition (s : Int) = some (clF s) := by
 unfold m_impl_FormatCoalition
 have hml : (mems s).length ≤ 5 := fil_length _ _ _
 have hit := iter_up (step := l_impl_FormatCoalition_0 (mems s)) (fun k => (((mems s).take k).map (fun m => UInt8.ofNat (97 + m.toNat)),(k : Int))) (mems s).length (a := clL s 5) (fun k hk => by
   have hk5 : k < 5 := by omega
   obtain ⟨m,e0,e1,_⟩ := mems_mem (List.getElem_mem hk)
   have eg : (mems s).getD k 0 = (m : Int) := by
    rw [List.getD_eq_getElem?_getD,List.getElem?_eq_getElem hk,Option.getD_some]
    exact e0
   unfold l_impl_FormatCoalition_0
   dsimp only
   have ew : IntKind.i64.wrap ((97 : Int) + (m : Int)) = ((97 + m : Nat) : Int) := by
    rw [w64' (by omega) (by omega)]
    omega
   have hlen : (((mems s).take k).map (fun m => UInt8.ofNat (97 + m.toNat))).length ≤ 5 := by
    rw [List.length_map,List.length_take]
    omega
   rw [decide_eq_true (by omega),cond_true,grd_pos (by omega),Int.toNat_natCast,eg,ew,w8' (by omega) (by omega),grd_pos (by omega),grd_pos (by rw [List.length_singleton]; omega),w64' (by omega) (by omega),List.take_add_one,List.getElem?_eq_getElem hk,e0,List.map_append]
   rfl)
  (by unfold l_impl_FormatCoalition_0; dsimp only; rw [decide_eq_false (by omega),List.take_length,fc_map]; rfl)
 rw [within_eq,decide_eq_true (by omega),Option.bind_some,Bool.not_true,cond_false,impl_members s hs,Option.bind_some]
 simp only [Int.natCast_zero,List.take_zero,List.map_nil] at hit
 rw [hit,Option.bind_some,cond_nil]
 rfl
def lineF (s : Nat) (v : Int) : List UInt8 := ((clF s ++ [32]) ++ Lib.itoa v) ++ [10]
def bodyF (l : List Int) (k : Nat) : List UInt8 := (List.range k).flatMap fun s => if l.getD s 0 = 0 then [] else lineF s (l.getD s 0)
theorem bodyF_succ (l : List Int) (k : Nat) : bodyF l (k + 1) = bodyF l k ++ (if l.getD k 0 = 0 then [] else lineF k (l.getD k 0)) := by
 unfold bodyF
 rw [List.range_succ,List.flatMap_append]
 simp
theorem lineF_len {s : Nat} {v : Int} (h1 : -500 ≤ v) (h2 : v ≤ 500) : (lineF s v).length ≤ 30 := by
 unfold lineF
 have := clF_len s
 have := itoa_len (n := v) (by omega) (by omega)
 simp only [List.length_append,List.length_singleton]
 omega
theorem bodyF_len {l : List Int} (h : ∀ i,-500 ≤ l.getD i 0 ∧ l.getD i 0 ≤ 500) : ∀ k,(bodyF l k).length ≤ 30 * k
 | 0 => by simp [bodyF]
 | k + 1 => by
  have := bodyF_len h k
  rw [bodyF_succ,List.length_append]
  split
  ·rw [List.length_nil]
   omega
  ·have := lineF_len (s := k) (h k).1 (h k).2
   omega
def headF (n : Int) : List UInt8 := ([112,108,97,121,101,114,115,32] ++ Lib.itoa n) ++ [10]
noncomputable def fgF (n : Int) (l : List Int) : List UInt8 := if validB n l = true then headF n ++ bodyF l l.length else []
theorem val_all' {n : Int} {l : List Int} (h : Valid n l) (i : Nat) : -500 ≤ l.getD i 0 ∧ l.getD i 0 ≤ 500 := by
 by_cases hi : i < l.length
 ·exact h.2.2.2 i hi
 ·rw [List.getD_eq_getElem?_getD,List.getElem?_eq_none (by omega)]
  exact ⟨by decide,by decide⟩
theorem spec_fg (n : Int) (l : List Int) (hl : l.length ≤ 1048576) : m_spec_FormatGame n l = some (fgF n l) := by
 unfold m_spec_FormatGame fgF
 rw [spec_valid n l hl]
 cases hv : validB n l with
 | false => rw [if_neg (by simp)]; rfl
 | true =>
  rw [if_pos rfl,Option.bind_some,Bool.not_true,cond_false]
  have hV := (validB_eq n l).1 hv
  obtain ⟨N,rfl,h1,h2,h3,_⟩ := valid_nat hV
  have hall := val_all' hV
  have h32 : l.length ≤ 32 := by
   rw [h3]
   exact Nat.le_trans (Nat.pow_le_pow_right (n := 2) (by decide) h2) (by decide)
  have h2l : 2 ≤ l.length := by
   rw [h3]
   exact Nat.le_trans (by decide) (Nat.pow_le_pow_right (n := 2) (by decide) h1)
  have hz : l.getD 0 0 = 0 := hV.2.2.1
  have hhl : (headF (N : Int)).length ≤ 29 := by
   unfold headF
   have := itoa_len (n := (N : Int)) (by omega) (by omega)
   simp only [List.length_append,List.length_cons,List.length_nil]
   omega
  have hit := iter_up (step := l_spec_FormatGame_0 l) (fun k => (headF (N : Int) ++ bodyF l (k + 1),((k + 1 : Nat) : Int))) (l.length - 1) (a := headF (N : Int) ++ bodyF l l.length) (fun k hk => by
    have hb := bodyF_len hall (k + 1)
    have hv1 := hall (k + 1)
    unfold l_spec_FormatGame_0
    dsimp only
    rw [decide_eq_true (by omega),cond_true,grd_pos (by omega),Int.toNat_natCast,bodyF_succ l (k + 1)]
    by_cases h0 : l.getD (k + 1) 0 = 0
    ·have e0 : (l.getD (k + 1) 0 != 0) = false := by rw [h0]; rfl
     rw [e0,cond_false,if_pos h0,w64' (by omega) (by omega),List.append_nil]
     rfl
    ·have e0 : (l.getD (k + 1) 0 != 0) = true := by simpa using h0
     have hc := clF_len (k + 1)
     have hi := itoa_len (n := l.getD (k + 1) 0) (by omega) (by omega)
     rw [e0,cond_true,if_neg h0,spec_fc (k + 1) (by omega),Option.bind_some,grd_pos (by simp only [List.length_append]; omega),grd_pos (by simp only [List.length_append,List.length_cons,List.length_nil]; omega),grd_pos (by omega),spec_itoa' _ (by omega) (by omega),Option.bind_some,grd_pos (by simp only [List.length_append,List.length_cons,List.length_nil]; omega),grd_pos (by simp only [List.length_append,List.length_cons,List.length_nil]; omega),w64' (by omega) (by omega)]
     unfold lineF
     simp only [List.append_assoc]
     rfl)
   (by
    unfold l_spec_FormatGame_0
    dsimp only
    rw [decide_eq_false (by omega),show l.length - 1 + 1 = l.length by omega]
    rfl)
  have e1 : bodyF l (0 + 1) = [] := by
   rw [bodyF_succ,hz]
   rfl
  have e2 : ((0 + 1 : Nat) : Int) = 1 := rfl
  simp only [e1,e2,List.append_nil] at hit
  rw [spec_itoa' _ (by omega) (by omega),Option.bind_some]
  unfold headF at hhl hit
  simp only [List.length_append,List.length_cons,List.length_nil] at hhl
  rw [grd_pos (by simp only [List.length_cons,List.length_nil]; omega),grd_pos (by simp only [List.length_append,List.length_cons,List.length_nil]; omega),hit]
  rfl
theorem impl_fg (n : Int) (l : List Int) (hl : l.length ≤ 1048576) : m_impl_FormatGame n l = some (fgF n l) := by
 unfold m_impl_FormatGame fgF
 rw [impl_valid n l hl]
 cases hv : validB n l with
 | false => rw [if_neg (by simp)]; rfl
 | true =>
  rw [if_pos rfl,Option.bind_some,Bool.not_true,cond_false]
  have hV := (validB_eq n l).1 hv
  obtain ⟨N,rfl,h1,h2,h3,_⟩ := valid_nat hV
  have hall := val_all' hV
  have h32 : l.length ≤ 32 := by
   rw [h3]
   exact Nat.le_trans (Nat.pow_le_pow_right (n := 2) (by decide) h2) (by decide)
  have hhl : (headF (N : Int)).length ≤ 29 := by
   unfold headF
   have := itoa_len (n := (N : Int)) (by omega) (by omega)
   simp only [List.length_append,List.length_cons,List.length_nil]
   omega
  have hit := iter_up (step := l_impl_FormatGame_0 l) (fun k => (headF (N : Int) ++ bodyF l k,(k : Int))) l.length (a := headF (N : Int) ++ bodyF l l.length) (fun k hk => by
    have hb := bodyF_len hall k
    have hv1 := hall k
    unfold l_impl_FormatGame_0
    dsimp only
    rw [decide_eq_true (by omega),cond_true,grd_pos (by omega),Int.toNat_natCast,bodyF_succ l k]
    by_cases h0 : l.getD k 0 = 0
    ·have e0 : (l.getD k 0 != 0) = false := by rw [h0]; rfl
     rw [e0,cond_false,if_pos h0,w64' (by omega) (by omega),List.append_nil]
     rfl
    ·have e0 : (l.getD k 0 != 0) = true := by simpa using h0
     have hc := clF_len k
     have hi := itoa_len (n := l.getD k 0) (by omega) (by omega)
     rw [e0,cond_true,if_neg h0,impl_fc k (by omega),Option.bind_some,grd_pos (by simp only [List.length_cons,List.length_nil]; omega),impl_itoa _ (by omega) (by omega),Option.bind_some,grd_pos (by simp only [List.length_append,List.length_cons,List.length_nil]; omega),grd_pos (by simp only [List.length_append,List.length_cons,List.length_nil]; omega),grd_pos (by simp only [List.length_append,List.length_cons,List.length_nil]; omega),w64' (by omega) (by omega)]
     unfold lineF
     simp only [List.append_assoc]
     rfl)
   (by
    unfold l_impl_FormatGame_0
    dsimp only
    rw [decide_eq_false (by omega)]
    rfl)
  have e1 : bodyF l 0 = [] := rfl
  simp only [e1,Int.natCast_zero,List.append_nil] at hit
  rw [impl_itoa _ (by omega) (by omega),Option.bind_some]
  unfold headF at hhl hit
  simp only [List.length_append,List.length_cons,List.length_nil] at hhl
  rw [grd_pos (by simp only [List.length_cons,List.length_nil]; omega),grd_pos (by simp only [List.length_append,List.length_cons,List.length_nil]; omega),hit]
  rfl
def splA (b : UInt8) : List UInt8 → List UInt8 → List (List UInt8)
 | cur,[] => [cur]
 | cur,c :: r => if c = b then cur :: splA b [] r else splA b (cur ++ [c]) r
theorem splA_cons (b c : UInt8) (cur r : List UInt8) : splA b cur (c :: r) = if c = b then cur :: splA b [] r else splA b (cur ++ [c]) r := rfl
def splF (b : UInt8) (s : List UInt8) : List (List UInt8) := splA b [] s
theorem splA_len (b : UInt8) : ∀ (s cur : List UInt8),1 ≤ (splA b cur s).length ∧ (splA b cur s).length ≤ s.length + 1
 | [],cur => by simp [splA]
 | c :: r,cur => by
  unfold splA
  split
  ·have := splA_len b r []
   simp only [List.length_cons]
   omega
  ·have := splA_len b r (cur ++ [c])
   simp only [List.length_cons]
   omega
theorem spl_step (b : UInt8) (s : List UInt8) (f j : Nat) (hf : f ≤ j) (hj : j < s.length) :
  splA b ((s.drop f).take (j - f)) (s.drop j) = if s.getD j 0 = b then (s.drop f).take (j - f) :: splA b ((s.drop (j + 1)).take (j + 1 - (j + 1))) (s.drop (j + 1)) else splA b ((s.drop f).take (j + 1 - f)) (s.drop (j + 1)) := by
 have e1 : s.getD j 0 = s[j] := getD_get _ _ _ hj
 rw [List.drop_eq_getElem_cons hj,e1]
 unfold splA
 have e2 : (s.drop f).take (j + 1 - f) = (s.drop f).take (j - f) ++ [s[j]] := by
  rw [show j + 1 - f = (j - f) + 1 by omega,List.take_add_one,List.getElem?_drop,show f + (j - f) = j by omega,List.getElem?_eq_getElem hj]
  rfl
 rw [e2]
 have e3 : j + 1 - (j + 1) = 0 := by omega
 rw [e3,List.take_zero]
 split
 ·cases s.drop (j + 1) <;> rfl
 ·cases s.drop (j + 1) <;> rfl
theorem byte_eq (c b : UInt8) : ((c.toNat : Int) == (b.toNat : Int)) = decide (c = b) := by
 by_cases h : c = b
 ·subst h
  simp
 ·have h2 : ¬ (c.toNat : Int) = (b.toNat : Int) := fun e => h (UInt8.toNat_inj.1 (by omega))
  rw [decide_eq_false h]
  simpa using h2
def SplI (b : UInt8) (s : List UInt8) (v : Int × Int × List (List UInt8)) : Prop := ∃ f j : Nat,v.1 = f ∧ v.2.1 = j ∧ f ≤ j ∧ j ≤ s.length ∧ v.2.2.length ≤ j ∧ v.2.2 ++ splA b ((s.drop f).take (j - f)) (s.drop j) = splF b s
theorem spl_end (b : UInt8) (s : List UInt8) (f : Nat) : splA b ((s.drop f).take (s.length - f)) (s.drop s.length) = [s.drop f] := by
 rw [List.drop_length,List.take_of_length_le (by rw [List.length_drop]; exact Nat.le_refl _)]
 rfl
theorem impl_spl (s : List UInt8) (b : UInt8) (hs : s.length ≤ 1048576) : m_impl_SplitByte s (b.toNat : Int) = some (splF b s) := by
 have hroom : (room : Nat) = 1099511627776 := rfl
 unfold m_impl_SplitByte
 obtain ⟨⟨v4,v5⟩,h1,f,h2,h3,h4,h5⟩ := iter_dec (step := l_impl_SplitByte_0 s (b.toNat : Int)) (fun k v => v.2.1 + k = s.length ∧ SplI b s v) (fun a => ∃ f : Nat,a.1 = f ∧ f ≤ s.length ∧ a.2.length ≤ s.length ∧ a.2 ++ [s.drop f] = splF b s) (fun k ⟨v1,v2,v3⟩ ⟨g0,f,j,g1,g2,g3,g4,g5,g6⟩ => by
  simp only at g0 g1 g2 g3 g4 g5 g6
  subst g1 g2
  unfold l_impl_SplitByte_0
  dsimp only
  by_cases hj : j < s.length
  ·rw [decide_eq_true (by omega),cond_true,grd_pos (by omega),getD_nat,byte_eq,spl_step b s f j g3 hj] at *
   by_cases hc : s.getD j 0 = b
   ·rw [decide_eq_true hc,cond_true,grd_pos (by omega),grd_pos (by simp only [List.length_singleton]; omega),w64' (by omega) (by omega),Int.toNat_natCast,Int.toNat_natCast]
    rw [if_pos hc] at g6
    refine .inr ⟨_,k - 1,by omega,rfl,by dsimp only; omega,j + 1,j + 1,rfl,rfl,by omega,by omega,?_,?_⟩
    ·dsimp only
     rw [List.length_append,List.length_singleton]
     omega
    ·dsimp only
     rw [List.append_assoc]
     exact g6
   ·rw [decide_eq_false hc,cond_false,w64' (by omega) (by omega)]
    rw [if_neg hc] at g6
    exact .inr ⟨_,k - 1,by omega,rfl,by dsimp only; omega,f,j + 1,rfl,rfl,by omega,by omega,by dsimp only; omega,g6⟩
  ·have hje : j = s.length := by omega
   subst hje
   rw [decide_eq_false (by omega),cond_false]
   rw [spl_end] at g6
   exact .inl ⟨_,rfl,f,rfl,g3,g5,g6⟩) s.length ((0 : Int),(0 : Int),[]) ⟨by dsimp only; omega,0,0,rfl,rfl,Nat.le_refl _,Nat.zero_le _,Nat.le_refl _,rfl⟩
 simp only at h2 h3 h4 h5
 subst h2
 rw [h1,Option.bind_some]
 dsimp only
 rw [grd_pos (by omega),grd_pos (by simp only [List.length_singleton]; omega),Int.toNat_natCast,h5]
theorem spec_spl (s : List UInt8) (b : UInt8) (hs : s.length ≤ 1048576) : m_spec_SplitByte s (b.toNat : Int) = some (splF b s) := by
 have hroom : (room : Nat) = 1099511627776 := rfl
 unfold m_spec_SplitByte
 obtain ⟨v4,h1,h2⟩ := iter_dec (step := l_spec_SplitByte_0 s (b.toNat : Int)) (fun k v => v.2.1 + k = (s.length + 1 : Nat) ∧ (SplI b s v ∨ (v.2.1 = (s.length + 1 : Nat) ∧ v.2.2 = splF b s))) (fun a => a = splF b s) (fun k ⟨v1,v2,v3⟩ ⟨g0,gor⟩ => by
  simp only at g0
  rcases gor with ⟨f,j,g1,g2,g3,g4,g5,g6⟩ | ⟨g1,g2⟩
  ·simp only at g1 g2 g3 g4 g5 g6
   subst g1 g2
   unfold l_spec_SplitByte_0
   dsimp only
   rw [decide_eq_true (by omega),cond_true]
   by_cases hj : j < s.length
   ·have e0 : ((j : Int) == (s.length : Int)) = false := by
     rw [beq_eq_false_iff_ne]
     omega
    rw [e0,cond_false,grd_pos (by omega),getD_nat,byte_eq]
    rw [spl_step b s f j g3 hj] at g6
    by_cases hc : s.getD j 0 = b
    ·rw [decide_eq_true hc,cond_true,grd_pos (by omega),grd_pos (by simp only [List.length_singleton]; omega),w64' (by omega) (by omega),Int.toNat_natCast,Int.toNat_natCast]
     rw [if_pos hc] at g6
     refine .inr ⟨_,k - 1,by omega,rfl,by dsimp only; omega,.inl ⟨j + 1,j + 1,rfl,rfl,by omega,by omega,?_,?_⟩⟩
     ·dsimp only
      rw [List.length_append,List.length_singleton]
      omega
     ·dsimp only
      rw [List.append_assoc]
      exact g6
    ·rw [decide_eq_false hc,cond_false,w64' (by omega) (by omega)]
     rw [if_neg hc] at g6
     exact .inr ⟨_,k - 1,by omega,rfl,by dsimp only; omega,.inl ⟨f,j + 1,rfl,rfl,by omega,by omega,by dsimp only; omega,g6⟩⟩
   ·have hje : j = s.length := by omega
    subst hje
    have e0 : ((s.length : Int) == (s.length : Int)) = true := beq_self_eq_true _
    rw [e0,cond_true,grd_pos (by omega),grd_pos (by simp only [List.length_singleton]; omega),w64' (by omega) (by omega),Int.toNat_natCast,Int.toNat_natCast]
    rw [spl_end] at g6
    refine .inr ⟨_,k - 1,by omega,rfl,by dsimp only; omega,.inr ⟨by dsimp only; omega,?_⟩⟩
    dsimp only
    rw [List.take_of_length_le (by rw [List.length_drop]; exact Nat.le_refl _)]
    exact g6
  ·simp only at g1 g2
   unfold l_spec_SplitByte_0
   dsimp only
   rw [decide_eq_false (by omega),cond_false]
   exact .inl ⟨_,rfl,g2⟩) (s.length + 1) ((0 : Int),(0 : Int),[]) ⟨by dsimp only; omega,.inl ⟨0,0,rfl,rfl,Nat.le_refl _,Nat.zero_le _,Nat.le_refl _,rfl⟩⟩
 rw [h1,Option.bind_some,h2]
def joinF (b : UInt8) : List (List UInt8) → List UInt8
 | [] => []
 | [x] => x
 | x :: y :: r => x ++ b :: joinF b (y :: r)
theorem join_spl (b : UInt8) : ∀ (s cur : List UInt8),joinF b (splA b cur s) = cur ++ s
 | [],cur => by simp [splA,joinF]
 | c :: r,cur => by
  unfold splA
  split
  ·rename_i h
   subst h
   have h1 := (splA_len c r []).1
   have h2 := join_spl c r []
   cases hx : splA c [] r with
   | nil => rw [hx] at h1; simp at h1
   | cons y z =>
    rw [hx] at h2
    unfold joinF
    rw [h2]
    rfl
  ·rw [join_spl b r (cur ++ [c])]
   simp
def dgB : List UInt8 → Bool
 | [] => true
 | c :: r => decide (48 ≤ c.toNat ∧ c.toNat ≤ 57) && dgB r
def dvA (n : Nat) (t : List UInt8) : Nat := t.foldl (fun m c => 10 * m + (c.toNat - 48)) n
theorem dvA_nil (n : Nat) : dvA n [] = n := rfl
theorem dvA_cons (n : Nat) (c : UInt8) (r : List UInt8) : dvA n (c :: r) = dvA (10 * n + (c.toNat - 48)) r := by
 unfold dvA
 rw [List.foldl_cons]
theorem dgB_cons (c : UInt8) (r : List UInt8) : dgB (c :: r) = (decide (48 ≤ c.toNat ∧ c.toNat ≤ 57) && dgB r) := rfl
theorem rd_loop {B : Type} {step : Int × Int → Option ((Int × Int) ⊕ (Int ⊕ B))} (t : List UInt8) (bad : B) (ht : t.length ≤ 12)
  (hs : ∀ (i : Nat) (n : Nat),i < t.length → n < 1000000000000 → step ((n : Int),(i : Int)) = some (bif decide (48 ≤ (t.getD i 0).toNat ∧ (t.getD i 0).toNat ≤ 57) then .inl (((10 * n + ((t.getD i 0).toNat - 48) : Nat) : Int),((i + 1 : Nat) : Int)) else .inr (.inr bad)))
  (hd : ∀ n : Int,step (n,(t.length : Int)) = some (.inr (.inl n))) (k : Nat) : ∀ (i n : Nat),i + k = t.length → n < 10 ^ i → iter step ((n : Int),(i : Int)) = some (bif dgB (t.drop i) then .inl ((dvA n (t.drop i) : Nat) : Int) else .inr bad) := by
 induction k with
 | zero =>
  intro i n hk hn
  have : i = t.length := by omega
  subst this
  rw [List.drop_length]
  exact iter_done (hd _)
 | succ k ih =>
  intro i n hk hn
  have hi : i < t.length := by omega
  have h12 : 10 ^ i ≤ 10 ^ 11 := Nat.pow_le_pow_right (by decide) (by omega)
  have hst := hs i n hi (by omega)
  rw [List.drop_eq_getElem_cons hi]
  have e1 : t.getD i 0 = t[i] := getD_get _ _ _ hi
  rw [e1] at hst
  rw [dgB_cons,dvA_cons]
  by_cases hc : 48 ≤ t[i].toNat ∧ t[i].toNat ≤ 57
  ·rw [decide_eq_true hc,cond_true] at hst
   rw [iter_next hst,decide_eq_true hc,Bool.true_and]
   exact ih (i + 1) _ (by omega) (by rw [Nat.pow_succ]; omega)
  ·rw [decide_eq_false hc,cond_false] at hst
   rw [iter_done hst,decide_eq_false hc,Bool.false_and]
   rfl
theorem dig_val {c : UInt8} {n : Nat} (h : 48 ≤ c.toNat ∧ c.toNat ≤ 57) (hn : n < 1000000000000) :
  IntKind.i64.wrap ((IntKind.i64.wrap ((10 : Int) * (n : Int))) + (IntKind.i64.wrap (IntKind.u8.wrap ((c.toNat : Int) - (48 : Int))))) = ((10 * n + (c.toNat - 48) : Nat) : Int) := by
 rw [w8' (by omega) (by omega),w64' (n := (10 : Int) * (n : Int)) (by omega) (by omega),w64' (n := (c.toNat : Int) - 48) (by omega) (by omega),w64' (by omega) (by omega)]
 omega
def rdF (t : List UInt8) (most : Nat) : Int := if (1 ≤ t.length ∧ t.length ≤ most) ∧ ¬ (1 < t.length ∧ t.getD 0 0 = 48) ∧ dgB t = true then ((dvA 0 t : Nat) : Int) else -1
theorem impl_rd (t : List UInt8) (most : Nat) (hm : most ≤ 12) (ht : t.length ≤ 1048576) : m_impl_readDigits t (most : Int) = some (rdF t most) := by
 unfold m_impl_readDigits rdF
 by_cases h1 : t.length < 1
 ·rw [decide_eq_true (by omega),cond_true,if_neg (by omega)]
 ·by_cases h2 : most < t.length
  ·rw [decide_eq_false (by omega),cond_false,decide_eq_true (by omega),cond_true,if_neg (by omega)]
  ·rw [decide_eq_false (by omega),cond_false,decide_eq_false (by omega),cond_false]
   have fin : ∀ step : Int × Int → Option ((Int × Int) ⊕ (Int ⊕ Int)),(∀ (i : Nat) (n : Nat),i < t.length → n < 1000000000000 → step ((n : Int),(i : Int)) = some (bif decide (48 ≤ (t.getD i 0).toNat ∧ (t.getD i 0).toNat ≤ 57) then .inl (((10 * n + ((t.getD i 0).toNat - 48) : Nat) : Int),((i + 1 : Nat) : Int)) else .inr (.inr (-1 : Int)))) → (∀ n : Int,step (n,(t.length : Int)) = some (.inr (.inl n))) →
     iter step ((0 : Int),(0 : Int)) = some (bif dgB t then .inl ((dvA 0 t : Nat) : Int) else .inr (-1 : Int)) := fun step a b => by
    have := rd_loop t (-1 : Int) (by omega) a b t.length 0 0 (by omega) (by simp)
    simpa using this
   by_cases h3 : 1 < t.length
   ·rw [decide_eq_true (by omega),cond_true,grd_pos (by omega)]
    have e0 : (0 : Int).toNat = 0 := rfl
    have e48 : (48 : Int) = (((48 : UInt8).toNat : Nat) : Int) := rfl
    rw [e0,e48,byte_eq]
    by_cases h4 : t.getD 0 0 = 48
    ·rw [decide_eq_true h4,cond_true,if_neg fun h => h.2.1 ⟨h3,h4⟩]
    ·have hit := fin (l_impl_readDigits_0 t) (fun i n hi hn => by
       unfold l_impl_readDigits_0
       dsimp only
       rw [decide_eq_true (by omega),cond_true,grd_pos (by omega),getD_nat]
       by_cases q1 : 48 ≤ (t.getD i 0).toNat ∧ (t.getD i 0).toNat ≤ 57
       ·rw [decide_eq_false (by omega),cond_false,grd_pos (by omega),decide_eq_false (by omega),cond_false,grd_pos (by omega),dig_val q1 hn,w64' (by omega) (by omega),decide_eq_true q1]
        rfl
       ·rw [decide_eq_false q1]
        by_cases q2 : (t.getD i 0).toNat < 48
        ·rw [decide_eq_true (by omega)]
         rfl
        ·rw [decide_eq_false (by omega),cond_false,grd_pos (by omega),decide_eq_true (by omega)]
         rfl)
      (fun n => by unfold l_impl_readDigits_0; dsimp only; rw [decide_eq_false (by omega)]; rfl)
     rw [decide_eq_false h4,cond_false,hit,Option.bind_some]
     cases hd : dgB t with
     | true => rw [if_pos ⟨by omega,fun h => h4 h.2,rfl⟩]; rfl
     | false => rw [if_neg fun h => by cases h.2.2]; rfl
   ·have hit := fin (l_impl_readDigits_1 t) (fun i n hi hn => by
       unfold l_impl_readDigits_1
       dsimp only
       rw [decide_eq_true (by omega),cond_true,grd_pos (by omega),getD_nat]
       by_cases q1 : 48 ≤ (t.getD i 0).toNat ∧ (t.getD i 0).toNat ≤ 57
       ·rw [decide_eq_false (by omega),cond_false,grd_pos (by omega),decide_eq_false (by omega),cond_false,grd_pos (by omega),dig_val q1 hn,w64' (by omega) (by omega),decide_eq_true q1]
        rfl
       ·rw [decide_eq_false q1]
        by_cases q2 : (t.getD i 0).toNat < 48
        ·rw [decide_eq_true (by omega)]
         rfl
        ·rw [decide_eq_false (by omega),cond_false,grd_pos (by omega),decide_eq_true (by omega)]
         rfl)
      (fun n => by unfold l_impl_readDigits_1; dsimp only; rw [decide_eq_false (by omega)]; rfl)
    rw [decide_eq_false (by omega),cond_false,hit,Option.bind_some]
    cases hd : dgB t with
    | true => rw [if_pos ⟨by omega,fun h => h3 h.1,rfl⟩]; rfl
    | false => rw [if_neg fun h => by cases h.2.2]; rfl
theorem dgB_app : ∀ (x : List UInt8) (c : UInt8),dgB (x ++ [c]) = (dgB x && decide (48 ≤ c.toNat ∧ c.toNat ≤ 57))
 | [],c => by simp [dgB]
 | d :: x,c => by simp [dgB,dgB_app x c,Bool.and_assoc]
theorem dvA_app (x : List UInt8) (n : Nat) (c : UInt8) : dvA n (x ++ [c]) = 10 * dvA n x + (c.toNat - 48) := by
 unfold dvA
 rw [List.foldl_append]
 rfl
theorem dig_byte {d : Nat} (h : d < 10) : (UInt8.ofNat (48 + d)).toNat = 48 + d := by
 rw [UInt8.toNat_ofNat']
 omega
theorem dec_dg : ∀ (k u : Nat),u < 10 ^ (k + 1) → dgB (Lib.decDigits u) = true ∧ dvA 0 (Lib.decDigits u) = u ∧ 1 ≤ (Lib.decDigits u).length
 | 0,u,h => by
  have h1 : u < 10 := by simpa using h
  rw [dec_one h1,dgB_cons,dvA_cons,dvA_nil,dig_byte h1]
  exact ⟨by rw [decide_eq_true (by omega)]; rfl,by omega,by simp⟩
 | k + 1,u,h => by
  by_cases h1 : u < 10
  ·rw [dec_one h1,dgB_cons,dvA_cons,dvA_nil,dig_byte h1]
   exact ⟨by rw [decide_eq_true (by omega)]; rfl,by omega,by simp⟩
  ·rw [Nat.pow_succ] at h
   obtain ⟨a1,a2,a3⟩ := dec_dg k (u / 10) (by omega)
   have hm : u % 10 < 10 := Nat.mod_lt _ (by decide)
   rw [dec_app h1,dgB_app,dvA_app,a1,a2,dig_byte hm,List.length_append]
   exact ⟨by simp; omega,by omega,by omega⟩
theorem dec_head : ∀ (k u : Nat),u < 10 ^ (k + 1) → (Lib.decDigits u).getD 0 0 = 48 → u = 0
 | 0,u,h,e => by
  have h1 : u < 10 := by simpa using h
  rw [dec_one h1] at e
  have e2 : UInt8.ofNat (48 + u) = 48 := e
  have := congrArg UInt8.toNat e2
  rw [dig_byte h1] at this
  have e3 : (48 : UInt8).toNat = 48 := rfl
  omega
 | k + 1,u,h,e => by
  by_cases h1 : u < 10
  ·rw [dec_one h1] at e
   have e2 : UInt8.ofNat (48 + u) = 48 := e
   have := congrArg UInt8.toNat e2
   rw [dig_byte h1] at this
   have e3 : (48 : UInt8).toNat = 48 := rfl
   omega
  ·rw [Nat.pow_succ] at h
   obtain ⟨_,_,a3⟩ := dec_dg k (u / 10) (by omega)
   rw [dec_app h1,List.getD_eq_getElem?_getD,List.getElem?_append_left (by omega),← List.getD_eq_getElem?_getD] at e
   have := dec_head k (u / 10) (by omega) e
   omega
theorem canon : ∀ (n : Nat) (t : List UInt8),t.length = n → 1 ≤ n → dgB t = true → ¬ (1 < t.length ∧ t.getD 0 0 = 48) → Lib.decDigits (dvA 0 t) = t ∧ (t.getD 0 0 ≠ 48 → 1 ≤ dvA 0 t) := by
 intro n
 induction n with
 | zero => intro t _ h; omega
 | succ n ih =>
  intro t hl _ hd hz
  obtain ⟨x,c,rfl⟩ : ∃ x c,t = x ++ [c] := by
   rcases List.eq_nil_or_concat t with h | ⟨x,c,h⟩
   ·subst h
    simp at hl
   ·exact ⟨x,c,by simpa using h⟩
  rw [dgB_app,Bool.and_eq_true,decide_eq_true_eq] at hd
  rw [List.length_append,List.length_singleton] at hl
  have hb : UInt8.ofNat (48 + (c.toNat - 48)) = c := by
   have : 48 + (c.toNat - 48) = c.toNat := by omega
   rw [this]
   exact UInt8.ofNat_toNat
  rw [dvA_app]
  cases x with
  | nil =>
   have e0 : dvA 0 ([] : List UInt8) = 0 := rfl
   rw [e0,Nat.mul_zero,Nat.zero_add,dec_one (by omega),hb]
   refine ⟨rfl,fun h => ?_⟩
   have h2 : c ≠ 48 := h
   have h3 : c.toNat ≠ 48 := fun e => h2 (UInt8.toNat_inj.1 e)
   omega
  | cons d x =>
   have hg : ((d :: x) ++ [c]).getD 0 0 = d := rfl
   have hg2 : (d :: x).getD 0 0 = d := rfl
   rw [hg] at hz
   have hd48 : d ≠ 48 := fun e => hz ⟨by simp,e⟩
   obtain ⟨i1,i2⟩ := ih (d :: x) (by omega) (by simp at hl; omega) hd.1 (by rw [hg2]; exact fun h => hd48 h.2)
   have h1 := i2 (by rw [hg2]; exact hd48)
   have e1 : (10 * dvA 0 (d :: x) + (c.toNat - 48)) / 10 = dvA 0 (d :: x) := by omega
   have e2 : (10 * dvA 0 (d :: x) + (c.toNat - 48)) % 10 = c.toNat - 48 := by omega
   rw [dec_app (by omega),e1,e2,i1,hb]
   exact ⟨rfl,fun _ => by omega⟩
theorem dvA_lt : ∀ (t : List UInt8) (n : Nat),dgB t = true → dvA n t < (n + 1) * 10 ^ t.length
 | [],n,_ => by
  rw [dvA_nil,List.length_nil,Nat.pow_zero]
  omega
 | c :: r,n,h => by
  rw [dgB_cons,Bool.and_eq_true,decide_eq_true_eq] at h
  rw [dvA_cons]
  have := dvA_lt r (10 * n + (c.toNat - 48)) h.2
  refine Nat.lt_of_lt_of_le this ?_
  rw [List.length_cons,Nat.pow_succ,Nat.mul_comm (10 ^ r.length) 10,← Nat.mul_assoc]
  exact Nat.mul_le_mul_right _ (by omega)
theorem dv_bd {t : List UInt8} (h : dgB t = true) (hl : t.length ≤ 12) : dvA 0 t < 1000000000000 := by
 have h1 := dvA_lt t 0 h
 have h2 : 10 ^ t.length ≤ 10 ^ 12 := Nat.pow_le_pow_right (by decide) hl
 omega
theorem rd_val {t : List UInt8} {most : Nat} (h : 0 ≤ rdF t most) : ∃ v : Nat,rdF t most = (v : Int) ∧ t = Lib.decDigits v := by
 unfold rdF at h ⊢
 split at h
 ·rename_i hc
  rw [if_pos hc]
  exact ⟨_,rfl,((canon _ t rfl hc.1.1 hc.2.2 hc.2.1).1).symm⟩
 ·omega
def riF (s : List UInt8) (most : Nat) : Int × Bool :=
 if s.getD 0 0 = 45 then (if rdF (s.drop 1) most ≤ 0 then (0,false) else (-rdF (s.drop 1) most,true)) else (if rdF s most < 0 then (0,false) else (rdF s most,true))
theorem itoa_nn (v : Nat) : Lib.itoa (v : Int) = Lib.decDigits v := by
 unfold Lib.itoa
 rw [if_neg (by omega),Int.toNat_natCast]
theorem itoa_ng {v : Nat} (h : 1 ≤ v) : Lib.itoa (-(v : Int)) = 45 :: Lib.decDigits v := by
 unfold Lib.itoa
 rw [if_pos (by omega),show (-(v : Int)).natAbs = v by omega]
theorem dec_iff {t : List UInt8} (hd : dgB t = true) (h1 : 1 ≤ t.length) (h12 : t.length ≤ 12) : (Lib.decDigits (dvA 0 t) == t) = decide (¬ (1 < t.length ∧ t.getD 0 0 = 48)) := by
 by_cases hz : 1 < t.length ∧ t.getD 0 0 = 48
 ·rw [decide_eq_false (not_not_intro hz),beq_eq_false_iff_ne]
  intro e
  have hb := dv_bd hd h12
  have h0 := dec_head 11 (dvA 0 t) (by omega) (by rw [e]; exact hz.2)
  rw [h0,dec_one (by decide)] at e
  rw [← e] at hz
  simp at hz
 ·rw [decide_eq_true hz,(canon _ t rfl h1 hd hz).1]
  exact beq_self_eq_true _
theorem rdF_in {t : List UInt8} {most : Nat} (h1 : 1 ≤ t.length) (h2 : t.length ≤ most) (hd : dgB t = true) : rdF t most = if ¬ (1 < t.length ∧ t.getD 0 0 = 48) then ((dvA 0 t : Nat) : Int) else -1 := by
 unfold rdF
 by_cases hz : ¬ (1 < t.length ∧ t.getD 0 0 = 48)
 ·rw [if_pos ⟨⟨h1,h2⟩,hz,hd⟩,if_pos hz]
 ·rw [if_neg fun h => hz h.2.1,if_neg hz]
theorem rdF_out {t : List UInt8} {most : Nat} (h : t.length < 1 ∨ most < t.length ∨ dgB t = false) : rdF t most = -1 := by
 unfold rdF
 rw [if_neg]
 rintro ⟨⟨h1,h2⟩,_,h3⟩
 rcases h with h | h | h
 ·omega
 ·omega
 ·rw [h3] at h
  cases h
theorem spec_l1read (s : List UInt8) (most : Nat) (hm : most ≤ 12) (hs : s.length ≤ 1048576) : m_spec_l1Read s (most : Int) = some (riF s most) := by
 unfold m_spec_l1Read riF
 have e45 : (45 : Int) = (((45 : UInt8).toNat : Nat) : Int) := rfl
 have e0 : (0 : Int).toNat = 0 := rfl
 have e1 : (1 : Int).toNat = 1 := rfl
 cases s with
 | nil =>
  rw [decide_eq_false (by simp),cond_false,decide_eq_true (by simp),cond_true,if_neg (by decide),rdF_out (.inl (by simp)),if_pos (by decide)]
 | cons c r =>
  have hg : (c :: r).getD 0 0 = c := rfl
  have hdr : (c :: r).drop 1 = r := rfl
  rw [List.length_cons] at hs
  rw [decide_eq_true (by rw [List.length_cons]; omega),cond_true,grd_pos (by rw [List.length_cons]; omega),e45,e0,e1,hg,hdr,byte_eq]
  by_cases hc : c = 45
  ·rw [decide_eq_true hc,cond_true,if_pos hc,grd_pos (by rw [List.length_cons]; omega)]
   by_cases h1 : r.length < 1
   ·rw [decide_eq_true (by omega),cond_true,rdF_out (.inl h1),if_pos (by decide)]
   ·rw [decide_eq_false (by omega),cond_false]
    by_cases h2 : most < r.length
    ·rw [decide_eq_true (by omega),cond_true,rdF_out (.inr (.inl h2)),if_pos (by decide)]
    ·have hit := rd_loop (step := l_spec_l1Read_0 (c :: r)) r ((0 : Int),false) (by omega) (fun i n hi hn => by
       unfold l_spec_l1Read_0
       dsimp only
       rw [e1,hdr,decide_eq_true (by omega),cond_true,grd_pos (by omega),getD_nat]
       by_cases q1 : 48 ≤ (r.getD i 0).toNat ∧ (r.getD i 0).toNat ≤ 57
       ·rw [decide_eq_false (by omega),cond_false,grd_pos (by omega),decide_eq_false (by omega),cond_false,grd_pos (by omega),dig_val q1 hn,w64' (by omega) (by omega),decide_eq_true q1]
        rfl
       ·rw [decide_eq_false q1]
        by_cases q2 : (r.getD i 0).toNat < 48
        ·rw [decide_eq_true (by omega)]
         rfl
        ·rw [decide_eq_false (by omega),cond_false,grd_pos (by omega),decide_eq_true (by omega)]
         rfl)
      (fun n => by unfold l_spec_l1Read_0; dsimp only; rw [e1,hdr,decide_eq_false (by omega)]; rfl) r.length 0 0 (by omega) (by simp)
     rw [List.drop_zero,Int.natCast_zero] at hit
     rw [decide_eq_false (by omega),cond_false,hit,Option.bind_some]
     cases hd : dgB r with
     | false => rw [rdF_out (.inr (.inr hd)),if_pos (by decide)]; rfl
     | true =>
      have hb := dv_bd hd (by omega)
      rw [cond_true]
      dsimp only
      rw [cond_true,w64' (by omega) (by omega),Int.zero_sub,spec_itoa' _ (by omega) (by omega),Option.bind_some,rdF_in (by omega) (by omega) hd]
      subst hc
      by_cases hv : dvA 0 r = 0
      ·have e2 : (Lib.itoa (-((dvA 0 r : Nat) : Int)) == (45 :: r)) = false := by
        rw [hv,beq_eq_false_iff_ne]
        intro e
        have e3 : Lib.itoa (-((0 : Nat) : Int)) = [48] := by
         rw [Int.natCast_zero,Int.neg_zero]
         exact (itoa_nn 0).trans (dec_one (by decide))
        rw [e3] at e
        exact absurd (List.cons.inj e).1 (by decide)
       rw [e2,Bool.not_false,cond_true,if_pos]
       split <;> omega
      ·rw [itoa_ng (by omega)]
       have e2 : ((45 :: Lib.decDigits (dvA 0 r)) == (45 :: r)) = (Lib.decDigits (dvA 0 r) == r) := by
        cases h : (Lib.decDigits (dvA 0 r) == r) with
        | true => rw [eq_of_beq h]; exact beq_self_eq_true _
        | false =>
         rw [beq_eq_false_iff_ne] at h ⊢
         exact fun e => h (List.cons.inj e).2
       rw [e2,dec_iff hd (by omega) (by omega)]
       by_cases hz : ¬ (1 < r.length ∧ r.getD 0 0 = 48)
       ·rw [decide_eq_true hz,if_pos hz,if_neg (by omega)]
        rfl
       ·rw [decide_eq_false hz,if_neg hz,if_pos (by decide)]
        rfl
  ·rw [decide_eq_false hc,cond_false,if_neg hc,decide_eq_false (by rw [List.length_cons]; omega),cond_false]
   by_cases h2 : most < (c :: r).length
   ·rw [decide_eq_true (by omega),cond_true,rdF_out (.inr (.inl h2)),if_pos (by decide)]
   ·have hit := rd_loop (step := l_spec_l1Read_1 (c :: r)) (c :: r) ((0 : Int),false) (by omega) (fun i n hi hn => by
       unfold l_spec_l1Read_1
       dsimp only
       rw [decide_eq_true (by omega),cond_true,grd_pos (by omega),getD_nat]
       by_cases q1 : 48 ≤ ((c :: r).getD i 0).toNat ∧ ((c :: r).getD i 0).toNat ≤ 57
       ·rw [decide_eq_false (by omega),cond_false,grd_pos (by omega),decide_eq_false (by omega),cond_false,grd_pos (by omega),dig_val q1 hn,w64' (by omega) (by omega),decide_eq_true q1]
        rfl
       ·rw [decide_eq_false q1]
        by_cases q2 : ((c :: r).getD i 0).toNat < 48
        ·rw [decide_eq_true (by omega)]
         rfl
        ·rw [decide_eq_false (by omega),cond_false,grd_pos (by omega),decide_eq_true (by omega)]
         rfl)
      (fun n => by unfold l_spec_l1Read_1; dsimp only; rw [decide_eq_false (by omega)]; rfl) (c :: r).length 0 0 (by omega) (by simp)
    rw [List.drop_zero,Int.natCast_zero] at hit
    rw [decide_eq_false (by omega),cond_false,hit,Option.bind_some]
    cases hd : dgB (c :: r) with
    | false => rw [rdF_out (.inr (.inr hd)),if_pos (by decide)]; rfl
    | true =>
     have hb := dv_bd hd (by omega)
     have h1 : 1 ≤ (c :: r).length := by simp
     rw [cond_true]
     dsimp only
     rw [cond_false,spec_itoa' _ (by omega) (by omega),Option.bind_some,itoa_nn,dec_iff hd h1 (by omega),rdF_in h1 (by omega) hd]
     by_cases hz : ¬ (1 < (c :: r).length ∧ (c :: r).getD 0 0 = 48)
     ·rw [decide_eq_true hz,if_pos hz,if_neg (by omega)]
      rfl
     ·rw [decide_eq_false hz,if_neg hz,if_pos (by decide)]
      rfl
theorem impl_trim (s : List UInt8) : m_strings_TrimPrefix s [45] = some (if s.getD 0 0 = 45 then s.drop 1 else s) := by
 unfold m_strings_TrimPrefix m_stringslite_TrimPrefix m_stringslite_HasPrefix
 cases s with
 | nil => rfl
 | cons c r =>
  have e1 : ((([45] : List UInt8).length : Nat) : Int).toNat = 1 := rfl
  have e2 : (c :: r).take 1 = [c] := rfl
  have e3 : (c :: r).getD 0 0 = c := rfl
  have e5 : ((([45] : List UInt8).length : Nat) : Int) = 1 := rfl
  have e6 : (((c :: r).length : Nat) : Int) = (r.length : Int) + 1 := by rw [List.length_cons]; omega
  rw [decide_eq_true (by rw [e5,e6]; omega),cond_true,grd_pos (by rw [e5,e6]; omega),e1,e2,e3,Option.bind_some]
  by_cases hc : c = 45
  ·subst hc
   rw [beq_self_eq_true,cond_true,grd_pos (by rw [e5,e6]; omega),if_pos rfl]
   rfl
  ·have e4 : ([c] == [45]) = false := by
    rw [beq_eq_false_iff_ne]
    exact fun e => hc (List.cons.inj e).1
   rw [e4,cond_false,if_neg hc]
   rfl
theorem rdF_ge (t : List UInt8) (most : Nat) : -1 ≤ rdF t most := by
 unfold rdF
 split <;> omega
theorem rdF_bd (t : List UInt8) {most : Nat} (hm : most ≤ 12) : rdF t most < 1000000000000 := by
 unfold rdF
 split
 ·rename_i h
  have := dv_bd h.2.2 (by omega)
  omega
 ·omega
theorem impl_pint (s : List UInt8) (hs : s.length ≤ 1048576) : m_impl_ParseInt s = some (riF s 12) := by
 unfold m_impl_ParseInt riF
 rw [impl_trim,Option.bind_some]
 have e12 : (12 : Int) = ((12 : Nat) : Int) := rfl
 by_cases hc : s.getD 0 0 = 45
 ·rw [if_pos hc,if_pos hc]
  have hne : (s.drop 1 == s) = false := by
   rw [beq_eq_false_iff_ne]
   intro e
   have := congrArg List.length e
   rw [List.length_drop] at this
   cases s with
   | nil => exact absurd hc (by decide)
   | cons c r =>
    rw [List.length_cons] at this
    omega
  have hb := rdF_bd (s.drop 1) (most := 12) (by decide)
  have hg := rdF_ge (s.drop 1) 12
  rw [e12,impl_rd _ 12 (by decide) (by rw [List.length_drop]; omega),Option.bind_some,hne]
  by_cases h1 : rdF (s.drop 1) 12 < 0
  ·rw [decide_eq_true h1,cond_true,if_pos (by omega)]
  ·rw [decide_eq_false h1,cond_false,Bool.not_false,cond_true,cond_true]
   by_cases h2 : rdF (s.drop 1) 12 = 0
   ·rw [h2]
    rfl
   ·have e3 : (rdF (s.drop 1) 12 == 0) = false := by
     rw [beq_eq_false_iff_ne]
     exact h2
    rw [e3,cond_false,if_neg (by omega),w64' (by omega) (by omega),Int.zero_sub]
 ·rw [if_neg hc,if_neg hc,e12,impl_rd _ 12 (by decide) hs,Option.bind_some,beq_self_eq_true]
  by_cases h1 : rdF s 12 < 0
  ·rw [decide_eq_true h1,cond_true,if_pos h1]
  ·rw [decide_eq_false h1,cond_false,if_neg h1,Bool.not_true,cond_false,cond_false]
   cases rdF s 12 == 0 <;> rfl
theorem spec_pint (s : List UInt8) (hs : s.length ≤ 1048576) : m_spec_ParseInt s = some (riF s 12) := by
 unfold m_spec_ParseInt
 have e12 : (12 : Int) = ((12 : Nat) : Int) := rfl
 rw [e12,spec_l1read s 12 (by decide) hs]
 rfl
theorem spec_pnum (s : List UInt8) (hs : s.length ≤ 1048576) : m_spec_ParseNumber s = some (if rdF s 6 < 0 then 0 else rdF s 6,decide (0 ≤ rdF s 6)) := by
 unfold m_spec_ParseNumber
 have e6 : (6 : Int) = ((6 : Nat) : Int) := rfl
 rw [e6,spec_l1read s 6 (by decide) hs,Option.bind_some]
 unfold riF
 by_cases hc : s.getD 0 0 = 45
 ·have hn : rdF s 6 = -1 := rdF_out (.inr (.inr (by
   cases s with
   | nil => exact absurd hc (by decide)
   | cons c r =>
    have hc : c = 45 := hc
    subst hc
    rw [dgB_cons,decide_eq_false (by decide)]
    rfl)))
  rw [if_pos hc,hn,decide_eq_false (by decide)]
  have e9 : (if (-1 : Int) < 0 then (0 : Int) else -1) = 0 := rfl
  rw [e9]
  by_cases h1 : rdF (s.drop 1) 6 ≤ 0
  ·rw [if_pos h1]
   rfl
  ·rw [if_neg h1]
   dsimp only
   rw [Bool.not_true,cond_false,decide_eq_true (by omega),cond_true]
 ·rw [if_neg hc]
  by_cases h1 : rdF s 6 < 0
  ·rw [if_pos h1,if_pos h1,decide_eq_false (by omega)]
   rfl
  ·rw [if_neg h1,if_neg h1,decide_eq_true (by omega)]
   dsimp only
   rw [Bool.not_true,cond_false,decide_eq_false h1,cond_false]
theorem impl_pnum (s : List UInt8) (hs : s.length ≤ 1048576) : m_impl_ParseNumber s = some (if rdF s 6 < 0 then 0 else rdF s 6,decide (0 ≤ rdF s 6)) := by
 unfold m_impl_ParseNumber
 have e6 : (6 : Int) = ((6 : Nat) : Int) := rfl
 rw [e6,impl_rd s 6 (by decide) hs]
 rfl
def pcF (w : List UInt8) : Int × Bool := match (List.range 32).find? (fun s => clF s == w) with
 | some s => ((s : Int),true)
 | none => (0,false)
theorem spec_pc (w : List UInt8) : m_spec_ParseCoalition w = some (pcF w) := by
 unfold m_spec_ParseCoalition pcF
 have hit := iter_findc (step := l_spec_ParseCoalition_0 w) (fun i => (i : Int)) 32 (fun s => clF s == w) (.inl ()) (fun s => .inr ((s : Int),true))
  (fun i hi => by
   unfold l_spec_ParseCoalition_0
   rw [decide_eq_true (by omega),cond_true,spec_fc i hi,Option.bind_some,w64' (by omega) (by omega)]
   cases clF i == w <;> rfl)
  (by unfold l_spec_ParseCoalition_0; rw [decide_eq_false (by omega)]; rfl)
 simp only [Int.natCast_zero] at hit
 rw [hit]
 cases (List.range 32).find? (fun s => clF s == w) <;> rfl
theorem impl_pc (w : List UInt8) : m_impl_ParseCoalition w = some (pcF w) := by
 unfold m_impl_ParseCoalition pcF
 have hit := iter_findc (step := l_impl_ParseCoalition_0 w) (fun i => (i : Int)) 32 (fun s => clF s == w) (.inl ()) (fun s => .inr ((s : Int),true))
  (fun i hi => by
   unfold l_impl_ParseCoalition_0
   rw [decide_eq_true (by omega),cond_true,impl_fc i hi,Option.bind_some,w64' (by omega) (by omega)]
   cases clF i == w <;> rfl)
  (by unfold l_impl_ParseCoalition_0; rw [decide_eq_false (by omega)]; rfl)
 simp only [Int.natCast_zero] at hit
 rw [hit]
 cases (List.range 32).find? (fun s => clF s == w) <;> rfl
theorem pcF_bd (w : List UInt8) : 0 ≤ (pcF w).1 ∧ (pcF w).1 < 32 := by
 unfold pcF
 split
 ·rename_i s h
  have := List.mem_range.1 (List.mem_of_find?_eq_some h)
  dsimp only
  omega
 ·decide
def pl7 : List UInt8 := [112,108,97,121,101,114,115]
def flF (line : List UInt8) : Option Nat := (List.range 5).find? fun k => line == pl7 ++ 32 :: [UInt8.ofNat (49 + k)]
theorem flF_some {line : List UInt8} {k : Nat} (h : flF line = some k) : k < 5 ∧ line = pl7 ++ 32 :: [UInt8.ofNat (49 + k)] := by
 unfold flF at h
 have h2 := List.find?_some (p := fun k => line == pl7 ++ 32 :: [UInt8.ofNat (49 + k)]) h
 exact ⟨List.mem_range.1 (List.mem_of_find?_eq_some h),eq_of_beq h2⟩
theorem flF_at : ∀ k : Fin 5,flF (pl7 ++ 32 :: [UInt8.ofNat (49 + k.val)]) = some k.val := by decide +kernel
theorem rd_at : ∀ k : Fin 5,rdF [UInt8.ofNat (49 + k.val)] 6 = (k.val : Int) + 1 := by decide +kernel
theorem spl_at : ∀ k : Fin 5,splF 32 (pl7 ++ 32 :: [UInt8.ofNat (49 + k.val)]) = [pl7,[UInt8.ofNat (49 + k.val)]] := by decide +kernel
theorem rd_15 {t : List UInt8} (h1 : 1 ≤ rdF t 6) (h2 : rdF t 6 ≤ 5) : ∃ k : Fin 5,t = [UInt8.ofNat (49 + k.val)] ∧ rdF t 6 = (k.val : Int) + 1 := by
 obtain ⟨v,e1,e2⟩ := rd_val (t := t) (most := 6) (by omega)
 have e3 : t = [UInt8.ofNat (49 + (v - 1))] := by
  rw [e2,dec_one (by omega),show 48 + v = 49 + (v - 1) by omega]
 exact ⟨⟨v - 1,by omega⟩,e3,by dsimp only; omega⟩
abbrev fstR (o : Option Nat) : Int × Bool × List Int := match o with
 | some k => ((k : Int) + 1,true,List.replicate (2 ^ (k + 1)) 0)
 | none => (0,false,[])
theorem spec_first (line : List UInt8) (hs : line.length ≤ 1048576) : m_spec_l9First line = some (fstR (flF line)) := by
 have hroom : (room : Nat) = 1099511627776 := rfl
 unfold m_spec_l9First
 have e32 : (32 : Int) = (((32 : UInt8).toNat : Nat) : Int) := rfl
 have e0 : (0 : Int).toNat = 0 := rfl
 have e1 : (1 : Int).toNat = 1 := rfl
 rw [e32,spec_spl line 32 hs,Option.bind_some,e0,e1]
 -- either all is as it must be,or not
 have none : (∀ k,flF line ≠ some k) → flF line = none := fun h => by
  cases hf : flF line with
  | none => rfl
  | some k => exact absurd hf (h k)
 have back : ∀ k,flF line = some k → splF 32 line = [pl7,[UInt8.ofNat (49 + k)]] ∧ rdF [UInt8.ofNat (49 + k)] 6 = (k : Int) + 1 ∧ k < 5 := fun k h => by
  obtain ⟨h1,h2⟩ := flF_some h
  rw [h2]
  exact ⟨spl_at ⟨k,h1⟩,rd_at ⟨k,h1⟩,h1⟩
 by_cases h2 : (splF 32 line).length = 2
 ·have e2 : (((splF 32 line).length : Int) != 2) = false := by rw [h2]; rfl
  obtain ⟨x,y,hxy⟩ : ∃ x y,splF 32 line = [x,y] := by
   match hsp : splF 32 line,h2 with
   | [x,y],_ => exact ⟨x,y,rfl⟩
  have hj := join_spl 32 line []
  have hj2 : joinF 32 [x,y] = line := by rw [← hxy]; exact hj
  have hj3 : line = x ++ 32 :: y := hj2.symm
  have hyl : y.length ≤ 1048576 := by
   rw [hj3,List.length_append,List.length_cons] at hs
   omega
  have hx : ([x,y] : List (List UInt8)).getD 0 [] = x := rfl
  have hy : ([x,y] : List (List UInt8)).getD 1 [] = y := rfl
  rw [e2,cond_false,hxy,grd_pos (by simp),hx,hy]
  by_cases h3 : x = pl7
  ·have e3 : (x == [112,108,97,121,101,114,115]) = true := by rw [h3]; rfl
   rw [e3,Bool.not_true,cond_false,grd_pos (by simp),spec_pnum y hyl,Option.bind_some]
   dsimp only
   by_cases h4 : 0 ≤ rdF y 6
   ·rw [decide_eq_true h4,Bool.not_true,cond_false,if_neg (by omega),in_eq,Option.bind_some]
    by_cases h5 : 1 ≤ rdF y 6 ∧ rdF y 6 ≤ 5
    ·obtain ⟨k,e5,e6⟩ := rd_15 h5.1 h5.2
     have e7 : flF line = some k.val := by
      rw [hj3,h3,e5]
      exact flF_at k
     have hk := k.isLt
     have e8 : ((k.val : Int) + 1).toNat = k.val + 1 := by omega
     have e9 : (2 : Int) ^ (k.val + 1) = ((2 ^ (k.val + 1) : Nat) : Int) := by
      rw [Int.natCast_pow]
      rfl
     have e10 : 2 ^ (k.val + 1) ≤ 2 ^ 5 := Nat.pow_le_pow_right (by decide) (by omega)
     revert e9
     generalize hp : 2 ^ (k.val + 1) = p at e10 ⊢
     intro e9
     rw [decide_eq_true h5,Bool.not_true,cond_false,count_eq _ h5.1 h5.2,Option.bind_some,e6,e8,e9,grd_pos (by omega),Int.toNat_natCast,e7]
     subst hp
     rfl
    ·rw [decide_eq_false h5,none fun k hk => ?_]
     ·rfl
     ·obtain ⟨b1,b2,b3⟩ := back k hk
      rw [hxy] at b1
      simp only [List.cons.injEq,and_true] at b1
      rw [b1.2,b2] at h5
      omega
   ·rw [decide_eq_false h4,none fun k hk => ?_]
    ·rfl
    ·obtain ⟨b1,b2,b3⟩ := back k hk
     rw [hxy] at b1
     simp only [List.cons.injEq,and_true] at b1
     rw [b1.2,b2] at h4
     omega
  ·have e3 : (x == [112,108,97,121,101,114,115]) = false := by
    rw [beq_eq_false_iff_ne]
    exact h3
   rw [e3,none fun k hk => ?_]
   ·rfl
   ·obtain ⟨b1,_,_⟩ := back k hk
    rw [hxy] at b1
    simp only [List.cons.injEq,and_true] at b1
    exact h3 b1.1
 ·have e2 : (((splF 32 line).length : Int) != 2) = true := by
   simp only [bne_iff_ne,ne_eq]
   omega
  rw [e2,none fun k hk => ?_]
  ·rfl
  ·obtain ⟨b1,_,_⟩ := back k hk
   rw [b1] at h2
   simp at h2
theorem impl_first (line : List UInt8) (hs : line.length ≤ 1048576) : ∃ n,m_impl_readPlayers line = some (n,(flF line).isSome) ∧ ∀ k,flF line = some k → n = (k : Int) + 1 := by
 have none : (∀ k,flF line ≠ some k) → flF line = none := fun h => by
  cases hf : flF line with
  | none => rfl
  | some k => exact absurd hf (h k)
 have pre : ∀ k,flF line = some k → line.length = 9 ∧ line.take 8 = [112,108,97,121,101,114,115,32] ∧ line.drop 8 = [UInt8.ofNat (49 + k)] ∧ rdF [UInt8.ofNat (49 + k)] 6 = (k : Int) + 1 ∧ k < 5 := fun k h => by
  obtain ⟨h1,h2⟩ := flF_some h
  rw [h2]
  exact ⟨rfl,rfl,rfl,rd_at ⟨k,h1⟩,h1⟩
 unfold m_impl_readPlayers m_strings_CutPrefix m_stringslite_CutPrefix m_stringslite_HasPrefix
 have e8 : ((([112,108,97,121,101,114,115,32] : List UInt8).length : Nat) : Int) = 8 := rfl
 have e8' : (8 : Int).toNat = 8 := rfl
 rw [e8,e8']
 by_cases h1 : 8 ≤ line.length
 ·rw [decide_eq_true (by omega),cond_true,grd_pos (by omega),Option.bind_some]
  by_cases h2 : line.take 8 = [112,108,97,121,101,114,115,32]
  ·have hl : line = pl7 ++ 32 :: line.drop 8 := by
    have := List.take_append_drop 8 line
    rw [h2] at this
    exact this.symm
   have e2 : (line.take 8 == [112,108,97,121,101,114,115,32]) = true := by rw [h2]; rfl
   rw [e2,Bool.not_true,cond_false,grd_pos (by omega),Option.bind_some]
   dsimp only
   rw [Option.bind_some]
   dsimp only
   rw [impl_pnum _ (by rw [List.length_drop]; omega),Option.bind_some]
   dsimp only
   rw [cond_true]
   by_cases h4 : 0 ≤ rdF (line.drop 8) 6
   ·rw [decide_eq_true h4,cond_true,if_neg (by omega),within_eq,Option.bind_some]
    by_cases h5 : 1 ≤ rdF (line.drop 8) 6 ∧ rdF (line.drop 8) 6 ≤ 5
    ·obtain ⟨k,e5,e6⟩ := rd_15 h5.1 h5.2
     have e7 : flF line = some k.val := by
      rw [hl,e5]
      exact flF_at k
     rw [decide_eq_true h5,e7,e6]
     refine ⟨_,rfl,fun j hj => ?_⟩
     cases hj
     rfl
    ·have e7 : flF line = Option.none := none fun k hk => by
      obtain ⟨_,_,b1,b2,b3⟩ := pre k hk
      rw [b1,b2] at h5
      omega
     rw [decide_eq_false h5,e7]
     exact ⟨_,rfl,fun j hj => by cases hj⟩
   ·have e7 : flF line = Option.none := none fun k hk => by
     obtain ⟨_,_,b1,b2,b3⟩ := pre k hk
     rw [b1,b2] at h4
     omega
    rw [decide_eq_false h4,e7]
    exact ⟨_,rfl,fun j hj => by cases hj⟩
  ·have e2 : (line.take 8 == [112,108,97,121,101,114,115,32]) = false := by
    rw [beq_eq_false_iff_ne]
    exact h2
   have e7 : flF line = Option.none := none fun k hk => h2 (pre k hk).2.1
   rw [e2,Bool.not_false,cond_true,Option.bind_some]
   dsimp only
   rw [Option.bind_some]
   dsimp only
   rw [impl_pnum _ hs,Option.bind_some]
   dsimp only
   rw [cond_false,e7]
   exact ⟨_,rfl,fun j hj => by cases hj⟩
 ·have e7 : flF line = Option.none := none fun k hk => by
   have := (pre k hk).1
   omega
  rw [decide_eq_false (by omega),cond_false,Option.bind_some,Bool.not_false,cond_true,Option.bind_some]
  dsimp only
  rw [Option.bind_some]
  dsimp only
  rw [impl_pnum _ hs,Option.bind_some]
  dsimp only
  rw [cond_false,e7]
  exact ⟨_,rfl,fun j hj => by cases hj⟩
def lineP (line : List UInt8) (after : Int) (L : Nat) : Option (Int × Int) :=
 if (splF 32 line).length = 2 ∧ (pcF ((splF 32 line).getD 0 [])).2 = true ∧ (riF ((splF 32 line).getD 1 []) 12).2 = true ∧ after < (pcF ((splF 32 line).getD 0 [])).1 ∧ (pcF ((splF 32 line).getD 0 [])).1 < L ∧ (riF ((splF 32 line).getD 1 []) 12).1 ≠ 0 ∧ (-500 ≤ (riF ((splF 32 line).getD 1 []) 12).1 ∧ (riF ((splF 32 line).getD 1 []) 12).1 ≤ 500)
 then some ((pcF ((splF 32 line).getD 0 [])).1,(riF ((splF 32 line).getD 1 []) 12).1) else none
theorem spl_part_len {line : List UInt8} {x y : List UInt8} (h : splF 32 line = [x,y]) : x.length ≤ line.length ∧ y.length ≤ line.length := by
 have hj := join_spl 32 line []
 have hj2 : joinF 32 [x,y] = line := by rw [← h]; exact hj
 have hj3 : line = x ++ 32 :: y := hj2.symm
 rw [hj3,List.length_append,List.length_cons]
 omega
theorem spec_line (n : Int) (vals : List Int) (line : List UInt8) (after : Int) (hs : line.length ≤ 1048576) : ∃ s v b,m_spec_l9Line n vals line after = some (s,v,b) ∧ (lineP line after vals.length = if b = true then some (s,v) else none) ∧ (b = true → 0 ≤ s ∧ s < vals.length ∧ after < s) := by
 unfold m_spec_l9Line lineP
 have e32 : (32 : Int) = (((32 : UInt8).toNat : Nat) : Int) := rfl
 have e0 : (0 : Int).toNat = 0 := rfl
 have e1 : (1 : Int).toNat = 1 := rfl
 rw [e32,spec_spl line 32 hs,Option.bind_some,e0,e1]
 by_cases h2 : (splF 32 line).length = 2
 ·have e2 : (((splF 32 line).length : Int) != 2) = false := by rw [h2]; rfl
  obtain ⟨x,y,hxy⟩ : ∃ x y,splF 32 line = [x,y] := by
   match hsp : splF 32 line,h2 with
   | [x,y],_ => exact ⟨x,y,rfl⟩
  have hyl := (spl_part_len hxy).2
  have hx : ([x,y] : List (List UInt8)).getD 0 [] = x := rfl
  have hy : ([x,y] : List (List UInt8)).getD 1 [] = y := rfl
  have hb := pcF_bd x
  rw [e2,cond_false,hxy,grd_pos (by simp),hx,hy,spec_pc,Option.bind_some]
  rcases hpc : pcF x with ⟨s,b1⟩
  rw [hpc] at hb
  dsimp only at hb ⊢
  rw [grd_pos (by simp),spec_pint y (by omega),Option.bind_some]
  rcases hri : riF y 12 with ⟨v,b2⟩
  dsimp only
  cases b1 with
  | false => exact ⟨s,v,false,rfl,by rw [if_neg (by simp),if_neg (by simp)],fun h => by cases h⟩
  | true =>
   cases b2 with
   | false => exact ⟨s,v,false,rfl,by rw [if_neg (by simp),if_neg (by simp)],fun h => by cases h⟩
   | true =>
    rw [cond_true,cond_true]
    by_cases h3 : after < s
    ·rw [decide_eq_true (show s > after from h3),cond_true]
     by_cases h4 : s < (vals.length : Int)
     ·rw [decide_eq_true h4,cond_true]
      by_cases h5 : v = 0
      ·subst h5
       exact ⟨s,0,false,rfl,by rw [if_neg (by simp),if_neg (by simp)],fun h => by cases h⟩
      ·have e5 : (v != 0) = true := by simpa using h5
       rw [e5,cond_true,in_eq,Option.bind_some]
       by_cases h6 : -500 ≤ v ∧ v ≤ 500
       ·rw [decide_eq_true h6]
        exact ⟨s,v,true,rfl,by rw [if_pos ⟨rfl,rfl,rfl,h3,h4,h5,h6⟩,if_pos rfl],fun _ => ⟨hb.1,h4,h3⟩⟩
       ·rw [decide_eq_false h6]
        exact ⟨s,v,false,rfl,by rw [if_neg fun h => h6 h.2.2.2.2.2.2,if_neg (by simp)],fun h => by cases h⟩
     ·rw [decide_eq_false h4]
      exact ⟨s,v,false,rfl,by rw [if_neg fun h => h4 h.2.2.2.2.1,if_neg (by simp)],fun h => by cases h⟩
    ·rw [decide_eq_false (show ¬ s > after from h3)]
     exact ⟨s,v,false,rfl,by rw [if_neg fun h => h3 h.2.2.2.1,if_neg (by simp)],fun h => by cases h⟩
 ·have e2 : (((splF 32 line).length : Int) != 2) = true := by
   simp only [bne_iff_ne,ne_eq]
   omega
  rw [e2]
  exact ⟨0,0,false,rfl,by rw [if_neg fun h => h2 h.1,if_neg (by simp)],fun h => by cases h⟩
def goF : List (List UInt8) → Nat → Int → List Int → List Int ⊕ (Int × Int × List Int)
 | [],_,_,vals => .inl vals
 | line :: r,k,after,vals => match lineP line after vals.length with
  | none => .inr (0,(k : Int),[])
  | some (s,v) => goF r (k + 1) s (vals.set s.toNat v)
theorem lineP_bd {line : List UInt8} {after : Int} {L : Nat} {s v : Int} (h : lineP line after L = some (s,v)) : after < s ∧ s < L := by
 unfold lineP at h
 split at h
 ·rename_i hc
  simp only [Option.some.injEq,Prod.mk.injEq] at h
  rw [← h.1]
  exact ⟨hc.2.2.2.1,hc.2.2.2.2.1⟩
 ·cases h
theorem go_loop {step : Int × Int × List Int → Option ((Int × Int × List Int) ⊕ (List Int ⊕ (Int × Int × List Int)))} (ls : List (List UInt8)) (c : Nat)
  (hs : ∀ (i : Nat) (after : Int) (vals : List Int),i < ls.length → 0 ≤ after → vals.length ≤ 32 → step (after,(i : Int),vals) = some (match lineP (ls.getD i []) after vals.length with
   | none => .inr (.inr (0,((i + c : Nat) : Int),[]))
   | some (s,v) => .inl (s,((i + 1 : Nat) : Int),vals.set s.toNat v)))
  (hd : ∀ (after : Int) (vals : List Int),step (after,(ls.length : Int),vals) = some (.inr (.inl vals))) (k : Nat) :
  ∀ (i : Nat) (after : Int) (vals : List Int),i + k = ls.length → 0 ≤ after → vals.length ≤ 32 → iter step (after,(i : Int),vals) = some (goF (ls.drop i) (i + c) after vals) := by
 induction k with
 | zero =>
  intro i after vals hk _ _
  have : i = ls.length := by omega
  subst this
  rw [List.drop_length]
  exact iter_done (hd _ _)
 | succ k ih =>
  intro i after vals hk h0 hv
  have hi : i < ls.length := by omega
  have hst := hs i after vals hi h0 hv
  rw [getD_get _ _ _ hi] at hst
  rw [List.drop_eq_getElem_cons hi]
  unfold goF
  cases hl : lineP ls[i] after vals.length with
  | none =>
   rw [hl] at hst
   exact iter_done hst
  | some p =>
   obtain ⟨s,v⟩ := p
   have hb := lineP_bd hl
   rw [hl] at hst
   rw [iter_next hst,ih (i + 1) s _ (by omega) (by omega) (by rw [List.length_set]; exact hv),show i + 1 + c = i + c + 1 by omega]
def lnsF (t : List UInt8) : List (List UInt8) := if (splF 10 t).getD ((splF 10 t).length - 1) [] = [] then (splF 10 t).take ((splF 10 t).length - 1) else splF 10 t
noncomputable def pgF (t : List UInt8) : Int × Int × List Int :=
 if (lnsF t).length = 0 then (0,0,[]) else match flF ((lnsF t).getD 0 []) with
  | none => (0,0,[])
  | some k => match goF ((lnsF t).drop 1) 1 0 (List.replicate (2 ^ (k + 1)) 0) with
   | .inr r => r
   | .inl vals => if fgF ((k : Int) + 1) vals = t then ((k : Int) + 1,-1,vals) else (0,((lnsF t).length : Int),[])
theorem goF_len : ∀ (ls : List (List UInt8)) (k : Nat) (after : Int) (vals : List Int),match goF ls k after vals with
  | .inl r => r.length = vals.length
  | .inr (a,b,r) => a = 0 ∧ r = [] ∧ 0 ≤ b
 | [],k,after,vals => rfl
 | line :: r,k,after,vals => by
  unfold goF
  cases lineP line after vals.length with
  | none => exact ⟨rfl,rfl,by omega⟩
  | some p =>
   obtain ⟨s,v⟩ := p
   have := goF_len r (k + 1) s (vals.set s.toNat v)
   rw [List.length_set] at this
   exact this
theorem spl_mem_len (b : UInt8) : ∀ (s cur : List UInt8) (x : List UInt8),x ∈ splA b cur s → x.length ≤ cur.length + s.length
 | [],cur,x,h => by
  unfold splA at h
  rw [List.mem_singleton] at h
  subst h
  omega
 | c :: r,cur,x,h => by
  rw [splA_cons] at h
  split at h
  ·rcases List.mem_cons.1 h with rfl | h
   ·omega
   ·have := spl_mem_len b r [] x h
    rw [List.length_cons]
    simp only [List.length_nil] at this
    omega
  ·have := spl_mem_len b r (cur ++ [c]) x h
   rw [List.length_append,List.length_singleton] at this
   rw [List.length_cons]
   omega
theorem lns_sub (t : List UInt8) : (lnsF t).length ≤ t.length + 1 ∧ ∀ i,((lnsF t).getD i []).length ≤ t.length := by
 have hl := (splA_len 10 t []).2
 have hm : ∀ x,x ∈ splF 10 t → x.length ≤ t.length := fun x hx => by
  have := spl_mem_len 10 t [] x hx
  simpa using this
 have key : ∀ ls : List (List UInt8),(∀ x ∈ ls,x ∈ splF 10 t) → ∀ i,(ls.getD i []).length ≤ t.length := fun ls h i => by
  by_cases hi : i < ls.length
  ·rw [getD_get _ _ _ hi]
   exact hm _ (h _ (List.getElem_mem hi))
  ·rw [List.getD_eq_getElem?_getD,List.getElem?_eq_none (by omega)]
   simp
 unfold lnsF
 split
 ·refine ⟨?_,key _ fun x hx => List.mem_of_mem_take hx⟩
  rw [List.length_take]
  unfold splF
  omega
 ·exact ⟨hl,key _ fun x hx => hx⟩
theorem beq_dec {α : Type} [BEq α] [LawfulBEq α] [DecidableEq α] (x y : α) : (x == y) = decide (x = y) := by
 by_cases h : x = y
 ·subst h
  simp
 ·simp [h]
theorem impl_sh (k : Nat) (h : k < 5) : (IntKind.i64.wrap ((1 : Int) * 2 ^ (min ((k : Int) + 1).toNat 64))) = ((2 ^ (k + 1) : Nat) : Int) := by
 have e1 : min ((k : Int) + 1).toNat 64 = k + 1 := by omega
 have e10 : 2 ^ (k + 1) ≤ 2 ^ 5 := Nat.pow_le_pow_right (by decide) (by omega)
 have e9 : (2 : Int) ^ (k + 1) = ((2 ^ (k + 1) : Nat) : Int) := by
  rw [Int.natCast_pow]
  rfl
 rw [e1,Int.one_mul,e9]
 generalize 2 ^ (k + 1) = p at e10
 rw [w64' (by omega) (by omega)]
theorem spec_pg (t : List UInt8) (hs : t.length ≤ 1048576) : m_spec_ParseGame t = some (pgF t) := by
 have hroom : (room : Nat) = 1099511627776 := rfl
 unfold m_spec_ParseGame pgF
 have e10 : (10 : Int) = (((10 : UInt8).toNat : Nat) : Int) := rfl
 have e0 : (0 : Int).toNat = 0 := rfl
 have hl := splA_len 10 t []
 have hl1 : 1 ≤ (splF 10 t).length := hl.1
 have hl2 : (splF 10 t).length ≤ t.length + 1 := hl.2
 have ew : IntKind.i64.wrap (((splF 10 t).length : Int) - (1 : Int)) = (((splF 10 t).length - 1 : Nat) : Int) := by
  rw [w64' (by omega) (by omega)]
  omega
 obtain ⟨q1,q2⟩ := lns_sub t
 rw [e10,spec_spl t 10 hs,Option.bind_some,ew,grd_pos (by omega),Int.toNat_natCast,beq_dec,e0]
 by_cases hlast : (splF 10 t).getD ((splF 10 t).length - 1) [] = []
 ·have eln : lnsF t = (splF 10 t).take ((splF 10 t).length - 1) := by
   unfold lnsF
   rw [if_pos hlast]
  rw [decide_eq_true hlast,cond_true,grd_pos (by omega),← eln]
  by_cases h0 : (lnsF t).length = 0
  ·have e1 : (((lnsF t).length : Int) == 0) = true := by rw [h0]; rfl
   rw [e1,cond_true,if_pos h0]
  ·have e1 : (((lnsF t).length : Int) == 0) = false := by
    rw [beq_eq_false_iff_ne]
    omega
   rw [e1,cond_false,if_neg h0,grd_pos (by omega),spec_first _ (by have := q2 0; omega),Option.bind_some]
   cases hf : flF ((lnsF t).getD 0 []) with
   | none => rfl
   | some k =>
    have hk := (flF_some hf).1
    have e32 : 2 ^ (k + 1) ≤ 2 ^ 5 := Nat.pow_le_pow_right (by decide) (by omega)
    have hit := go_loop (step := l_spec_ParseGame_0 (splF 10 t) ((k : Int) + 1)) (lnsF t) 0 (fun i after vals hi ha hv => by
      obtain ⟨s,v,b,c1,c2,c3⟩ := spec_line ((k : Int) + 1) vals ((lnsF t).getD i []) after (by have := q2 i; omega)
      unfold l_spec_ParseGame_0
      dsimp only
      rw [ew,Int.toNat_natCast,← eln,decide_eq_true (by omega),cond_true,grd_pos (by omega),Int.toNat_natCast,c1,Option.bind_some,c2]
      cases b with
      | false => rfl
      | true =>
       obtain ⟨d1,d2,_⟩ := c3 rfl
       dsimp only
       rw [Bool.not_true,cond_false,grd_pos ⟨d1,d2⟩,w64' (by omega) (by omega)]
       rfl)
     (fun after vals => by
      unfold l_spec_ParseGame_0
      dsimp only
      rw [ew,Int.toNat_natCast,← eln,decide_eq_false (by omega)]
      rfl) ((lnsF t).length - 1) 1 0 (List.replicate (2 ^ (k + 1)) 0) (by omega) (by decide) (by rw [List.length_replicate]; omega)
    have e11 : ((1 : Nat) : Int) = 1 := rfl
    rw [e11] at hit
    unfold fstR
    dsimp only
    rw [Bool.not_true,cond_false,hit,Option.bind_some]
    have hgl := goF_len ((lnsF t).drop 1) (1 + 0) 0 (List.replicate (2 ^ (k + 1)) 0)
    have e12 : (1 + 0 : Nat) = 1 := rfl
    rw [e12] at hgl ⊢
    cases hg : goF ((lnsF t).drop 1) 1 0 (List.replicate (2 ^ (k + 1)) 0) with
    | inr r => rfl
    | inl vals =>
     rw [hg] at hgl
     dsimp only at hgl ⊢
     rw [List.length_replicate] at hgl
     rw [spec_fg _ vals (by omega),Option.bind_some,beq_dec]
     by_cases he : fgF ((k : Int) + 1) vals = t
     ·rw [decide_eq_true he,if_pos he]
      rfl
     ·rw [decide_eq_false he,if_neg he]
      rfl
 ·have eln : lnsF t = splF 10 t := by
   unfold lnsF
   rw [if_neg hlast]
  rw [decide_eq_false hlast,cond_false,← eln]
  by_cases h0 : (lnsF t).length = 0
  ·have e1 : (((lnsF t).length : Int) == 0) = true := by rw [h0]; rfl
   rw [e1,cond_true,if_pos h0]
  ·have e1 : (((lnsF t).length : Int) == 0) = false := by
    rw [beq_eq_false_iff_ne]
    omega
   rw [e1,cond_false,if_neg h0,grd_pos (by omega),spec_first _ (by have := q2 0; omega),Option.bind_some]
   cases hf : flF ((lnsF t).getD 0 []) with
   | none => rfl
   | some k =>
    have hk := (flF_some hf).1
    have e32 : 2 ^ (k + 1) ≤ 2 ^ 5 := Nat.pow_le_pow_right (by decide) (by omega)
    have hit := go_loop (step := l_spec_ParseGame_1 (lnsF t) ((k : Int) + 1)) (lnsF t) 0 (fun i after vals hi ha hv => by
      obtain ⟨s,v,b,c1,c2,c3⟩ := spec_line ((k : Int) + 1) vals ((lnsF t).getD i []) after (by have := q2 i; omega)
      unfold l_spec_ParseGame_1
      dsimp only
      rw [decide_eq_true (by omega),cond_true,grd_pos (by omega),Int.toNat_natCast,c1,Option.bind_some,c2]
      cases b with
      | false => rfl
      | true =>
       obtain ⟨d1,d2,_⟩ := c3 rfl
       dsimp only
       rw [Bool.not_true,cond_false,grd_pos ⟨d1,d2⟩,w64' (by omega) (by omega)]
       rfl)
     (fun after vals => by
      unfold l_spec_ParseGame_1
      dsimp only
      rw [decide_eq_false (by omega)]
      rfl) ((lnsF t).length - 1) 1 0 (List.replicate (2 ^ (k + 1)) 0) (by omega) (by decide) (by rw [List.length_replicate]; omega)
    have e11 : ((1 : Nat) : Int) = 1 := rfl
    rw [e11] at hit
    unfold fstR
    dsimp only
    rw [Bool.not_true,cond_false,hit,Option.bind_some]
    have hgl := goF_len ((lnsF t).drop 1) (1 + 0) 0 (List.replicate (2 ^ (k + 1)) 0)
    have e12 : (1 + 0 : Nat) = 1 := rfl
    rw [e12] at hgl ⊢
    cases hg : goF ((lnsF t).drop 1) 1 0 (List.replicate (2 ^ (k + 1)) 0) with
    | inr r => rfl
    | inl vals =>
     rw [hg] at hgl
     dsimp only at hgl ⊢
     rw [List.length_replicate] at hgl
     rw [spec_fg _ vals (by omega),Option.bind_some,beq_dec]
     by_cases he : fgF ((k : Int) + 1) vals = t
     ·rw [decide_eq_true he,if_pos he]
      rfl
     ·rw [decide_eq_false he,if_neg he]
      rfl
theorem impl_line (line : List UInt8) (after i : Int) (vals : List Int) (hs : line.length ≤ 1048576) :
  (((m_impl_SplitByte line (32 : Int)).bind fun v7 =>
bif (v7.length : Int) != (2 : Int) then
(some (.inr (.inr (0,IntKind.i64.wrap (i + (1 : Int)),[]))))
else
(grd ((0 : Int) ≤ (0 : Int) ∧ (0 : Int) < (v7.length : Int)) <|
(m_impl_ParseCoalition (v7.getD ((0 : Int).toNat) [])).bind fun (v8,v9) =>
grd ((0 : Int) ≤ (1 : Int) ∧ (1 : Int) < (v7.length : Int)) <|
(m_impl_ParseInt (v7.getD ((1 : Int).toNat) [])).bind fun (v10,v11) =>
bif !v9 then
(some (.inr (.inr (0,IntKind.i64.wrap (i + (1 : Int)),[]))))
else
(bif !v11 then
(some (.inr (.inr (0,IntKind.i64.wrap (i + (1 : Int)),[]))))
else
(bif decide (v8 ≤ after) then
(some (.inr (.inr (0,IntKind.i64.wrap (i + (1 : Int)),[]))))
else
(bif decide (v8 ≥ (vals.length : Int)) then
(some (.inr (.inr (0,IntKind.i64.wrap (i + (1 : Int)),[]))))
else
(bif v10 == (0 : Int) then
(some (.inr (.inr (0,IntKind.i64.wrap (i + (1 : Int)),[]))))
else
((m_impl_within v10 (-500 : Int) (500 : Int)).bind fun v12 =>
bif !v12 then
(some (.inr (.inr (0,IntKind.i64.wrap (i + (1 : Int)),[]))))
else
(grd ((0 : Int) ≤ v8 ∧ v8 < (vals.length : Int)) <|
some (.inl (v8,IntKind.i64.wrap (i + (1 : Int)),vals.set v8.toNat v10)))))))))) : Option ((Int × Int × List Int) ⊕ (List Int ⊕ (Int × Int × List Int)))) = some (match lineP line after vals.length with
   | none => .inr (.inr (0,IntKind.i64.wrap (i + (1 : Int)),[]))
   | some (s,v) => .inl (s,IntKind.i64.wrap (i + (1 : Int)),vals.set s.toNat v)) := by
 unfold lineP
 have e32 : (32 : Int) = (((32 : UInt8).toNat : Nat) : Int) := rfl
 have e0 : (0 : Int).toNat = 0 := rfl
 have e1 : (1 : Int).toNat = 1 := rfl
 rw [e32,impl_spl line 32 hs,Option.bind_some,e0,e1]
 by_cases h2 : (splF 32 line).length = 2
 ·have e2 : (((splF 32 line).length : Int) != 2) = false := by rw [h2]; rfl
  obtain ⟨x,y,hxy⟩ : ∃ x y,splF 32 line = [x,y] := by
   match hsp : splF 32 line,h2 with
   | [x,y],_ => exact ⟨x,y,rfl⟩
  have hyl := (spl_part_len hxy).2
  have hx : ([x,y] : List (List UInt8)).getD 0 [] = x := rfl
  have hy : ([x,y] : List (List UInt8)).getD 1 [] = y := rfl
  have hb := pcF_bd x
  rw [e2,cond_false,hxy,grd_pos (by simp),hx,hy,impl_pc,Option.bind_some]
  rcases hpc : pcF x with ⟨s,b1⟩
  rw [hpc] at hb
  dsimp only at hb ⊢
  rw [grd_pos (by simp),impl_pint y (by omega),Option.bind_some]
  rcases hri : riF y 12 with ⟨v,b2⟩
  dsimp only
  cases b1 with
  | false => rw [if_neg (by simp)]; rfl
  | true =>
   cases b2 with
   | false => rw [if_neg (by simp)]; rfl
   | true =>
    rw [Bool.not_true,cond_false,cond_false]
    by_cases h3 : after < s
    ·rw [decide_eq_false (show ¬ s ≤ after by omega),cond_false]
     by_cases h4 : s < (vals.length : Int)
     ·rw [decide_eq_false (show ¬ s ≥ (vals.length : Int) by omega),cond_false]
      by_cases h5 : v = 0
      ·subst h5
       rw [if_neg (by simp)]
       rfl
      ·have e5 : (v == 0) = false := by rw [beq_eq_false_iff_ne]; exact h5
       rw [e5,cond_false,within_eq,Option.bind_some]
       by_cases h6 : -500 ≤ v ∧ v ≤ 500
       ·rw [decide_eq_true h6,Bool.not_true,cond_false,grd_pos ⟨hb.1,h4⟩,if_pos ⟨rfl,rfl,rfl,h3,h4,h5,h6⟩]
       ·rw [decide_eq_false h6,if_neg fun h => h6 h.2.2.2.2.2.2]
        rfl
     ·rw [decide_eq_true (show s ≥ (vals.length : Int) by omega),cond_true,if_neg fun h => h4 h.2.2.2.2.1]
    ·rw [decide_eq_true (show s ≤ after by omega),cond_true,if_neg fun h => h3 h.2.2.2.1]
 ·have e2 : (((splF 32 line).length : Int) != 2) = true := by
   simp only [bne_iff_ne,ne_eq]
   omega
  rw [e2,if_neg fun h => h2 h.1]
  rfl
theorem impl_clone (l : List Int) (h : l.length ≤ 1048576) : m_slices_Clone_int_int l = some l := by
 have hroom : (room : Nat) = 1099511627776 := rfl
 unfold m_slices_Clone_int_int
 rw [grd_pos (by simp only [List.length_nil]; omega),List.nil_append]
theorem impl_pg (t : List UInt8) (hs : t.length ≤ 1048576) : m_impl_ParseGame t = some (pgF t) := by
 have hroom : (room : Nat) = 1099511627776 := rfl
 unfold m_impl_ParseGame pgF
 have e10 : (10 : Int) = (((10 : UInt8).toNat : Nat) : Int) := rfl
 have e0 : (0 : Int).toNat = 0 := rfl
 have e1' : (1 : Int).toNat = 1 := rfl
 have hl := splA_len 10 t []
 have hl1 : 1 ≤ (splF 10 t).length := hl.1
 have hl2 : (splF 10 t).length ≤ t.length + 1 := hl.2
 have ew : IntKind.i64.wrap (((splF 10 t).length : Int) - (1 : Int)) = (((splF 10 t).length - 1 : Nat) : Int) := by
  rw [w64' (by omega) (by omega)]
  omega
 obtain ⟨q1,q2⟩ := lns_sub t
 have hd1 : ∀ i,((lnsF t).drop 1).getD i [] = (lnsF t).getD (1 + i) [] := fun i => by
  rw [List.getD_eq_getElem?_getD,List.getElem?_drop,← List.getD_eq_getElem?_getD]
 rw [e10,impl_spl t 10 hs,Option.bind_some,ew,grd_pos (by omega),Int.toNat_natCast,beq_dec,e0]
 by_cases hlast : (splF 10 t).getD ((splF 10 t).length - 1) [] = []
 ·have eln : lnsF t = (splF 10 t).take ((splF 10 t).length - 1) := by
   unfold lnsF
   rw [if_pos hlast]
  rw [decide_eq_true hlast,cond_true,grd_pos (by omega),← eln]
  by_cases h0 : (lnsF t).length = 0
  ·have e1 : (((lnsF t).length : Int) == 0) = true := by rw [h0]; rfl
   rw [e1,cond_true,if_pos h0]
  ·have e1 : (((lnsF t).length : Int) == 0) = false := by
    rw [beq_eq_false_iff_ne]
    omega
   obtain ⟨n,f1,f2⟩ := impl_first ((lnsF t).getD 0 []) (by have := q2 0; omega)
   rw [e1,cond_false,if_neg h0,grd_pos (by omega),f1,Option.bind_some]
   cases hf : flF ((lnsF t).getD 0 []) with
   | none => rfl
   | some k =>
    have hk := (flF_some hf).1
    have hn := f2 k hf
    subst hn
    have e32 : 2 ^ (k + 1) ≤ 2 ^ 5 := Nat.pow_le_pow_right (by decide) (by omega)
    have hit := go_loop (step := l_impl_ParseGame_0 (splF 10 t)) ((lnsF t).drop 1) 1 (fun i after vals hi ha hv => by
      rw [List.length_drop] at hi
      unfold l_impl_ParseGame_0
      dsimp only
      rw [ew,Int.toNat_natCast,← eln,e1',decide_eq_true (by omega),cond_true,grd_pos (by omega),Int.toNat_natCast]
      refine (impl_line _ after i vals (by have := q2 (1 + i); omega)).trans ?_
      rw [w64' (by omega) (by omega),hd1]
      rfl)
     (fun after vals => by
      rw [List.length_drop]
      unfold l_impl_ParseGame_0
      dsimp only
      rw [ew,Int.toNat_natCast,← eln,e1',decide_eq_false (by omega)]
      rfl) ((lnsF t).drop 1).length 0 0 (List.replicate (2 ^ (k + 1)) 0) (by omega) (by decide) (by rw [List.length_replicate]; omega)
    rw [Int.natCast_zero,List.drop_zero,Nat.zero_add] at hit
    dsimp only [Option.isSome]
    rw [Bool.not_true,cond_false,grd_pos (by omega),impl_sh k hk,grd_pos ⟨Int.natCast_nonneg _,rfl,Int.ofNat_le.2 (by rw [hroom]; omega)⟩,grd_pos (by omega),Int.toNat_natCast,hit,Option.bind_some]
    have hgl := goF_len ((lnsF t).drop 1) 1 0 (List.replicate (2 ^ (k + 1)) 0)
    cases hg : goF ((lnsF t).drop 1) 1 0 (List.replicate (2 ^ (k + 1)) 0) with
    | inr r => rfl
    | inl vals =>
     rw [hg] at hgl
     dsimp only at hgl ⊢
     rw [List.length_replicate] at hgl
     rw [impl_fg _ vals (by omega),Option.bind_some,beq_dec]
     by_cases he : fgF ((k : Int) + 1) vals = t
     ·rw [decide_eq_true he,if_pos he,Bool.not_true,cond_false,impl_clone vals (by omega)]
      rfl
     ·rw [decide_eq_false he,if_neg he]
      rfl
 ·have eln : lnsF t = splF 10 t := by
   unfold lnsF
   rw [if_neg hlast]
  rw [decide_eq_false hlast,cond_false,← eln]
  by_cases h0 : (lnsF t).length = 0
  ·have e1 : (((lnsF t).length : Int) == 0) = true := by rw [h0]; rfl
   rw [e1,cond_true,if_pos h0]
  ·have e1 : (((lnsF t).length : Int) == 0) = false := by
    rw [beq_eq_false_iff_ne]
    omega
   obtain ⟨n,f1,f2⟩ := impl_first ((lnsF t).getD 0 []) (by have := q2 0; omega)
   rw [e1,cond_false,if_neg h0,grd_pos (by omega),f1,Option.bind_some]
   cases hf : flF ((lnsF t).getD 0 []) with
   | none => rfl
   | some k =>
    have hk := (flF_some hf).1
    have hn := f2 k hf
    subst hn
    have e32 : 2 ^ (k + 1) ≤ 2 ^ 5 := Nat.pow_le_pow_right (by decide) (by omega)
    have hit := go_loop (step := l_impl_ParseGame_1 (lnsF t)) ((lnsF t).drop 1) 1 (fun i after vals hi ha hv => by
      rw [List.length_drop] at hi
      unfold l_impl_ParseGame_1
      dsimp only
      rw [e1',decide_eq_true (by omega),cond_true,grd_pos (by omega),Int.toNat_natCast]
      refine (impl_line _ after i vals (by have := q2 (1 + i); omega)).trans ?_
      rw [w64' (by omega) (by omega),hd1]
      rfl)
     (fun after vals => by
      rw [List.length_drop]
      unfold l_impl_ParseGame_1
      dsimp only
      rw [e1',decide_eq_false (by omega)]
      rfl) ((lnsF t).drop 1).length 0 0 (List.replicate (2 ^ (k + 1)) 0) (by omega) (by decide) (by rw [List.length_replicate]; omega)
    rw [Int.natCast_zero,List.drop_zero,Nat.zero_add] at hit
    dsimp only [Option.isSome]
    rw [Bool.not_true,cond_false,grd_pos (by omega),impl_sh k hk,grd_pos ⟨Int.natCast_nonneg _,rfl,Int.ofNat_le.2 (by rw [hroom]; omega)⟩,grd_pos (by omega),Int.toNat_natCast,hit,Option.bind_some]
    have hgl := goF_len ((lnsF t).drop 1) 1 0 (List.replicate (2 ^ (k + 1)) 0)
    cases hg : goF ((lnsF t).drop 1) 1 0 (List.replicate (2 ^ (k + 1)) 0) with
    | inr r => rfl
    | inl vals =>
     rw [hg] at hgl
     dsimp only at hgl ⊢
     rw [List.length_replicate] at hgl
     rw [impl_fg _ vals (by omega),Option.bind_some,beq_dec]
     by_cases he : fgF ((k : Int) + 1) vals = t
     ·rw [decide_eq_true he,if_pos he,Bool.not_true,cond_false,impl_clone vals (by omega)]
      rfl
     ·rw [decide_eq_false he,if_neg he]
      rfl
theorem pgF_len (t : List UInt8) : (pgF t).2.2.length ≤ 32 := by
 unfold pgF
 split
 ·simp
 ·split
  ·simp
  ·rename_i k hf
   have hk := (flF_some hf).1
   have e32 : 2 ^ (k + 1) ≤ 2 ^ 5 := Nat.pow_le_pow_right (by decide) (by omega)
   have hgl := goF_len ((lnsF t).drop 1) 1 0 (List.replicate (2 ^ (k + 1)) 0)
   split
   ·rename_i r hg
    rw [hg] at hgl
    obtain ⟨a,b,r⟩ := r
    dsimp only at hgl ⊢
    rw [hgl.2.1]
    simp
   ·rename_i vals hg
    rw [hg] at hgl
    dsimp only at hgl
    rw [List.length_replicate] at hgl
    split
    ·dsimp only
     omega
    ·simp
theorem law_FnExactParseGame (t : List UInt8) (_ : t.length ≤ maxLen) : m_laws_FnExactParseGame t = some true := by
 unfold m_laws_FnExactParseGame
 by_cases hb : (t.length : Int) > 1048576
 ·rw [decide_eq_true hb]; rfl
 ·have hl := pgF_len t
  rw [decide_eq_false hb,cond_false,spec_pg t (by omega),impl_pg t (by omega),Option.bind_some]
  revert hl
  rcases pgF t with ⟨n,b,r⟩
  intro hl
  dsimp only at hl ⊢
  have c1 : ¬ (1 : Int) + (r.length : Int) < 0 := by omega
  simp [eq_game n r n r (by omega) (by omega),mark_game n r 1 (by decide) (by decide) (by omega),held_game n 1 r.length (by decide) (by decide) (by omega),c1]
end Go.Proofs.YtdaoggmpohnjhaaDoor
