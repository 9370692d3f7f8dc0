/- The plain laws: what the models of FnPayoffs compute. No condition beyond those that each theorem names. -/
import Derived.Test.YtnbkkljhdnkiaaaGPayoffsp
import Derived.Test.YtnbkkljhdnkiaaaAmC
namespace Go.Proofs.Ytnbkkljhdnkiaaa
open Go.AM
def Valid (n : Int) (l : List Int) : Prop := (1 ≤ n ∧ n ≤ 5) ∧ (l.length : Int) = 2 ^ n.toNat ∧ l.getD 0 0 = 0 ∧ ∀ i,i < l.length → -500 ≤ l.getD i 0 ∧ l.getD i 0 ≤ 500
open Classical in
noncomputable def validB (n : Int) (l : List Int) : Bool := decide (Valid n l)
theorem in_eq (a b c : Int) : m_spec_l1In a b c = some (decide (b ≤ a ∧ a ≤ c)) := by
 unfold m_spec_l1In
 by_cases h : a ≥ b
 ·have h' : b ≤ a := h
  simp [h,h']
 ·have h' : ¬ b ≤ a := h
  simp [h,h']
theorem within_eq (a b c : Int) : m_impl_within a b c = some (decide (b ≤ a ∧ a ≤ c)) := in_eq a b c
theorem count_eq (n : Int) (h1 : 1 ≤ n) (h2 : n ≤ 5) : m_spec_CountCoalitions n = some (2 ^ n.toNat) := by
 unfold m_spec_CountCoalitions
 rw [in_eq]
 have hb : decide ((0 : Int) ≤ n ∧ n ≤ 5) = true := by simp; omega
 rw [hb,Option.bind_some,Bool.not_true,cond_false]
 have hit := iter_up (step := l_spec_CountCoalitions_0 n) (fun i => ((2 : Int) ^ i,(i : Int))) n.toNat (a := 2 ^ n.toNat) (fun i hi => by
   have hlt : (i : Int) < n := by omega
   have hi5 : i < 5 := by omega
   unfold l_spec_CountCoalitions_0
   simp only [hlt,decide_true,cond_true]
   have hp : (2 : Int) ^ i ≤ 16 := by
    have : i = 0 ∨ i = 1 ∨ i = 2 ∨ i = 3 ∨ i = 4 := by omega
    rcases this with rfl | rfl | rfl | rfl | rfl <;> decide
   have hp0 : (0 : Int) < 2 ^ i := Int.pow_pos (by decide)
   rw [w64' (by omega) (by omega),w64' (by omega) (by omega)]
   simp [Int.pow_succ])
  (by
   unfold l_spec_CountCoalitions_0
   have : ¬ ((n.toNat : Int) < n) := by omega
   simp only [this,decide_false,cond_false])
 simp only [Int.pow_zero,Int.ofNat_eq_natCast,Int.natCast_zero] at hit
 rw [hit]
 rfl
theorem spec_valid (n : Int) (l : List Int) (hl : l.length ≤ 1048576) : m_spec_IsValidGame n l = some (validB n l) := by
 unfold m_spec_IsValidGame
 have hit := iter_first (step := l_spec_IsValidGame_0 l) (fun i => (i : Int)) l.length (fun i => decide (-500 ≤ l.getD i 0 ∧ l.getD i 0 ≤ 500)) (a := .inl ()) (fun _ => .inr false)
  (fun i hi hp => by
   have hi' : (i : Int) < l.length := by omega
   unfold l_spec_IsValidGame_0
   rw [decide_eq_true hi',cond_true,grd_pos ⟨by omega,hi'⟩,in_eq,Int.toNat_natCast,hp,Option.bind_some,Bool.not_true,cond_false,w64' (by omega) (by omega)]
   rfl)
  (fun i hi hp => by
   have hi' : (i : Int) < l.length := by omega
   unfold l_spec_IsValidGame_0
   rw [decide_eq_true hi',cond_true,grd_pos ⟨by omega,hi'⟩,in_eq,Int.toNat_natCast,hp]
   rfl)
  (by
   unfold l_spec_IsValidGame_0
   rw [decide_eq_false (by omega)]
   rfl)
 simp only [Int.ofNat_eq_natCast,Int.natCast_zero] at hit
 rcases hit with ⟨h1,h2⟩ | ⟨i,h1,h2,h3⟩
 ·rw [h2]
  simp only [Option.bind_some]
  rw [in_eq]
  by_cases hn : 1 ≤ n ∧ n ≤ 5
  ·rw [decide_eq_true hn,Option.bind_some,cond_true,count_eq n hn.1 hn.2,Option.bind_some]
   by_cases hlen : (l.length : Int) = 2 ^ n.toNat
   ·have hpos : (0 : Int) < 2 ^ n.toNat := Int.pow_pos (by decide)
    have e1 : ((l.length : Int) == 2 ^ n.toNat) = true := by simpa using hlen
    rw [e1,cond_true,grd_pos ⟨by omega,by omega⟩]
    congr 1
    have h0 : (0 : Int).toNat = 0 := rfl
    rw [h0]
    by_cases hz : l.getD 0 0 = 0
    ·have hv : Valid n l := ⟨hn,hlen,hz,fun i hi => by simpa using h1 i hi⟩
     rw [hz]
     simp [validB,hv]
    ·have hv : ¬ Valid n l := fun h => hz h.2.2.1
     simp only [validB,hv,decide_false]
     simpa using hz
   ·have e1 : ((l.length : Int) == 2 ^ n.toNat) = false := by simpa using hlen
    have hv : ¬ Valid n l := fun h => hlen h.2.1
    rw [e1,cond_false]
    simp [validB,hv]
  ·have hv : ¬ Valid n l := fun h => hn h.1
   rw [decide_eq_false hn]
   simp [validB,hv]
 ·rw [h3]
  have hv : ¬ Valid n l := fun h => by
   have := h.2.2.2 i h1
   simp only [decide_eq_false_iff_not] at h2
   exact h2 this
  simp [validB,hv]
theorem contains_eq (l : List Int) (hl : l.length ≤ 1048576) : ∃ r,m_slices_ContainsFunc_int_int_impl_IsValidGame_1 l = some r ∧ (r = false ↔ ∀ i,i < l.length → -500 ≤ l.getD i 0 ∧ l.getD i 0 ≤ 500) := by
 unfold m_slices_ContainsFunc_int_int_impl_IsValidGame_1 m_slices_IndexFunc_int_int_impl_IsValidGame_1
 have hm : ∀ x,m_impl_IsValidGame_1 x = some (!decide (-500 ≤ x ∧ x ≤ 500)) := fun x => by
  unfold m_impl_IsValidGame_1
  rw [within_eq]
  rfl
 have hit := iter_first (step := l_slices_IndexFunc_int_int_impl_IsValidGame_1_0 l) (fun i => (i : Int)) l.length (fun i => decide (-500 ≤ l.getD i 0 ∧ l.getD i 0 ≤ 500)) (a := .inl ()) (fun i => .inr (i : Int))
  (fun i hi hp => by
   have hi' : (i : Int) < l.length := by omega
   unfold l_slices_IndexFunc_int_int_impl_IsValidGame_1_0
   rw [decide_eq_true hi',cond_true,grd_pos ⟨by omega,hi'⟩,hm,Int.toNat_natCast,hp,Option.bind_some,Bool.not_true,cond_false,w64' (by omega) (by omega)]
   rfl)
  (fun i hi hp => by
   have hi' : (i : Int) < l.length := by omega
   unfold l_slices_IndexFunc_int_int_impl_IsValidGame_1_0
   rw [decide_eq_true hi',cond_true,grd_pos ⟨by omega,hi'⟩,hm,Int.toNat_natCast,hp]
   rfl)
  (by
   unfold l_slices_IndexFunc_int_int_impl_IsValidGame_1_0
   rw [decide_eq_false (by omega)]
   rfl)
 simp only [Int.ofNat_eq_natCast,Int.natCast_zero] at hit
 rcases hit with ⟨h1,h2⟩ | ⟨i,h1,h2,h3⟩
 ·rw [h2]
  exact ⟨false,rfl,by simpa using h1⟩
 ·rw [h3]
  refine ⟨true,by simp,?_⟩
  simp only [reduceCtorEq,false_iff]
  intro h
  simp only [decide_eq_false_iff_not] at h2
  exact h2 (h i h1)
theorem impl_valid (n : Int) (l : List Int) (hl : l.length ≤ 1048576) : m_impl_IsValidGame n l = some (validB n l) := by
 unfold m_impl_IsValidGame
 rw [within_eq]
 by_cases hn : 1 ≤ n ∧ n ≤ 5
 ·rw [decide_eq_true hn,Option.bind_some,Bool.not_true,cond_false,grd_pos (by omega)]
  have hw : IntKind.i64.wrap ((1 : Int) * 2 ^ (min n.toNat 64)) = 2 ^ n.toNat := by
   have : n = 1 ∨ n = 2 ∨ n = 3 ∨ n = 4 ∨ n = 5 := by omega
   rcases this with rfl | rfl | rfl | rfl | rfl <;> decide
  rw [hw]
  by_cases hlen : (l.length : Int) = 2 ^ n.toNat
  ·have hpos : (0 : Int) < 2 ^ n.toNat := Int.pow_pos (by decide)
   have e1 : ((l.length : Int) != 2 ^ n.toNat) = false := by simpa using hlen
   rw [e1,cond_false,grd_pos ⟨by omega,by omega⟩]
   have h0 : (0 : Int).toNat = 0 := rfl
   rw [h0]
   by_cases hz : l.getD 0 0 = 0
   ·have e2 : (l.getD 0 0 != 0) = false := by simpa using hz
    rw [e2,cond_false]
    obtain ⟨r,h1,h2⟩ := contains_eq l hl
    rw [h1,Option.bind_some]
    congr 1
    by_cases hr : r = false
    ·have hv : Valid n l := ⟨hn,hlen,hz,h2.1 hr⟩
     simp [validB,hv,hr]
    ·have hv : ¬ Valid n l := fun h => hr (h2.2 h.2.2.2)
     have hr' : r = true := by cases r <;> simp at hr ⊢
     simp [validB,hv,hr']
   ·have e2 : (l.getD 0 0 != 0) = true := by simpa using hz
    have hv : ¬ Valid n l := fun h => hz h.2.2.1
    rw [e2]
    simp [validB,hv]
  ·have e1 : ((l.length : Int) != 2 ^ n.toNat) = true := by simpa using hlen
   have hv : ¬ Valid n l := fun h => hlen h.2.1
   rw [e1]
   simp [validB,hv]
 ·have hv : ¬ Valid n l := fun h => hn h.1
  rw [decide_eq_false hn]
  simp [validB,hv]
theorem iter_find {S A : Type} {step : S → Option (S ⊕ A)} (st : Nat → S) (n : Nat) (p : Nat → Bool) (a : A) (b : Nat → A)
  (hs : ∀ i,i < n → step (st i) = some (if p i = true then .inr (b i) else .inl (st (i + 1)))) (hd : step (st n) = some (.inr a)) :
  iter step (st 0) = some (match (List.range n).find? p with
   | some i => b i
   | none => a) := by
 have key : ∀ k,k ≤ n → iter step (st (n - k)) = some (match (List.range' (n - k) k).find? p with
   | some i => b i
   | none => a) := by
  intro k
  induction k with
  | zero => intro _; simpa using iter_done hd
  | succ k ih =>
   intro hk
   have h1 := hs (n - (k + 1)) (by omega)
   rw [List.range'_succ,List.find?_cons]
   cases hp : p (n - (k + 1)) with
   | true =>
    rw [if_pos hp] at h1
    exact iter_done h1
   | false =>
    rw [if_neg (by simp [hp])] at h1
    rw [iter_next h1,show n - (k + 1) + 1 = n - k by omega]
    exact ih (by omega)
 have := key n (Nat.le_refl _)
 rw [Nat.sub_self,← List.range_eq_range'] at this
 exact this
def tab {α : Type} (f : Nat → α) (n : Nat) : List α := (List.range n).map f
theorem tab_succ {α : Type} (f : Nat → α) (n : Nat) : tab f (n + 1) = tab f n ++ [f n] := by simp [tab,List.range_succ]
theorem tab_length {α : Type} (f : Nat → α) (n : Nat) : (tab f n).length = n := by simp [tab]
theorem tab_getD {α : Type} (f : Nat → α) (n : Nat) (d : α) (i : Nat) (h : i < n) : (tab f n).getD i d = f i := by
 simp [tab,List.getD,List.getElem?_map,List.getElem?_range h]
def fil {α : Type} (p : Nat → Bool) (f : Nat → α) (n : Nat) : List α := ((List.range n).filter p).map f
theorem fil_succ {α : Type} (p : Nat → Bool) (f : Nat → α) (n : Nat) : fil p f (n + 1) = if p n = true then fil p f n ++ [f n] else fil p f n := by
 simp only [fil,List.range_succ,List.filter_append]
 by_cases h : p n = true
 ·simp [h]
 ·simp [h]
theorem fil_length {α : Type} (p : Nat → Bool) (f : Nat → α) (n : Nat) : (fil p f n).length ≤ n := by
 simp only [fil,List.length_map]
 exact Nat.le_trans (List.length_filter_le _ _) (by simp)
theorem getD_nat {α : Type} (l : List α) (i : Nat) (d : α) : l.getD (i : Int).toNat d = l.getD i d := by rw [Int.toNat_natCast]
def validQ (a b : Int) : Bool := decide (1 ≤ b ∧ b ≤ 1000000000 ∧ -1000000000 ≤ a ∧ a ≤ 1000000000 ∧ Int.gcd a b = 1)
theorem gcd_loop (m n : Nat) : iter l_spec_l3Gcd_0 ((m : Int),(n : Int)) = some ((Nat.gcd m n : Nat) : Int) := by
 induction n using Nat.strongRecOn generalizing m with
 | _ n ih =>
  by_cases h : n = 0
  ·subst h
   rw [iter_done (a := (m : Int))]
   ·simp
   ·simp [l_spec_l3Gcd_0]
  ·have hs : l_spec_l3Gcd_0 ((m : Int),(n : Int)) = some (.inl ((n : Int),((m % n : Nat) : Int))) := by
    unfold l_spec_l3Gcd_0
    dsimp only
    rw [decide_eq_true (by omega),cond_true,grd_pos (by omega)]
    rfl
   rw [iter_next hs,ih (m % n) (Nat.mod_lt _ (by omega)) n,Nat.gcd_comm n (m % n),← Nat.gcd_rec n m,Nat.gcd_comm n m]
theorem spec_gcd (a b : Int) (ha : -9223372036854775807 ≤ a ∧ a ≤ 9223372036854775807) (hb : -9223372036854775807 ≤ b ∧ b ≤ 9223372036854775807) : m_spec_l3Gcd a b = some ((Int.gcd a b : Nat) : Int) := by
 unfold m_spec_l3Gcd
 have e1 : l_spec_l3Gcd_1 = l_spec_l3Gcd_0 := rfl
 have e2 : l_spec_l3Gcd_2 = l_spec_l3Gcd_0 := rfl
 have e3 : l_spec_l3Gcd_3 = l_spec_l3Gcd_0 := rfl
 rw [e1,e2,e3]
 have ea : (if a < 0 then IntKind.i64.wrap (0 - a) else a) = (a.natAbs : Int) := by
  by_cases h : a < 0
  ·rw [if_pos h,w64' (by omega) (by omega)]; omega
  ·rw [if_neg h]; omega
 have eb : (if b < 0 then IntKind.i64.wrap (0 - b) else b) = (b.natAbs : Int) := by
  by_cases h : b < 0
  ·rw [if_pos h,w64' (by omega) (by omega)]; omega
  ·rw [if_neg h]; omega
 have key := gcd_loop a.natAbs b.natAbs
 rw [← ea,← eb] at key
 have hg : Nat.gcd a.natAbs b.natAbs = Int.gcd a b := rfl
 rw [hg] at key
 by_cases h1 : a < 0 <;> by_cases h2 : b < 0 <;> simp only [h1,h2,if_true,if_false,decide_true,decide_false,cond_true,cond_false] at key ⊢ <;> rw [key] <;> rfl
theorem common_loop : ∀ (N : Nat) (a b : Int),b.natAbs ≤ N → ∃ x,iter l_impl_common_0 (a,b) = some x ∧ x.natAbs = Int.gcd a b := by
 intro N
 induction N with
 | zero =>
  intro a b h
  have hb : b = 0 := by omega
  subst hb
  exact ⟨a,iter_done (by simp [l_impl_common_0]),by simp⟩
 | succ N ih =>
  intro a b h
  by_cases hb : b = 0
  ·subst hb
   exact ⟨a,iter_done (by simp [l_impl_common_0]),by simp⟩
  ·have hs : l_impl_common_0 (a,b) = some (.inl (b,a.tmod b)) := by
    unfold l_impl_common_0
    have : (b != 0) = true := by simpa using hb
    dsimp only
    rw [this,cond_true,grd_pos hb]
   have hlt : (a.tmod b).natAbs < b.natAbs := by
    rw [Int.natAbs_tmod]
    exact Nat.mod_lt _ (by omega)
   obtain ⟨x,h1,h2⟩ := ih b (a.tmod b) (by omega)
   refine ⟨x,by rw [iter_next hs,h1],?_⟩
   rw [h2]
   show Nat.gcd b.natAbs (a.tmod b).natAbs = Nat.gcd a.natAbs b.natAbs
   rw [Int.natAbs_tmod,Nat.gcd_comm b.natAbs,← Nat.gcd_rec,Nat.gcd_comm]
theorem gcd_le (a b : Int) : Int.gcd a b ≤ a.natAbs ∨ Int.gcd a b ≤ b.natAbs := by
 by_cases hb : b = 0
 ·subst hb; left; simp
 ·right
  exact Nat.le_of_dvd (by omega) (Int.gcd_dvd_natAbs_right a b)
theorem impl_common (a b : Int) (ha : -9223372036854775807 ≤ a ∧ a ≤ 9223372036854775807) (hb : -9223372036854775807 ≤ b ∧ b ≤ 9223372036854775807) : m_impl_common a b = some ((Int.gcd a b : Nat) : Int) := by
 unfold m_impl_common
 obtain ⟨x,h1,h2⟩ := common_loop _ a b (Nat.le_refl _)
 have h3 := gcd_le a b
 rw [h1,Option.bind_some]
 dsimp only
 rw [w64' (by omega) (by omega)]
 congr 1
 split <;> omega
theorem spec_validRat (a b : Int) : m_spec_IsValidRat a b = some (validQ a b) := by
 unfold m_spec_IsValidRat
 rw [in_eq,Option.bind_some]
 by_cases hb : 1 ≤ b ∧ b ≤ 1000000000
 ·rw [decide_eq_true hb,cond_true,in_eq,Option.bind_some]
  by_cases ha : -1000000000 ≤ a ∧ a ≤ 1000000000
  ·rw [decide_eq_true ha,cond_true,spec_gcd a b (by omega) (by omega),Option.bind_some]
   congr 1
   by_cases hg : Int.gcd a b = 1
   ·simp [validQ,hg,ha,hb]
   ·have : ¬ ((Int.gcd a b : Nat) : Int) = 1 := by omega
    simp [validQ,hg,this]
  ·rw [decide_eq_false ha,cond_false]
   have : ¬ (1 ≤ b ∧ b ≤ 1000000000 ∧ -1000000000 ≤ a ∧ a ≤ 1000000000 ∧ Int.gcd a b = 1) := fun h => ha ⟨h.2.2.1,h.2.2.2.1⟩
   rw [validQ,decide_eq_false this]
 ·rw [decide_eq_false hb,cond_false]
  have : ¬ (1 ≤ b ∧ b ≤ 1000000000 ∧ -1000000000 ≤ a ∧ a ≤ 1000000000 ∧ Int.gcd a b = 1) := fun h => hb ⟨h.1,h.2.1⟩
  rw [validQ,decide_eq_false this]
theorem impl_validRat (a b : Int) : m_impl_IsValidRat a b = some (validQ a b) := by
 rw [← spec_validRat]
 unfold m_impl_IsValidRat m_spec_IsValidRat
 rw [in_eq,within_eq,Option.bind_some,Option.bind_some]
 by_cases hb : 1 ≤ b ∧ b ≤ 1000000000
 ·rw [decide_eq_true hb,cond_true,cond_true,in_eq,within_eq,Option.bind_some,Option.bind_some]
  by_cases ha : -1000000000 ≤ a ∧ a ≤ 1000000000
  ·rw [decide_eq_true ha,cond_true,cond_true,spec_gcd a b (by omega) (by omega),impl_common a b (by omega) (by omega)]
  ·rw [decide_eq_false ha]
   rfl
 ·rw [decide_eq_false hb]
  rfl
theorem validQ_bd {a b : Int} (h : validQ a b = true) : 1 ≤ b ∧ b ≤ 1000000000 ∧ -1000000000 ≤ a ∧ a ≤ 1000000000 ∧ Int.gcd a b = 1 := by simpa [validQ] using h
theorem cmp_eq (a b c d : Int) : m_impl_CompareRat a b c d = m_spec_CompareRat a b c d := by
 unfold m_impl_CompareRat m_spec_CompareRat
 rw [spec_validRat,spec_validRat,impl_validRat,impl_validRat]
theorem mul_bd {x y : Int} (hx : -1000000000 ≤ x ∧ x ≤ 1000000000) (hy : -1000000000 ≤ y ∧ y ≤ 1000000000) : -1000000000000000000 ≤ x * y ∧ x * y ≤ 1000000000000000000 := by
 have h1 : (x * y).natAbs ≤ 1000000000 * 1000000000 := by
  rw [Int.natAbs_mul]
  exact Nat.mul_le_mul (by omega) (by omega)
 omega
def cmpQ (a b c d : Int) : Int := if validQ a b = true ∧ validQ c d = true then (if a * d < c * b then -1 else if a * d > c * b then 1 else 0) else 0
theorem spec_cmp (a b c d : Int) : m_spec_CompareRat a b c d = some (cmpQ a b c d) := by
 unfold m_spec_CompareRat cmpQ
 rw [spec_validRat,spec_validRat]
 cases h1 : validQ a b with
 | false => simp
 | true =>
  cases h2 : validQ c d with
  | false => simp
  | true =>
   have v1 := validQ_bd h1
   have v2 := validQ_bd h2
   have b1 := mul_bd (x := a) (y := d) (by omega) (by omega)
   have b2 := mul_bd (x := c) (y := b) (by omega) (by omega)
   rw [w64' (by omega) (by omega),w64' (by omega) (by omega)]
   by_cases h3 : a * d < c * b
   ·simp [h3]
   ·by_cases h4 : c * b < a * d
    ·simp [h3,h4]
    ·simp [h3,h4]
theorem impl_cmp (a b c d : Int) : m_impl_CompareRat a b c d = some (cmpQ a b c d) := by rw [cmp_eq,spec_cmp]
instance : DecidableEq Q := fun a b =>
 if h1 : a.num = b.num then
  if h2 : a.den = b.den then isTrue (by cases a; cases b; simp only at h1 h2; rw [h1,h2])
  else isFalse (fun h => h2 (by rw [h]))
 else isFalse (fun h => h1 (by rw [h]))
theorem Q_ext {a b : Q} : a = b ↔ a.num = b.num ∧ a.den = b.den := ⟨fun h => by rw [h]; exact ⟨rfl,rfl⟩,fun h => by cases a; cases b; simp only at h; rw [h.1,h.2]⟩
theorem eq_find {α : Type} [DecidableEq α] (d : α) (a b : List α) (hl : a.length = b.length) : (match (List.range a.length).find? (fun i => !decide (a.getD i d = b.getD i d)) with
   | some _ => (.inr false : Unit ⊕ Bool)
   | none => .inl ()) = if a = b then .inl () else .inr false := by
 cases h : (List.range a.length).find? (fun i => !decide (a.getD i d = b.getD i d)) with
 | none =>
  rw [List.find?_eq_none] at h
  rw [if_pos (eq_of_all d hl fun i hi => by simpa using h i (List.mem_range.2 hi))]
 | some i =>
  have h1 := List.find?_some h
  simp only [Bool.not_eq_true',decide_eq_false_iff_not] at h1
  rw [if_neg fun e => h1 (by rw [e])]
theorem spec_eqv (a b : List Q) (ha : a.length ≤ 1048576) : m_spec_EqualVector a b = some (decide (a = b)) := by
 unfold m_spec_EqualVector
 by_cases hl : a.length = b.length
 ·have e : ((a.length : Int) != (b.length : Int)) = false := by simp [hl]
  have hit := iter_find (step := l_spec_EqualVector_0 a b) (fun i => (i : Int)) a.length (fun i => !decide (a.getD i ⟨0,0⟩ = b.getD i ⟨0,0⟩)) (.inl ()) (fun _ => .inr false)
   (fun i hi => by
    unfold l_spec_EqualVector_0
    rw [decide_eq_true (by omega),cond_true,grd_pos ⟨by omega,by omega⟩,grd_pos ⟨by omega,by omega⟩,getD_nat,getD_nat,w64' (by omega) (by omega)]
    by_cases hq : a.getD i ⟨0,0⟩ = b.getD i ⟨0,0⟩
    ·have hn : ((a.getD i ⟨0,0⟩).num == (b.getD i ⟨0,0⟩).num && (a.getD i ⟨0,0⟩).den == (b.getD i ⟨0,0⟩).den) = true := by
      rw [hq]
      simp
     rw [hn,decide_eq_true hq]
     rfl
    ·have hn : ((a.getD i ⟨0,0⟩).num == (b.getD i ⟨0,0⟩).num && (a.getD i ⟨0,0⟩).den == (b.getD i ⟨0,0⟩).den) = false := by
      rw [← Bool.not_eq_true]
      simp only [Bool.and_eq_true,beq_iff_eq]
      exact fun h => hq (Q_ext.2 h)
     rw [hn,decide_eq_false hq]
     rfl)
   (by
    unfold l_spec_EqualVector_0
    rw [decide_eq_false (by omega)]
    rfl)
  rw [eq_find _ a b hl] at hit
  simp only [Int.natCast_zero] at hit
  rw [e,cond_false,hit]
  by_cases hab : a = b
  ·simp [hab]
  ·simp [hab]
 ·have e : ((a.length : Int) != (b.length : Int)) = true := by
   simp only [bne_iff_ne,ne_eq]
   omega
  have : ¬ a = b := fun e => hl (by rw [e])
  rw [e]
  simp [this]
theorem cmpEx_eq (a b : List Q) : m_impl_CompareExcesses a b = m_spec_CompareExcesses a b := by
 unfold m_impl_CompareExcesses m_spec_CompareExcesses
 have : l_impl_CompareExcesses_0 a b = l_spec_CompareExcesses_0 a b := by
  funext v
  unfold l_impl_CompareExcesses_0 l_spec_CompareExcesses_0
  simp only [cmp_eq]
 rw [this]
theorem spec_cmpEx (a b : List Q) (ha : a.length ≤ 1048576) (hb : b.length ≤ 1048576) : ∃ r,m_spec_CompareExcesses a b = some r := by
 unfold m_spec_CompareExcesses
 have hit := iter_find (step := l_spec_CompareExcesses_0 a b) (fun i => (i : Int)) (min a.length b.length) (fun i => cmpQ (a.getD i ⟨0,0⟩).num (a.getD i ⟨0,0⟩).den (b.getD i ⟨0,0⟩).num (b.getD i ⟨0,0⟩).den != 0) (.inl ())
  (fun i => .inr (cmpQ (a.getD i ⟨0,0⟩).num (a.getD i ⟨0,0⟩).den (b.getD i ⟨0,0⟩).num (b.getD i ⟨0,0⟩).den))
  (fun i hi => by
   unfold l_spec_CompareExcesses_0
   rw [decide_eq_true (by omega),cond_true,decide_eq_true (by omega),cond_true,grd_pos ⟨by omega,by omega⟩,grd_pos ⟨by omega,by omega⟩,getD_nat,getD_nat,spec_cmp,Option.bind_some,w64' (by omega) (by omega)]
   cases cmpQ (a.getD i ⟨0,0⟩).num (a.getD i ⟨0,0⟩).den (b.getD i ⟨0,0⟩).num (b.getD i ⟨0,0⟩).den != 0 <;> rfl)
  (by
   unfold l_spec_CompareExcesses_0
   by_cases h : a.length ≤ b.length
   ·rw [decide_eq_false (by omega)]
    rfl
   ·rw [decide_eq_true (by omega),cond_true,decide_eq_false (by omega)]
    rfl)
 simp only [Int.natCast_zero] at hit
 rw [hit]
 split
 ·exact ⟨_,rfl⟩
 ·simp only [Option.bind_some]
  cases decide ((a.length : Int) < (b.length : Int)) <;> cases decide ((a.length : Int) > (b.length : Int)) <;> exact ⟨_,rfl⟩
theorem count0 (n : Nat) (h : n ≤ 5) : m_spec_CountCoalitions (n : Int) = some (2 ^ n) := by
 rcases Nat.eq_zero_or_pos n with rfl | h1
 ·unfold m_spec_CountCoalitions
  rw [in_eq,decide_eq_true (by omega),Option.bind_some,Bool.not_true,cond_false]
  rw [iter_done (a := (1 : Int)) (by simp [l_spec_CountCoalitions_0])]
  rfl
 ·rw [count_eq (n : Int) (by omega) (by omega)]
  simp
theorem bit2 (k : Nat) (h : k < 5) : m_spec_l2Bit (k : Int) = some (2 ^ k) := by
 unfold m_spec_l2Bit
 rw [count0 k (by omega)]
 rfl
theorem and_tab : ∀ s : Fin 32,∀ k : Fin 5,bitsOf .and .i64 (((s.val : Nat) : Int).fdiv (2 ^ (min ((k.val : Nat) : Int).toNat 64))) 1 = if s.val.testBit k.val then 1 else 0 := by decide +kernel
theorem has_tab : ∀ s : Fin 32,∀ k : Fin 5,((IntKind.i64.wrap (((s.val : Nat) : Int).tdiv (2 ^ k.val))).tmod 2 == 1) = s.val.testBit k.val := by decide +kernel
theorem shl_tab : ∀ k : Fin 6,IntKind.i64.wrap (1 * 2 ^ (min ((k.val : Nat) : Int).toNat 64)) = ((2 ^ k.val : Nat) : Int) := by decide +kernel
theorem add_tab : ∀ s : Fin 32,∀ k : Fin 5,s.val.testBit k.val = false → s.val + 2 ^ k.val = s.val ||| 2 ^ k.val := by decide +kernel
theorem and_eq (s k : Nat) (hs : s < 32) (hk : k < 5) : bitsOf .and .i64 ((s : Int).fdiv (2 ^ (min (k : Int).toNat 64))) 1 = if s.testBit k then 1 else 0 := and_tab ⟨s,hs⟩ ⟨k,hk⟩
theorem shl_eq (k : Nat) (hk : k < 6) : IntKind.i64.wrap (1 * 2 ^ (min (k : Int).toNat 64)) = ((2 ^ k : Nat) : Int) := shl_tab ⟨k,hk⟩
theorem add_eq (s k : Nat) (hs : s < 32) (hk : k < 5) (h : s.testBit k = false) : s + 2 ^ k = s ||| 2 ^ k := add_tab ⟨s,hs⟩ ⟨k,hk⟩ h
theorem spec_has (s k : Nat) (hs : s < 32) (hk : k < 5) : m_spec_HasPlayer (s : Int) (k : Int) = some (s.testBit k) := by
 unfold m_spec_HasPlayer
 have hp : (0 : Int) < 2 ^ k := Int.pow_pos (by decide)
 rw [in_eq,decide_eq_true (by omega),Option.bind_some,cond_true,decide_eq_true (by omega),cond_true,bit2 k hk,Option.bind_some,grd_pos (by omega),grd_pos (by decide)]
 rw [← has_tab ⟨s,hs⟩ ⟨k,hk⟩]
theorem valid_nat {n : Int} {l : List Int} (h : Valid n l) : ∃ N : Nat,n = (N : Int) ∧ 1 ≤ N ∧ N ≤ 5 ∧ l.length = 2 ^ N ∧ l.length ≤ 32 := by
 obtain ⟨h1,h2,_⟩ := h
 have hn : n = 1 ∨ n = 2 ∨ n = 3 ∨ n = 4 ∨ n = 5 := by omega
 refine ⟨n.toNat,by omega,by omega,by omega,?_,?_⟩
 ·rcases hn with rfl | rfl | rfl | rfl | rfl <;> simp at h2 ⊢ <;> omega
 ·rcases hn with rfl | rfl | rfl | rfl | rfl <;> simp at h2 ⊢ <;> omega
theorem validB_eq (n : Int) (l : List Int) : validB n l = true ↔ Valid n l := by simp [validB]
theorem pow_le32 {N : Nat} (h : N ≤ 5) : 2 ^ N ≤ 32 := by
 have : N = 0 ∨ N = 1 ∨ N = 2 ∨ N = 3 ∨ N = 4 ∨ N = 5 := by omega
 rcases this with rfl | rfl | rfl | rfl | rfl | rfl <;> decide
theorem iter_findc {S A : Type} {step : S → Option (S ⊕ A)} (st : Nat → S) (n : Nat) (p : Nat → Bool) (a : A) (b : Nat → A)
  (hs : ∀ i,i < n → step (st i) = some (bif p i then .inr (b i) else .inl (st (i + 1)))) (hd : step (st n) = some (.inr a)) :
  iter step (st 0) = some (match (List.range n).find? p with
   | some i => b i
   | none => a) := iter_find st n p a b (fun i hi => by rw [hs i hi]; cases p i <;> rfl) hd
theorem good_eq (a : Nat) (ha : a < 32) : m_spec_l2Good (a : Int) = some true := by
 unfold m_spec_l2Good
 rw [in_eq,decide_eq_true (by omega)]
 rfl
theorem first_bad (n : Nat) (P : Nat → Prop) : (∀ i,i < n → P i) ∨ ∃ t,t < n ∧ ¬ P t ∧ ∀ i,i < t → P i := by
 by_cases h : ∀ i,i < n → P i
 ·exact .inl h
 ·have h' : ∃ t,t < n ∧ ¬ P t := by
   simp only [Classical.not_forall] at h
   obtain ⟨i,h1,h2⟩ := h
   exact ⟨i,h1,h2⟩
  obtain ⟨t,⟨h1,h2⟩,h3⟩ := least h'
  refine .inr ⟨t,h1,h2,fun i hi => ?_⟩
  by_cases hp : P i
  ·exact hp
  ·have := h3 i ⟨by omega,hp⟩
   omega
def ratOf (n d : Int) : Int × Int × Bool :=
 if d = 0 ∨ ¬ (-1000000000000000000 ≤ n ∧ n ≤ 1000000000000000000) ∨ ¬ (-1000000000000000000 ≤ d ∧ d ≤ 1000000000000000000) then (0,0,false)
 else if validQ ((if d < 0 then -n else n).tdiv (Int.gcd n d : Nat)) ((if d < 0 then -d else d).tdiv (Int.gcd n d : Nat)) = true then ((if d < 0 then -n else n).tdiv (Int.gcd n d : Nat),(if d < 0 then -d else d).tdiv (Int.gcd n d : Nat),true) else (0,0,false)
theorem tdiv_bd (n : Int) (g : Nat) : -(n.natAbs : Int) ≤ n.tdiv g ∧ n.tdiv g ≤ n.natAbs := by
 have h : (n.tdiv g).natAbs ≤ n.natAbs := by
  rw [Int.natAbs_tdiv]
  exact Nat.div_le_self _ _
 omega
theorem gcd_pos' {n d : Int} (h : d ≠ 0) : 0 < Int.gcd n d := Int.gcd_pos_of_ne_zero_right n h
theorem spec_ratOf (n d : Int) : m_spec_RatOf n d = some (ratOf n d) := by
 unfold m_spec_RatOf ratOf
 by_cases h0 : d = 0
 ·simp [h0]
 ·have e0 : (d == 0) = false := by simpa using h0
  rw [e0,cond_false,in_eq,in_eq,Option.bind_some,Option.bind_some]
  by_cases h1 : -1000000000000000000 ≤ n ∧ n ≤ 1000000000000000000
  ·by_cases h2 : -1000000000000000000 ≤ d ∧ d ≤ 1000000000000000000
   ·have hc : ¬ (d = 0 ∨ ¬ (-1000000000000000000 ≤ n ∧ n ≤ 1000000000000000000) ∨ ¬ (-1000000000000000000 ≤ d ∧ d ≤ 1000000000000000000)) := fun h => by
     rcases h with h | h | h
     ·exact h0 h
     ·exact h h1
     ·exact h h2
    have hg := gcd_pos' (n := n) h0
    rw [if_neg hc,decide_eq_true h1,decide_eq_true h2,Bool.not_true,cond_false,cond_false]
    by_cases h3 : d < 0
    ·have b1 := tdiv_bd (-n) (Int.gcd n d)
     have b2 := tdiv_bd (-d) (Int.gcd n d)
     have z1 : IntKind.i64.wrap (0 - n) = -n := by rw [w64' (by omega) (by omega)]; omega
     have z2 : IntKind.i64.wrap (0 - d) = -d := by rw [w64' (by omega) (by omega)]; omega
     rw [decide_eq_true h3,cond_true,z1,z2,spec_gcd _ _ (by omega) (by omega),Int.neg_gcd,Int.gcd_neg,Option.bind_some,grd_pos (by omega),grd_pos (by omega),w64' (n := (-n).tdiv _) (by omega) (by omega),w64' (n := (-d).tdiv _) (by omega) (by omega),spec_validRat,Option.bind_some]
     simp only [if_pos h3]
     cases validQ ((-n).tdiv (Int.gcd n d : Nat)) ((-d).tdiv (Int.gcd n d : Nat)) <;> rfl
    ·have b1 := tdiv_bd n (Int.gcd n d)
     have b2 := tdiv_bd d (Int.gcd n d)
     rw [decide_eq_false h3,cond_false,spec_gcd _ _ (by omega) (by omega),Option.bind_some,grd_pos (by omega),grd_pos (by omega),w64' (n := n.tdiv _) (by omega) (by omega),w64' (n := d.tdiv _) (by omega) (by omega),spec_validRat,Option.bind_some]
     simp only [if_neg h3]
     cases validQ (n.tdiv (Int.gcd n d : Nat)) (d.tdiv (Int.gcd n d : Nat)) <;> rfl
   ·rw [if_pos (.inr (.inr h2)),decide_eq_true h1,decide_eq_false h2]
    rfl
  ·rw [if_pos (.inr (.inl h1)),decide_eq_false h1]
   rfl
theorem impl_ratOf (n d : Int) : m_impl_RatOf n d = some (ratOf n d) := by
 unfold m_impl_RatOf ratOf
 by_cases h0 : d = 0
 ·simp [h0]
 ·have e0 : (d == 0) = false := by simpa using h0
  rw [e0,cond_false,within_eq,within_eq,Option.bind_some,Option.bind_some]
  by_cases h1 : -1000000000000000000 ≤ n ∧ n ≤ 1000000000000000000
  ·by_cases h2 : -1000000000000000000 ≤ d ∧ d ≤ 1000000000000000000
   ·have hc : ¬ (d = 0 ∨ ¬ (-1000000000000000000 ≤ n ∧ n ≤ 1000000000000000000) ∨ ¬ (-1000000000000000000 ≤ d ∧ d ≤ 1000000000000000000)) := fun h => by
     rcases h with h | h | h
     ·exact h0 h
     ·exact h h1
     ·exact h h2
    have hg := gcd_pos' (n := n) h0
    have hgl := gcd_le n d
    rw [if_neg hc,decide_eq_true h1,decide_eq_true h2,Bool.not_true,cond_false,cond_false,impl_common _ _ (by omega) (by omega),Option.bind_some]
    by_cases h3 : d < 0
    ·have b1 := tdiv_bd (-n) (Int.gcd n d)
     have b2 := tdiv_bd (-d) (Int.gcd n d)
     have z1 : IntKind.i64.wrap (0 - ((Int.gcd n d : Nat) : Int)) = -((Int.gcd n d : Nat) : Int) := by rw [w64' (by omega) (by omega)]; omega
     rw [decide_eq_true h3,cond_true,z1,grd_pos (by omega),grd_pos (by omega),Int.tdiv_neg,Int.tdiv_neg,← Int.neg_tdiv,← Int.neg_tdiv,w64' (n := (-n).tdiv _) (by omega) (by omega),w64' (n := (-d).tdiv _) (by omega) (by omega),impl_validRat,Option.bind_some]
     simp only [if_pos h3]
     cases validQ ((-n).tdiv (Int.gcd n d : Nat)) ((-d).tdiv (Int.gcd n d : Nat)) <;> rfl
    ·have b1 := tdiv_bd n (Int.gcd n d)
     have b2 := tdiv_bd d (Int.gcd n d)
     rw [decide_eq_false h3,cond_false,grd_pos (by omega),grd_pos (by omega),w64' (n := n.tdiv _) (by omega) (by omega),w64' (n := d.tdiv _) (by omega) (by omega),impl_validRat,Option.bind_some]
     simp only [if_neg h3]
     cases validQ (n.tdiv (Int.gcd n d : Nat)) (d.tdiv (Int.gcd n d : Nat)) <;> rfl
   ·rw [if_pos (.inr (.inr h2)),decide_eq_true h1,decide_eq_false h2]
    rfl
  ·rw [if_pos (.inr (.inl h1)),decide_eq_false h1]
   rfl
theorem ratOf_false {n d : Int} (h : (ratOf n d).2.2 = false) : ratOf n d = (0,0,false) := by
 unfold ratOf at h ⊢
 by_cases h1 : d = 0 ∨ ¬ (-1000000000000000000 ≤ n ∧ n ≤ 1000000000000000000) ∨ ¬ (-1000000000000000000 ≤ d ∧ d ≤ 1000000000000000000)
 ·rw [if_pos h1]
 ·rw [if_neg h1] at h ⊢
  by_cases h2 : validQ ((if d < 0 then -n else n).tdiv (Int.gcd n d : Nat)) ((if d < 0 then -d else d).tdiv (Int.gcd n d : Nat)) = true
  ·rw [if_pos h2] at h
   cases h
  ·rw [if_neg h2]
def addQ (a b c d : Int) : Int × Int × Bool := if validQ a b = true ∧ validQ c d = true then ratOf (a * d + c * b) (b * d) else (0,0,false)
def subQ (a b c d : Int) : Int × Int × Bool := if validQ a b = true ∧ validQ c d = true then ratOf (a * d - c * b) (b * d) else (0,0,false)
theorem prodBd {a b c d : Int} (v1 : validQ a b = true) (v2 : validQ c d = true) : (-1000000000000000000 ≤ a * d ∧ a * d ≤ 1000000000000000000) ∧ (-1000000000000000000 ≤ c * b ∧ c * b ≤ 1000000000000000000) ∧ (-1000000000000000000 ≤ b * d ∧ b * d ≤ 1000000000000000000) ∧ (-1000000000000000000 ≤ a * c ∧ a * c ≤ 1000000000000000000) ∧ (-1000000000000000000 ≤ b * c ∧ b * c ≤ 1000000000000000000) := by
 have h1 := validQ_bd v1
 have h2 := validQ_bd v2
 exact ⟨mul_bd (by omega) (by omega),mul_bd (by omega) (by omega),mul_bd (by omega) (by omega),mul_bd (by omega) (by omega),mul_bd (by omega) (by omega)⟩
theorem spec_add (a b c d : Int) : m_spec_AddRat a b c d = some (addQ a b c d) := by
 unfold m_spec_AddRat addQ
 rw [spec_validRat,spec_validRat]
 cases h1 : validQ a b with
 | false => rfl
 | true =>
  cases h2 : validQ c d with
  | false => rfl
  | true =>
   obtain ⟨b1,b2,b3,_⟩ := prodBd h1 h2
   simp only [Option.bind_some,Bool.not_true,cond_false,and_self,if_true]
   rw [w64' (n := a * d) (by omega) (by omega),w64' (n := c * b) (by omega) (by omega),w64' (by omega) (by omega),w64' (by omega) (by omega),spec_ratOf]
   rfl
theorem impl_add (a b c d : Int) : m_impl_AddRat a b c d = some (addQ a b c d) := by
 rw [← spec_add]
 unfold m_impl_AddRat m_spec_AddRat
 rw [spec_validRat,spec_validRat,impl_validRat,impl_validRat,spec_ratOf,impl_ratOf]
theorem impl_has (s k : Nat) (hs : s < 32) (hk : k < 5) : m_impl_HasPlayer (s : Int) (k : Int) = some (s.testBit k) := by
 unfold m_impl_HasPlayer
 rw [decide_eq_true (by omega),cond_true,within_eq,decide_eq_true (by omega),Option.bind_some,cond_true,grd_pos (by omega),and_eq s k hs hk]
 cases s.testBit k <;> rfl
def mems (s : Nat) : List Int := fil s.testBit (fun k => (k : Int)) 5
theorem spec_members (s : Nat) (hs : s < 32) : m_spec_MembersOf (s : Int) = some (mems s) := by
 unfold m_spec_MembersOf
 have hit := iter_up (step := l_spec_MembersOf_0 (s : Int)) (fun k => ((k : Int),fil s.testBit (fun k => (k : Int)) k)) 5 (a := mems s) (fun k hk => by
   have hb := fil_length s.testBit (fun k => (k : Int)) k
   unfold l_spec_MembersOf_0
   dsimp only
   rw [decide_eq_true (by omega),cond_true,good_eq s hs,Option.bind_some,cond_true,spec_has s k hs hk,Option.bind_some,w64' (by omega) (by omega),fil_succ,grd_pos (by simp only [List.length_singleton,room]; omega)]
   cases s.testBit k <;> rfl)
  (by unfold l_spec_MembersOf_0; dsimp only; rw [decide_eq_false (by omega)]; rfl)
 have e : fil s.testBit (fun k => (k : Int)) 0 = [] := rfl
 simp only [Int.natCast_zero,e] at hit
 rw [hit]
 rfl
theorem impl_members (s : Nat) (hs : s < 32) : m_impl_MembersOf (s : Int) = some (mems s) := by
 unfold m_impl_MembersOf
 have hit := iter_up (step := l_impl_MembersOf_0 (s : Int)) (fun k => ((k : Int),fil s.testBit (fun k => (k : Int)) k)) 5 (a := mems s) (fun k hk => by
   have hb := fil_length s.testBit (fun k => (k : Int)) k
   unfold l_impl_MembersOf_0
   dsimp only
   rw [decide_eq_true (by omega),cond_true,impl_has s k hs hk,Option.bind_some,w64' (by omega) (by omega),fil_succ,grd_pos (by simp only [List.length_singleton,room]; omega)]
   cases s.testBit k <;> rfl)
  (by unfold l_impl_MembersOf_0; dsimp only; rw [decide_eq_false (by omega)]; rfl)
 have e : fil s.testBit (fun k => (k : Int)) 0 = [] := rfl
 simp only [Int.natCast_zero,e] at hit
 rw [within_eq,decide_eq_true (by omega),Option.bind_some,Bool.not_true,cond_false,hit]
 rfl
theorem mems_mem {s : Nat} {m : Int} (h : m ∈ mems s) : ∃ k : Nat,m = (k : Int) ∧ k < 5 ∧ s.testBit k = true := by
 simp only [mems,fil,List.mem_map,List.mem_filter,List.mem_range] at h
 obtain ⟨k,⟨h1,h2⟩,h3⟩ := h
 exact ⟨k,h3.symm,h1,h2⟩
theorem mems_length (s : Nat) : (mems s).length ≤ 5 := fil_length _ _ _
def shareFrom (x : List Q) : List Int → Int → Int → (Int × Int) ⊕ (Int × Int × Bool)
 | [],a,b => .inl (a,b)
 | m :: r,a,b => if m ≥ (x.length : Int) then .inr (0,0,false) else match addQ a b (x.getD m.toNat ⟨0,0⟩).num (x.getD m.toNat ⟨0,0⟩).den with
  | (c,d,true) => shareFrom x r c d
  | (_,_,false) => .inr (0,0,false)
def shareF (x : List Q) (s : Nat) : Int × Int × Bool := match shareFrom x (mems s) 0 1 with
 | .inl (a,b) => (a,b,true)
 | .inr r => r
theorem share_loop (x : List Q) (ms : List Int) (hm : ∀ m ∈ ms,0 ≤ m) (hl : ms.length ≤ 5) : ∀ (k i : Nat) (a b : Int),ms.length - i = k → i ≤ ms.length → iter (l_spec_ShareOf_0 x ms) ((i : Int),a,b) = some (shareFrom x (ms.drop i) a b) := by
 intro k
 induction k with
 | zero =>
  intro i a b h1 h2
  rw [List.drop_eq_nil_of_le (by omega)]
  refine iter_done ?_
  unfold l_spec_ShareOf_0
  dsimp only
  rw [decide_eq_false (by omega)]
  rfl
 | succ k ih =>
  intro i a b h1 h2
  have hi : i < ms.length := by omega
  have hd : ms.getD i 0 = ms[i] := by simp [List.getD,List.getElem?_eq_getElem hi]
  have h0 : 0 ≤ ms[i] := hm _ (List.getElem_mem hi)
  have hg : (0 : Int) ≤ (i : Int) ∧ (i : Int) < (ms.length : Int) := by omega
  rw [List.drop_eq_getElem_cons hi]
  unfold shareFrom
  by_cases hge : ms[i] ≥ (x.length : Int)
  ·rw [if_pos hge]
   refine iter_done ?_
   unfold l_spec_ShareOf_0
   dsimp only
   rw [decide_eq_true (by omega),cond_true,grd_pos hg,getD_nat,hd,decide_eq_true hge]
   rfl
  ·rw [if_neg hge]
   have hr : (0 : Int) ≤ ms[i] ∧ ms[i] < (x.length : Int) := by omega
   rcases hq : addQ a b (x.getD ms[i].toNat ⟨0,0⟩).num (x.getD ms[i].toNat ⟨0,0⟩).den with ⟨c,d,ok⟩
   cases ok with
   | false =>
    refine iter_done ?_
    unfold l_spec_ShareOf_0
    dsimp only
    rw [decide_eq_true (by omega),cond_true,getD_nat,hd,decide_eq_false hge]
    simp only [grd_pos hg,grd_pos hr,cond_false,spec_add,hq,Option.bind_some,Bool.not_false,cond_true]
   | true =>
    have hs : l_spec_ShareOf_0 x ms ((i : Int),a,b) = some (.inl (((i + 1 : Nat) : Int),c,d)) := by
     unfold l_spec_ShareOf_0
     dsimp only
     rw [decide_eq_true (by omega),cond_true,getD_nat,hd,decide_eq_false hge,w64' (n := (i : Int) + 1) (by omega) (by omega)]
     simp only [grd_pos hg,grd_pos hr,cond_false,spec_add,hq,Option.bind_some,Bool.not_true]
     rfl
    rw [iter_next hs]
    exact ih (i + 1) c d (by omega) (by omega)
theorem share_step (x : List Q) (ms : List Int) : l_impl_ShareOf_0 x ms = l_spec_ShareOf_0 x ms := by
 funext ⟨v5,v6,v7⟩
 unfold l_impl_ShareOf_0 l_spec_ShareOf_0
 dsimp only
 simp only [impl_add,spec_add]
 by_cases h : (0 : Int) ≤ v5 ∧ v5 < (ms.length : Int)
 ·simp only [grd_pos h]
 ·simp only [grd_neg h]
theorem spec_share (x : List Q) (s : Nat) (hs : s < 32) : m_spec_ShareOf x (s : Int) = some (shareF x s) := by
 unfold m_spec_ShareOf m_spec_l3Int
 have h := share_loop x (mems s) (fun m hm => by obtain ⟨k,rfl,_⟩ := mems_mem hm; omega) (mems_length s) _ 0 0 1 rfl (by omega)
 rw [List.drop_zero] at h
 simp only [Int.natCast_zero] at h
 rw [Option.bind_some]
 dsimp only
 rw [decide_eq_false (by omega),cond_false,decide_eq_false (by omega),cond_false,spec_members s hs,Option.bind_some,h]
 unfold shareF
 rcases shareFrom x (mems s) 0 1 with ⟨a,b⟩ | r <;> rfl
theorem impl_share (x : List Q) (s : Nat) (hs : s < 32) : m_impl_ShareOf x (s : Int) = some (shareF x s) := by
 unfold m_impl_ShareOf m_impl_whole
 have h := share_loop x (mems s) (fun m hm => by obtain ⟨k,rfl,_⟩ := mems_mem hm; omega) (mems_length s) _ 0 0 1 rfl (by omega)
 rw [List.drop_zero] at h
 simp only [Int.natCast_zero] at h
 rw [within_eq,decide_eq_true (by omega),Option.bind_some,Bool.not_true,cond_false,Option.bind_some]
 dsimp only
 rw [impl_members s hs,Option.bind_some,share_step,h]
 unfold shareF
 rcases shareFrom x (mems s) 0 1 with ⟨a,b⟩ | r <;> rfl
theorem share_out (x : List Q) (s : Int) (h : s < 0 ∨ 31 < s) : m_spec_ShareOf x s = some (0,0,false) ∧ m_impl_ShareOf x s = some (0,0,false) := by
 constructor
 ·unfold m_spec_ShareOf m_spec_l3Int
  rw [Option.bind_some]
  dsimp only
  by_cases h1 : s < 0
  ·rw [decide_eq_true h1]
   rfl
  ·rw [decide_eq_false h1,cond_false,decide_eq_true (by omega)]
   rfl
 ·unfold m_impl_ShareOf
  rw [within_eq,decide_eq_false (by omega)]
  rfl
theorem share_both (x : List Q) (s : Int) : ∃ a b c,m_spec_ShareOf x s = some (a,b,c) ∧ m_impl_ShareOf x s = some (a,b,c) := by
 by_cases h : s < 0 ∨ 31 < s
 ·obtain ⟨h1,h2⟩ := share_out x s h
  exact ⟨_,_,_,h1,h2⟩
 ·obtain ⟨S,rfl⟩ := Int.eq_ofNat_of_zero_le (show 0 ≤ s by omega)
  exact ⟨_,_,_,spec_share x S (by omega),impl_share x S (by omega)⟩
theorem find_all (n : Nat) (p : Nat → Bool) : (List.range n).find? (fun i => !p i) = none ↔ (List.range n).all p = true := by
 rw [List.find?_eq_none,List.all_eq_true]
 constructor
 ·intro h i hi
  have := h i hi
  simpa using this
 ·intro h i hi
  have := h i hi
  simpa using this
theorem validQ_neg (c d : Int) : validQ (-c) d = validQ c d := by
 unfold validQ
 rw [Int.neg_gcd]
 congr 1
 apply propext
 constructor <;> (rintro ⟨h1,h2,h3,h4,h5⟩; exact ⟨h1,h2,by omega,by omega,h5⟩)
theorem spec_sub (a b c d : Int) : m_spec_SubRat a b c d = some (subQ a b c d) := by
 unfold m_spec_SubRat
 rw [spec_validRat,Option.bind_some]
 cases h2 : validQ c d with
 | false =>
  have : ¬ (validQ a b = true ∧ validQ c d = true) := fun h => by rw [h2] at h; cases h.2
  unfold subQ
  rw [if_neg this]
  rfl
 | true =>
  have v2 := validQ_bd h2
  rw [Bool.not_true,cond_false,w64' (by omega) (by omega),spec_add]
  have e : (0 - c) = -c := by omega
  rw [e]
  unfold addQ subQ
  rw [validQ_neg,Int.neg_mul,← Int.sub_eq_add_neg]
  rfl
theorem impl_sub (a b c d : Int) : m_impl_SubRat a b c d = some (subQ a b c d) := by
 unfold m_impl_SubRat subQ
 rw [impl_validRat,impl_validRat]
 cases h1 : validQ a b with
 | false => rfl
 | true =>
  cases h2 : validQ c d with
  | false => rfl
  | true =>
   obtain ⟨b1,b2,b3,_⟩ := prodBd h1 h2
   simp only [Option.bind_some,Bool.not_true,cond_false,and_self,if_true]
   rw [w64' (n := a * d) (by omega) (by omega),w64' (n := c * b) (by omega) (by omega),w64' (by omega) (by omega),w64' (by omega) (by omega),impl_ratOf]
   rfl
theorem subQ_false {a b c d : Int} (h : (subQ a b c d).2.2 = false) : subQ a b c d = (0,0,false) := by
 unfold subQ at h ⊢
 split
 ·rename_i hv
  rw [if_pos hv] at h
  exact ratOf_false h
 ·rfl
theorem validQ_00 : validQ 0 0 = false := by decide
theorem subQ_00 (a b : Int) : subQ a b 0 0 = (0,0,false) := by
 unfold subQ
 rw [validQ_00]
 simp
theorem shareFrom_inr (x : List Q) : ∀ (ms : List Int) (a b : Int) (r : Int × Int × Bool),shareFrom x ms a b = .inr r → r = (0,0,false)
 | [],a,b,r,h => by cases h
 | m :: ms,a,b,r,h => by
  unfold shareFrom at h
  split at h
  ·injection h with h
   exact h.symm
  ·split at h
   ·exact shareFrom_inr x ms _ _ r h
   ·injection h with h
    exact h.symm
theorem shareF_false {x : List Q} {s : Nat} (h : (shareF x s).2.2 = false) : shareF x s = (0,0,false) := by
 unfold shareF at h ⊢
 rcases hs : shareFrom x (mems s) 0 1 with ⟨a,b⟩ | r
 ·rw [hs] at h; cases h
 ·exact shareFrom_inr x _ _ _ r hs
def excessF (l : List Int) (x : List Q) (s : Nat) : Int × Int × Bool := subQ (l.getD s 0) 1 (shareF x s).1 (shareF x s).2.1
theorem spec_excess (N : Nat) (l : List Int) (x : List Q) (s : Nat) (hv : validB (N : Int) l = true) (hs : s < l.length) : m_spec_ExcessOf (N : Int) l x (s : Int) = some (excessF l x s) := by
 obtain ⟨N',hN',_,h2,h3,h4⟩ := valid_nat ((validB_eq _ l).1 hv)
 unfold m_spec_ExcessOf excessF
 rw [spec_valid _ l (by omega),hv,Option.bind_some,Bool.not_true,cond_false,w64' (n := (l.length : Int) - 1) (by omega) (by omega),in_eq,decide_eq_true (by omega),Option.bind_some,Bool.not_true,cond_false,spec_share x s (by omega),Option.bind_some]
 have hsf := shareF_false (x := x) (s := s)
 rcases hq : shareF x s with ⟨a,b,c⟩
 rw [hq] at hsf
 dsimp only at hsf ⊢
 rw [grd_pos (by omega),getD_nat]
 unfold m_spec_l3Int
 rw [Option.bind_some]
 dsimp only
 rw [spec_sub,Option.bind_some]
 have hdf := subQ_false (a := l.getD s 0) (b := 1) (c := a) (d := b)
 rcases hd : subQ (l.getD s 0) 1 a b with ⟨e,f,o⟩
 rw [hd] at hdf
 dsimp only at hdf ⊢
 cases c with
 | false =>
  have h0 := hsf rfl
  simp only [Prod.mk.injEq,and_true] at h0
  obtain ⟨rfl,rfl⟩ := h0
  rw [subQ_00] at hd
  simp only [Prod.mk.injEq] at hd
  obtain ⟨rfl,rfl,rfl⟩ := hd
  rfl
 | true =>
  cases o with
  | false =>
   have h0 := hdf rfl
   simp only [Prod.mk.injEq,and_true] at h0
   obtain ⟨rfl,rfl⟩ := h0
   rfl
  | true => rfl
theorem impl_excess (N : Nat) (l : List Int) (x : List Q) (s : Nat) (hv : validB (N : Int) l = true) (hs : s < l.length) : m_impl_ExcessOf (N : Int) l x (s : Int) = some (excessF l x s) := by
 obtain ⟨N',hN',_,h2,h3,h4⟩ := valid_nat ((validB_eq _ l).1 hv)
 unfold m_impl_ExcessOf excessF
 rw [impl_valid _ l (by omega),hv,Option.bind_some,Bool.not_true,cond_false,w64' (n := (l.length : Int) - 1) (by omega) (by omega),within_eq,decide_eq_true (by omega),Option.bind_some,Bool.not_true,cond_false,impl_share x s (by omega),Option.bind_some]
 have hsf := shareF_false (x := x) (s := s)
 rcases hq : shareF x s with ⟨a,b,c⟩
 rw [hq] at hsf
 dsimp only at hsf ⊢
 cases c with
 | false =>
  have h0 := hsf rfl
  simp only [Prod.mk.injEq,and_true] at h0
  obtain ⟨rfl,rfl⟩ := h0
  rw [subQ_00]
  rfl
 | true =>
  rw [Bool.not_true,cond_false,grd_pos (by omega),getD_nat]
  unfold m_impl_whole
  rw [Option.bind_some]
  dsimp only
  rw [impl_sub]
  rfl
theorem excess_both (n : Int) (l : List Int) (x : List Q) (s : Int) (hl : l.length ≤ 1048576) : ∃ a b c,m_spec_ExcessOf n l x s = some (a,b,c) ∧ m_impl_ExcessOf n l x s = some (a,b,c) := by
 cases hv : validB n l with
 | false =>
  refine ⟨0,0,false,?_,?_⟩
  ·unfold m_spec_ExcessOf
   rw [spec_valid n l hl,hv]
   rfl
  ·unfold m_impl_ExcessOf
   rw [impl_valid n l hl,hv]
   rfl
 | true =>
  obtain ⟨N,rfl,h1,h2,h3,h4⟩ := valid_nat ((validB_eq n l).1 hv)
  by_cases hs : 0 ≤ s ∧ s ≤ (l.length : Int) - 1
  ·obtain ⟨S,rfl⟩ := Int.eq_ofNat_of_zero_le hs.1
   exact ⟨_,_,_,spec_excess N l x S hv (by omega),impl_excess N l x S hv (by omega)⟩
  ·refine ⟨0,0,false,?_,?_⟩
   ·unfold m_spec_ExcessOf
    rw [spec_valid _ l hl,hv,Option.bind_some,Bool.not_true,cond_false,w64' (n := (l.length : Int) - 1) (by omega) (by omega),in_eq,decide_eq_false hs]
    rfl
   ·unfold m_impl_ExcessOf
    rw [impl_valid _ l hl,hv,Option.bind_some,Bool.not_true,cond_false,w64' (n := (l.length : Int) - 1) (by omega) (by omega),within_eq,decide_eq_false hs]
    rfl
def allB (l : List Q) : Bool := (List.range l.length).all fun i => validQ (l.getD i ⟨0,0⟩).num (l.getD i ⟨0,0⟩).den
theorem spec_allv (l : List Q) (hl : l.length ≤ 1048576) : m_spec_AllValid l = some (allB l) := by
 unfold m_spec_AllValid
 have hit := iter_findc (step := l_spec_AllValid_0 l) (fun i => (i : Int)) l.length (fun i => !(validQ (l.getD i ⟨0,0⟩).num (l.getD i ⟨0,0⟩).den)) (.inl ()) (fun _ => .inr false)
  (fun i hi => by
   unfold l_spec_AllValid_0
   rw [decide_eq_true (by omega),cond_true,grd_pos (by omega),getD_nat,spec_validRat,w64' (by omega) (by omega),Option.bind_some]
   cases validQ (l.getD i ⟨0,0⟩).num (l.getD i ⟨0,0⟩).den <;> rfl)
  (by unfold l_spec_AllValid_0; rw [decide_eq_false (by omega)]; rfl)
 simp only [Int.natCast_zero] at hit
 rw [hit]
 have hf := find_all l.length (fun i => validQ (l.getD i ⟨0,0⟩).num (l.getD i ⟨0,0⟩).den)
 unfold allB
 cases hfd : (List.range l.length).find? (fun i => !(validQ (l.getD i ⟨0,0⟩).num (l.getD i ⟨0,0⟩).den)) with
 | none => rw [hf.1 hfd]; rfl
 | some i =>
  cases hall : (List.range l.length).all (fun i => validQ (l.getD i ⟨0,0⟩).num (l.getD i ⟨0,0⟩).den) with
  | false => rfl
  | true => rw [hf.2 hall] at hfd; cases hfd
theorem impl_allv (l : List Q) (hl : l.length ≤ 1048576) : m_impl_AllValid l = some (allB l) := by
 unfold m_impl_AllValid m_slices_ContainsFunc_impl_Rat_impl_Rat_impl_AllValid_1 m_slices_IndexFunc_impl_Rat_impl_Rat_impl_AllValid_1
 have hit := iter_findc (step := l_slices_IndexFunc_impl_Rat_impl_Rat_impl_AllValid_1_0 l) (fun i => (i : Int)) l.length (fun i => !(validQ (l.getD i ⟨0,0⟩).num (l.getD i ⟨0,0⟩).den)) (.inl ()) (fun i => .inr (i : Int))
  (fun i hi => by
   unfold l_slices_IndexFunc_impl_Rat_impl_Rat_impl_AllValid_1_0 m_impl_AllValid_1
   rw [decide_eq_true (by omega),cond_true,grd_pos (by omega),getD_nat,impl_validRat,w64' (by omega) (by omega),Option.bind_some,Option.bind_some]
   cases validQ (l.getD i ⟨0,0⟩).num (l.getD i ⟨0,0⟩).den <;> rfl)
  (by unfold l_slices_IndexFunc_impl_Rat_impl_Rat_impl_AllValid_1_0; rw [decide_eq_false (by omega)]; rfl)
 simp only [Int.natCast_zero] at hit
 rw [hit]
 have hf := find_all l.length (fun i => validQ (l.getD i ⟨0,0⟩).num (l.getD i ⟨0,0⟩).den)
 unfold allB
 cases hfd : (List.range l.length).find? (fun i => !(validQ (l.getD i ⟨0,0⟩).num (l.getD i ⟨0,0⟩).den)) with
 | none => rw [hf.1 hfd]; rfl
 | some i =>
  cases hall : (List.range l.length).all (fun i => validQ (l.getD i ⟨0,0⟩).num (l.getD i ⟨0,0⟩).den) with
  | false =>
   simp only [Option.bind_some]
   rw [decide_eq_true (by omega)]
   rfl
  | true => rw [hf.2 hall] at hfd; cases hfd
theorem grand_val (N : Nat) (l : List Int) (hv : validB (N : Int) l = true) : m_spec_GrandValue (N : Int) l = some (l.getD (l.length - 1) 0) ∧ m_impl_GrandValue (N : Int) l = some (l.getD (l.length - 1) 0) := by
 obtain ⟨N',hN',_,h2,h3,h4⟩ := valid_nat ((validB_eq _ l).1 hv)
 have hp : 0 < l.length := by rw [h3]; exact Nat.pow_pos (by decide)
 have e : ((l.length : Int) - 1).toNat = l.length - 1 := by omega
 constructor
 ·unfold m_spec_GrandValue
  rw [spec_valid _ l (by omega),hv,Option.bind_some,Bool.not_true,cond_false,w64' (by omega) (by omega),grd_pos (by omega),e]
 ·unfold m_impl_GrandValue
  rw [impl_valid _ l (by omega),hv,Option.bind_some,Bool.not_true,cond_false,w64' (by omega) (by omega),grd_pos (by omega),e]
noncomputable def payB (n : Int) (l : List Int) (x : List Q) : Bool := validB n l && ((x.length : Int) == n && (allB x && decide (shareF x (l.length - 1) = (l.getD (l.length - 1) 0,1,true))))
theorem share_is {α : Type} (r : Int × Int × Bool) (v : Int) (f : Bool → α) : (bif r.2.2 then f (r.1 == v && r.2.1 == 1) else f false) = f (decide (r = (v,1,true))) := by
 obtain ⟨a,b,c⟩ := r
 cases c with
 | false => simp
 | true =>
  by_cases h : a = v ∧ b = 1
  ·simp [h.1,h.2]
  ·have h1 : (a == v && b == 1) = false := by
    rw [← Bool.not_eq_true]
    simpa using h
   have h2 : ¬ ((a,b,true) = (v,(1 : Int),true)) := fun e => h (by simpa using e)
   rw [decide_eq_false h2]
   simp [h1]
theorem spec_payoff (n : Int) (l : List Int) (x : List Q) (hl : l.length ≤ 1048576) (hx : x.length ≤ 1048576) : m_spec_IsPayoff n l x = some (payB n l x) := by
 unfold m_spec_IsPayoff payB
 rw [spec_valid n l hl]
 cases hv : validB n l with
 | false => rfl
 | true =>
  obtain ⟨N,rfl,h1,h2,h3,h4⟩ := valid_nat ((validB_eq n l).1 hv)
  have hp : 0 < l.length := by rw [h3]; exact Nat.pow_pos (by decide)
  have e : (l.length : Int) - 1 = ((l.length - 1 : Nat) : Int) := by omega
  simp only [Option.bind_some,Bool.not_true,cond_false,Bool.true_and]
  rw [spec_allv x hx,w64' (n := (l.length : Int) - 1) (by omega) (by omega),e,spec_share x _ (by omega),(grand_val N l hv).1]
  unfold m_spec_l3Int
  have hne : ((x.length : Int) != (N : Int)) = !((x.length : Int) == (N : Int)) := rfl
  rw [hne]
  cases (x.length : Int) == (N : Int) with
  | false => rfl
  | true =>
   simp only [Option.bind_some,Bool.not_true,cond_false,Bool.true_and]
   cases allB x with
   | false => rfl
   | true =>
    simp only [Bool.not_true,cond_false,Bool.true_and]
    exact share_is (shareF x (l.length - 1)) (l.getD (l.length - 1) 0) some
theorem impl_payoff (n : Int) (l : List Int) (x : List Q) (hl : l.length ≤ 1048576) (hx : x.length ≤ 1048576) : m_impl_IsPayoff n l x = some (payB n l x) := by
 unfold m_impl_IsPayoff payB
 rw [impl_valid n l hl]
 cases hv : validB n l with
 | false => rfl
 | true =>
  obtain ⟨N,rfl,h1,h2,h3,h4⟩ := valid_nat ((validB_eq n l).1 hv)
  have hp : 0 < l.length := by rw [h3]; exact Nat.pow_pos (by decide)
  have e : (l.length : Int) - 1 = ((l.length - 1 : Nat) : Int) := by omega
  simp only [Option.bind_some,Bool.not_true,cond_false,Bool.true_and]
  rw [impl_allv x hx,w64' (n := (l.length : Int) - 1) (by omega) (by omega),e,impl_share x _ (by omega),(grand_val N l hv).2]
  unfold m_impl_whole
  have hne : ((x.length : Int) != (N : Int)) = !((x.length : Int) == (N : Int)) := rfl
  rw [hne]
  cases (x.length : Int) == (N : Int) with
  | false => rfl
  | true =>
   simp only [Option.bind_some,Bool.not_true,cond_false,Bool.true_and]
   cases allB x with
   | false => rfl
   | true =>
    simp only [Bool.not_true,cond_false,Bool.true_and]
    exact share_is (shareF x (l.length - 1)) (l.getD (l.length - 1) 0) some
theorem find_imp (n : Nat) (p : Nat → Bool) (pay : Bool) : (match (List.range n).find? p with
   | some _ => (.inr false : Unit ⊕ Bool)
   | none => .inl ()) = (if (List.range n).any p = true then .inr false else .inl ()) := by
 cases h : (List.range n).find? p with
 | none =>
  rw [List.find?_eq_none] at h
  have : (List.range n).any p = false := by
   rw [← Bool.not_eq_true]
   intro h'
   rw [List.any_eq_true] at h'
   obtain ⟨x,h1,h2⟩ := h'
   exact h x h1 h2
  simp [this]
 | some i =>
  have h1 := List.find?_some h
  have h2 := List.mem_of_find?_eq_some h
  have : (List.range n).any p = true := List.any_eq_true.2 ⟨i,h2,h1⟩
  simp [this]
def impP (l : List Int) (x : List Q) (k : Nat) : Bool := decide (cmpQ (x.getD k ⟨0,0⟩).num (x.getD k ⟨0,0⟩).den (l.getD (2 ^ k) 0) 1 < 0)
theorem spec_val (n : Int) (l : List Int) (s : Nat) (hl : l.length ≤ 1048576) : m_spec_ValueOf n l (s : Int) = some (l.getD s 0) := by
 unfold m_spec_ValueOf
 rw [in_eq,w64' (by omega) (by omega),Option.bind_some]
 by_cases h : s < l.length
 ·rw [decide_eq_true (by omega),Bool.not_true,cond_false,grd_pos (by omega),getD_nat]
 ·rw [decide_eq_false (by omega),Bool.not_false,cond_true]
  simp [List.getD,List.getElem?_eq_none (show l.length ≤ s by omega)]
theorem imp_both (n : Int) (l : List Int) (x : List Q) (hl : l.length ≤ 1048576) (hx : x.length ≤ 1048576) : ∃ r,m_spec_IsImputation n l x = some r ∧ m_impl_IsImputation n l x = some r := by
 unfold m_spec_IsImputation m_impl_IsImputation
 have s1 := iter_findc (step := l_spec_IsImputation_0 n l x) (fun k => (k : Int)) (min x.length 5) (impP l x) (.inl ()) (fun _ => .inr false)
  (fun k hk => by
   have e : (2 : Int) ^ k = ((2 ^ k : Nat) : Int) := by simp
   unfold l_spec_IsImputation_0 m_spec_l3Int
   rw [decide_eq_true (by omega),cond_true,decide_eq_true (by omega),cond_true,grd_pos (by omega),getD_nat,bit2 k (by omega),Option.bind_some,e,spec_val n l _ hl,Option.bind_some,Option.bind_some]
   dsimp only
   rw [spec_cmp,Option.bind_some,w64' (by omega) (by omega)]
   unfold impP
   cases decide (cmpQ (x.getD k ⟨0,0⟩).num (x.getD k ⟨0,0⟩).den (l.getD (2 ^ k) 0) 1 < 0) <;> rfl)
  (by
   unfold l_spec_IsImputation_0
   by_cases h : x.length ≤ 5
   ·rw [decide_eq_false (by omega)]
    rfl
   ·rw [decide_eq_true (by omega),cond_true,decide_eq_false (by omega)]
    rfl)
 simp only [Int.natCast_zero] at s1
 rw [find_imp _ _ true] at s1
 rw [s1,spec_payoff n l x hl hx,impl_payoff n l x hl hx]
 cases hp : payB n l x with
 | false =>
  cases (List.range (min x.length 5)).any (impP l x) with
  | false => exact ⟨false,rfl,rfl⟩
  | true => exact ⟨false,rfl,rfl⟩
 | true =>
  simp only [payB,Bool.and_eq_true] at hp
  obtain ⟨hv,hlen,_⟩ := hp
  obtain ⟨N,rfl,h1,h2,h3,h4⟩ := valid_nat ((validB_eq n l).1 hv)
  have hN : x.length = N := by
   have := of_decide_eq_true hlen
   omega
  have s2 := iter_findc (step := l_impl_IsImputation_0 l x) (fun k => (k : Int)) x.length (impP l x) (.inl ()) (fun _ => .inr false)
   (fun k hk => by
    have hb : 2 ^ k < 2 ^ N := Nat.pow_lt_pow_right (by decide) (by omega)
    have hp0 : 0 < 2 ^ k := Nat.pow_pos (by decide)
    unfold l_impl_IsImputation_0 m_impl_whole
    rw [decide_eq_true (by omega),cond_true,grd_pos (by omega),grd_pos (by omega),shl_eq k (by omega),grd_pos (by omega),getD_nat,getD_nat,Option.bind_some]
    dsimp only
    rw [impl_cmp,Option.bind_some,w64' (by omega) (by omega)]
    unfold impP
    cases decide (cmpQ (x.getD k ⟨0,0⟩).num (x.getD k ⟨0,0⟩).den (l.getD (2 ^ k) 0) 1 < 0) <;> rfl)
   (by unfold l_impl_IsImputation_0; rw [decide_eq_false (by omega)]; rfl)
  simp only [Int.natCast_zero] at s2
  rw [find_imp _ _ true] at s2
  have hm : min x.length 5 = x.length := by omega
  rw [hm]
  simp only [Option.bind_some,Bool.not_true,cond_false]
  rw [s2]
  cases (List.range x.length).any (impP l x) with
  | false => exact ⟨true,rfl,rfl⟩
  | true => exact ⟨false,rfl,rfl⟩
def exOk (l : List Int) (x : List Q) (s : Nat) : Bool := (excessF l x s).2.2
def exQ (l : List Int) (x : List Q) (s : Nat) : Q := ⟨(excessF l x s).1,(excessF l x s).2.1⟩
def exs (l : List Int) (x : List Q) (lo m : Nat) : Bool × List Q := if (List.range m).all (fun i => exOk l x (lo + i)) = true then (true,tab (fun i => exQ l x (lo + i)) m) else (false,[])
theorem all_first (m : Nat) (p : Nat → Bool) : ((List.range m).all p = true ∧ ∀ i,i < m → p i = true) ∨ ((List.range m).all p = false ∧ ∃ t,t < m ∧ p t = false ∧ ∀ i,i < t → p i = true) := by
 rcases first_bad m (fun i => p i = true) with h | ⟨t,h1,h2,h3⟩
 ·exact .inl ⟨List.all_eq_true.2 fun i hi => h i (List.mem_range.1 hi),h⟩
 ·refine .inr ⟨?_,t,h1,by simpa using h2,h3⟩
  rw [← Bool.not_eq_true]
  intro h
  exact h2 (List.all_eq_true.1 h t (List.mem_range.2 h1))
theorem spec_all (n : Int) (l : List Int) (x : List Q) (hp : payB n l x = true) (hl : l.length ≤ 1048576) (hx : x.length ≤ 1048576) : m_spec_l11All n l x = some (exs l x 1 (l.length - 2)) := by
 have hp' := hp
 simp only [payB,Bool.and_eq_true] at hp'
 obtain ⟨hv,_⟩ := hp'
 obtain ⟨N,rfl,h1,h2,h3,h4⟩ := valid_nat ((validB_eq n l).1 hv)
 have h5 : 2 ≤ l.length := by
  rw [h3]
  exact Nat.le_trans (by decide) (Nat.pow_le_pow_right (n := 2) (by decide) h1)
 have stp : ∀ i,i < l.length - 2 → exOk l x (1 + i) = true → l_spec_l11All_0 (N : Int) l x (((1 + i : Nat) : Int),tab (fun i => exQ l x (1 + i)) i) = some (.inl (((1 + (i + 1) : Nat) : Int),tab (fun i => exQ l x (1 + i)) (i + 1))) := by
  intro i hi hok
  unfold l_spec_l11All_0
  dsimp only
  rw [w64' (n := (l.length : Int) - 1) (by omega) (by omega),decide_eq_true (by omega),cond_true,spec_excess N l x _ hv (by omega),Option.bind_some]
  unfold exOk at hok
  rw [hok,tab_succ]
  simp only [Bool.not_true,cond_false]
  rw [grd_pos (by simp only [tab_length,List.length_singleton,room]; omega),w64' (by omega) (by omega)]
  rfl
 unfold m_spec_l11All exs
 rw [spec_payoff _ l x hl hx,hp,Option.bind_some,Bool.not_true,cond_false]
 rcases all_first (l.length - 2) (fun i => exOk l x (1 + i)) with ⟨ha,hall⟩ | ⟨ha,t,ht,hbad,hok⟩
 ·have s1 := iter_up (step := l_spec_l11All_0 (N : Int) l x) (fun i => (((1 + i : Nat) : Int),tab (fun i => exQ l x (1 + i)) i)) (l.length - 2) (a := .inl (tab (fun i => exQ l x (1 + i)) (l.length - 2))) (fun i hi => stp i hi (hall i hi))
   (by unfold l_spec_l11All_0; dsimp only; rw [w64' (by omega) (by omega),decide_eq_false (by omega)]; rfl)
  have e0 : tab (fun i => exQ l x (1 + i)) 0 = [] := rfl
  simp only [e0,Nat.add_zero,Int.natCast_one] at s1
  rw [s1,if_pos ha]
  rfl
 ·have s1 := iter_up (step := l_spec_l11All_0 (N : Int) l x) (fun i => (((1 + i : Nat) : Int),tab (fun i => exQ l x (1 + i)) i)) t (a := .inr (false,[])) (fun i hi => stp i (by omega) (hok i hi))
   (by
    unfold l_spec_l11All_0
    dsimp only
    unfold exOk at hbad
    rw [w64' (n := (l.length : Int) - 1) (by omega) (by omega),decide_eq_true (by omega),cond_true,spec_excess N l x _ hv (by omega),Option.bind_some,hbad]
    rfl)
  have e0 : tab (fun i => exQ l x (1 + i)) 0 = [] := rfl
  simp only [e0,Nat.add_zero,Int.natCast_one] at s1
  rw [s1,if_neg (by rw [ha]; decide)]
  rfl
theorem impl_exs (n : Int) (l : List Int) (x : List Q) (lo m : Nat) (hi : Int) (hhi : hi = (lo : Int) + m - 1) (hm : lo + m ≤ l.length) (hp : payB n l x = true) (hl : l.length ≤ 1048576) (hx : x.length ≤ 1048576) : m_impl_excesses n l x (lo : Int) hi = some (exs l x lo m) := by
 have hp' := hp
 simp only [payB,Bool.and_eq_true] at hp'
 obtain ⟨hv,_⟩ := hp'
 obtain ⟨N,rfl,h1,h2,h3,h4⟩ := valid_nat ((validB_eq n l).1 hv)
 subst hhi
 have stp : ∀ i,i < m → exOk l x (lo + i) = true → l_impl_excesses_0 (N : Int) l x ((lo : Int) + m - 1) (((lo + i : Nat) : Int),tab (fun i => exQ l x (lo + i)) i) = some (.inl (((lo + (i + 1) : Nat) : Int),tab (fun i => exQ l x (lo + i)) (i + 1))) := by
  intro i hi hok
  unfold l_impl_excesses_0
  dsimp only
  rw [decide_eq_true (by omega),cond_true,impl_excess N l x _ hv (by omega),Option.bind_some]
  unfold exOk at hok
  rw [hok,tab_succ]
  simp only [Bool.not_true,cond_false]
  rw [grd_pos (by simp only [tab_length,List.length_singleton,room]; omega),w64' (by omega) (by omega)]
  rfl
 unfold m_impl_excesses exs
 rw [impl_payoff _ l x hl hx,hp,Option.bind_some,Bool.not_true,cond_false]
 rcases all_first m (fun i => exOk l x (lo + i)) with ⟨ha,hall⟩ | ⟨ha,t,ht,hbad,hok⟩
 ·have s1 := iter_up (step := l_impl_excesses_0 (N : Int) l x ((lo : Int) + m - 1)) (fun i => (((lo + i : Nat) : Int),tab (fun i => exQ l x (lo + i)) i)) m (a := .inl (tab (fun i => exQ l x (lo + i)) m)) (fun i hi => stp i hi (hall i hi))
   (by unfold l_impl_excesses_0; dsimp only; rw [decide_eq_false (by omega)]; rfl)
  have e0 : tab (fun i => exQ l x (lo + i)) 0 = [] := rfl
  simp only [e0,Nat.add_zero] at s1
  rw [s1,if_pos ha]
  rfl
 ·have s1 := iter_up (step := l_impl_excesses_0 (N : Int) l x ((lo : Int) + m - 1)) (fun i => (((lo + i : Nat) : Int),tab (fun i => exQ l x (lo + i)) i)) t (a := .inr (false,[])) (fun i hi => stp i (by omega) (hok i hi))
   (by
    unfold l_impl_excesses_0
    dsimp only
    unfold exOk at hbad
    rw [decide_eq_true (by omega),cond_true,impl_excess N l x _ hv (by omega),Option.bind_some,hbad]
    rfl)
  have e0 : tab (fun i => exQ l x (lo + i)) 0 = [] := rfl
  simp only [e0,Nat.add_zero] at s1
  rw [s1,if_neg (by rw [ha]; decide)]
  rfl
theorem spec_all0 (n : Int) (l : List Int) (x : List Q) (hp : payB n l x = false) (hl : l.length ≤ 1048576) (hx : x.length ≤ 1048576) : m_spec_l11All n l x = some (false,[]) := by
 unfold m_spec_l11All
 rw [spec_payoff n l x hl hx,hp]
 rfl
theorem impl_exs0 (n : Int) (l : List Int) (x : List Q) (lo hi : Int) (hp : payB n l x = false) (hl : l.length ≤ 1048576) (hx : x.length ≤ 1048576) : m_impl_excesses n l x lo hi = some (false,[]) := by
 unfold m_impl_excesses
 rw [impl_payoff n l x hl hx,hp]
 rfl
def posP (e : List Q) (i : Nat) : Bool := decide ((e.getD i ⟨0,0⟩).num > 0)
theorem spec_pos (e : List Q) (he : e.length ≤ 1048576) : iter (l_spec_InCore_0 e) 0 = some (if (List.range e.length).any (posP e) = true then .inr false else .inl ()) := by
 have hit := iter_findc (step := l_spec_InCore_0 e) (fun i => (i : Int)) e.length (posP e) (.inl ()) (fun _ => .inr false)
  (fun i hi => by
   unfold l_spec_InCore_0 posP
   rw [decide_eq_true (by omega),cond_true,grd_pos (by omega),getD_nat,w64' (by omega) (by omega)]
   cases decide ((e.getD i ⟨0,0⟩).num > 0) <;> rfl)
  (by unfold l_spec_InCore_0; rw [decide_eq_false (by omega)]; rfl)
 simp only [Int.natCast_zero] at hit
 rw [find_imp _ _ true] at hit
 exact hit
theorem impl_pos (e : List Q) (he : e.length ≤ 1048576) : m_slices_ContainsFunc_impl_Rat_impl_Rat_impl_InCore_1 e = some ((List.range e.length).any (posP e)) := by
 unfold m_slices_ContainsFunc_impl_Rat_impl_Rat_impl_InCore_1 m_slices_IndexFunc_impl_Rat_impl_Rat_impl_InCore_1
 have hit := iter_findc (step := l_slices_IndexFunc_impl_Rat_impl_Rat_impl_InCore_1_0 e) (fun i => (i : Int)) e.length (posP e) (.inl ()) (fun i => .inr (i : Int))
  (fun i hi => by
   unfold l_slices_IndexFunc_impl_Rat_impl_Rat_impl_InCore_1_0 m_impl_InCore_1 posP
   rw [decide_eq_true (by omega),cond_true,grd_pos (by omega),getD_nat,Option.bind_some,w64' (by omega) (by omega)]
   cases decide ((e.getD i ⟨0,0⟩).num > 0) <;> rfl)
  (by unfold l_slices_IndexFunc_impl_Rat_impl_Rat_impl_InCore_1_0; rw [decide_eq_false (by omega)]; rfl)
 simp only [Int.natCast_zero] at hit
 rw [hit]
 cases h : (List.range e.length).find? (posP e) with
 | none =>
  rw [List.find?_eq_none] at h
  have : (List.range e.length).any (posP e) = false := by
   rw [← Bool.not_eq_true]
   intro h'
   rw [List.any_eq_true] at h'
   obtain ⟨x,h1,h2⟩ := h'
   exact h x h1 h2
  rw [this]
  rfl
 | some i =>
  have : (List.range e.length).any (posP e) = true := List.any_eq_true.2 ⟨i,List.mem_of_find?_eq_some h,List.find?_some h⟩
  rw [this]
  simp only [Option.bind_some]
  rw [decide_eq_true (by omega)]
theorem ratOf_01 : ratOf 0 1 = (0,1,true) := by decide +kernel
theorem validQ_int {v : Int} (h : -1000000000 ≤ v ∧ v ≤ 1000000000) : validQ v 1 = true := by
 unfold validQ
 rw [decide_eq_true ⟨by omega,by omega,h.1,h.2,by simp⟩]
theorem subQ_self {v : Int} (h : -1000000000 ≤ v ∧ v ≤ 1000000000) : subQ v 1 v 1 = (0,1,true) := by
 unfold subQ
 rw [if_pos ⟨validQ_int h,validQ_int h⟩]
 have e : v * 1 - v * 1 = 0 := by omega
 rw [e]
 exact ratOf_01
theorem ex_ends (n : Int) (l : List Int) (x : List Q) (hp : payB n l x = true) : excessF l x 0 = (0,1,true) ∧ excessF l x (l.length - 1) = (0,1,true) := by
 simp only [payB,Bool.and_eq_true] at hp
 obtain ⟨hv,_,_,hs⟩ := hp
 have hV := (validB_eq n l).1 hv
 obtain ⟨N,rfl,h1,h2,h3,h4⟩ := valid_nat hV
 have hpos : 0 < l.length := by rw [h3]; exact Nat.pow_pos (by decide)
 have hs := of_decide_eq_true hs
 constructor
 ·unfold excessF
  have e : shareF x 0 = (0,1,true) := rfl
  rw [e,hV.2.2.1]
  exact subQ_self (by omega)
 ·unfold excessF
  rw [hs]
  have := hV.2.2.2 (l.length - 1) (by omega)
  exact subQ_self (by omega)
theorem any_shift (l : List Int) (x : List Q) (m : Nat) (h0 : exQ l x 0 = ⟨0,1⟩) (h1 : exQ l x (m + 1) = ⟨0,1⟩) : (List.range (m + 2)).any (posP (tab (fun i => exQ l x (0 + i)) (m + 2))) = (List.range m).any (posP (tab (fun i => exQ l x (1 + i)) m)) := by
 have key : ∀ i,i < m → posP (tab (fun i => exQ l x (0 + i)) (m + 2)) (i + 1) = posP (tab (fun i => exQ l x (1 + i)) m) i := fun i hi => by
  unfold posP
  rw [tab_getD _ _ _ _ (show i + 1 < m + 2 by omega),tab_getD _ _ _ _ hi,show 0 + (i + 1) = 1 + i by omega]
 have k0 : posP (tab (fun i => exQ l x (0 + i)) (m + 2)) 0 = false := by
  unfold posP
  rw [tab_getD _ _ _ _ (show 0 < m + 2 by omega),h0]
  rfl
 have k1 : posP (tab (fun i => exQ l x (0 + i)) (m + 2)) (m + 1) = false := by
  unfold posP
  rw [tab_getD _ _ _ _ (show m + 1 < m + 2 by omega),Nat.zero_add,h1]
  rfl
 rw [Bool.eq_iff_iff,List.any_eq_true,List.any_eq_true]
 constructor
 ·rintro ⟨i,hi,hpi⟩
  have hi := List.mem_range.1 hi
  cases i with
  | zero => rw [k0] at hpi; cases hpi
  | succ i =>
   by_cases e : i = m
   ·subst e; rw [k1] at hpi; cases hpi
   ·exact ⟨i,List.mem_range.2 (by omega),by rw [← key i (by omega)]; exact hpi⟩
 ·rintro ⟨i,hi,hpi⟩
  have hi := List.mem_range.1 hi
  exact ⟨i + 1,List.mem_range.2 (by omega),by rw [key i hi]; exact hpi⟩
theorem all_shift (l : List Int) (x : List Q) (m : Nat) (h0 : exOk l x 0 = true) (h1 : exOk l x (m + 1) = true) : (List.range (m + 2)).all (fun i => exOk l x (0 + i)) = (List.range m).all (fun i => exOk l x (1 + i)) := by
 rw [Bool.eq_iff_iff,List.all_eq_true,List.all_eq_true]
 constructor
 ·intro h i hi
  have hi := List.mem_range.1 hi
  have := h (i + 1) (List.mem_range.2 (by omega))
  rw [show 0 + (i + 1) = 1 + i by omega] at this
  exact this
 ·intro h i hi
  have hi := List.mem_range.1 hi
  cases i with
  | zero => exact h0
  | succ i =>
   by_cases e : i = m
   ·subst e; rw [Nat.zero_add]; exact h1
   ·have := h i (List.mem_range.2 (by omega))
    rw [show 0 + (i + 1) = 1 + i by omega]
    exact this
theorem core_both (n : Int) (l : List Int) (x : List Q) (hl : l.length ≤ 1048576) (hx : x.length ≤ 1048576) : ∃ r,m_spec_InCore n l x = some r ∧ m_impl_InCore n l x = some r := by
 unfold m_spec_InCore m_impl_InCore
 cases hp : payB n l x with
 | false =>
  rw [spec_all0 n l x hp hl hx,impl_exs0 n l x _ _ hp hl hx,Option.bind_some,Option.bind_some]
  dsimp only
  rw [spec_pos [] (by simp)]
  exact ⟨false,rfl,rfl⟩
 | true =>
  have hp' := hp
  simp only [payB,Bool.and_eq_true] at hp'
  obtain ⟨N,hN,h1,h2,h3,h4⟩ := valid_nat ((validB_eq n l).1 hp'.1)
  have h5 : 2 ≤ l.length := by
   rw [h3]
   exact Nat.le_trans (by decide) (Nat.pow_le_pow_right (n := 2) (by decide) h1)
  obtain ⟨m,hm⟩ : ∃ m,l.length = m + 2 := ⟨l.length - 2,by omega⟩
  obtain ⟨e0,e1⟩ := ex_ends n l x hp
  rw [show l.length - 1 = m + 1 by omega] at e1
  have hi := impl_exs n l x 0 (m + 2) (IntKind.i64.wrap ((l.length : Int) - 1)) (by rw [w64' (by omega) (by omega)]; omega) (by omega) hp hl hx
  simp only [Int.natCast_zero] at hi
  rw [spec_all n l x hp hl hx,hi,show l.length - 2 = m by omega,Option.bind_some,Option.bind_some]
  unfold exs
  rw [all_shift l x m (by unfold exOk; rw [e0]) (by unfold exOk; rw [e1])]
  by_cases ha : (List.range m).all (fun i => exOk l x (1 + i)) = true
  ·rw [if_pos ha,if_pos ha]
   dsimp only
   rw [spec_pos _ (by rw [tab_length]; omega),impl_pos _ (by rw [tab_length]; omega),tab_length,tab_length,any_shift l x m (by unfold exQ; rw [e0]) (by unfold exQ; rw [e1])]
   cases (List.range m).any (posP (tab (fun i => exQ l x (1 + i)) m)) with
   | false => exact ⟨true,rfl,rfl⟩
   | true => exact ⟨false,rfl,rfl⟩
  ·rw [if_neg ha,if_neg ha]
   dsimp only
   rw [spec_pos [] (by simp)]
   exact ⟨false,rfl,rfl⟩
def maxF (e : List Q) : Nat → Q
 | 0 => e.getD 0 ⟨0,0⟩
 | k + 1 => if cmpQ (e.getD k ⟨0,0⟩).num (e.getD k ⟨0,0⟩).den (maxF e k).num (maxF e k).den > 0 then e.getD k ⟨0,0⟩ else maxF e k
theorem maxF_one (e : List Q) : maxF e 1 = e.getD 0 ⟨0,0⟩ := by
 show (if cmpQ (e.getD 0 ⟨0,0⟩).num (e.getD 0 ⟨0,0⟩).den (e.getD 0 ⟨0,0⟩).num (e.getD 0 ⟨0,0⟩).den > 0 then e.getD 0 ⟨0,0⟩ else e.getD 0 ⟨0,0⟩) = _
 split <;> rfl
def eqL (e : List Q) (q : Q) : List Int := fil (fun k => (e.getD k ⟨0,0⟩).num == q.num && (e.getD k ⟨0,0⟩).den == q.den) (fun k => (k : Int) + 1) e.length
theorem spec_max (e : List Q) (he : e.length ≤ 1048576) : iter (l_spec_WorstExcess_0 e) ((0 : Int),(e.getD (0 : Int).toNat ⟨0,0⟩).num,(e.getD (0 : Int).toNat ⟨0,0⟩).den) = some ((maxF e e.length).num,(maxF e e.length).den) := by
 have hit := iter_up (step := l_spec_WorstExcess_0 e) (fun k => ((k : Int),(maxF e k).num,(maxF e k).den)) e.length (a := ((maxF e e.length).num,(maxF e e.length).den)) (fun k hk => by
   have hg : (0 : Int) ≤ (k : Int) ∧ (k : Int) < (e.length : Int) := by omega
   unfold l_spec_WorstExcess_0
   dsimp only
   rw [decide_eq_true (by omega),cond_true,getD_nat,spec_cmp,w64' (by omega) (by omega)]
   simp only [grd_pos hg,Option.bind_some,maxF]
   by_cases h : cmpQ (e.getD k ⟨0,0⟩).num (e.getD k ⟨0,0⟩).den (maxF e k).num (maxF e k).den > 0
   ·rw [decide_eq_true h,if_pos h]
    rfl
   ·rw [decide_eq_false h,if_neg h]
    rfl)
  (by unfold l_spec_WorstExcess_0; dsimp only; rw [decide_eq_false (by omega)]; rfl)
 exact hit
theorem impl_max (e : List Q) (he : e.length ≤ 1048576) (hp : 0 < e.length) : m_slices_MaxFunc_impl_Rat_impl_Rat_impl_CompareRat e = some ((maxF e e.length).num,(maxF e e.length).den) := by
 unfold m_slices_MaxFunc_impl_Rat_impl_Rat_impl_CompareRat
 have hit := iter_up (step := l_slices_MaxFunc_impl_Rat_impl_Rat_impl_CompareRat_0 e) (fun k => (((k + 1 : Nat) : Int),(maxF e (k + 1)).num,(maxF e (k + 1)).den)) (e.length - 1) (a := ((maxF e e.length).num,(maxF e e.length).den)) (fun k hk => by
   have hg : (0 : Int) ≤ ((k + 1 : Nat) : Int) ∧ ((k + 1 : Nat) : Int) < (e.length : Int) := by omega
   unfold l_slices_MaxFunc_impl_Rat_impl_Rat_impl_CompareRat_0
   dsimp only
   rw [decide_eq_true (by omega),cond_true,getD_nat,impl_cmp,w64' (by omega) (by omega)]
   simp only [grd_pos hg,Option.bind_some]
   have em : maxF e (k + 1 + 1) = if cmpQ (e.getD (k + 1) ⟨0,0⟩).num (e.getD (k + 1) ⟨0,0⟩).den (maxF e (k + 1)).num (maxF e (k + 1)).den > 0 then e.getD (k + 1) ⟨0,0⟩ else maxF e (k + 1) := rfl
   rw [em]
   by_cases h : cmpQ (e.getD (k + 1) ⟨0,0⟩).num (e.getD (k + 1) ⟨0,0⟩).den (maxF e (k + 1)).num (maxF e (k + 1)).den > 0
   ·rw [decide_eq_true h,if_pos h]
    rfl
   ·rw [decide_eq_false h,if_neg h]
    rfl)
  (by
   unfold l_slices_MaxFunc_impl_Rat_impl_Rat_impl_CompareRat_0
   dsimp only
   rw [show e.length - 1 + 1 = e.length by omega,decide_eq_false (by omega)]
   rfl)
 simp only [Nat.zero_add,maxF_one,Int.natCast_one] at hit
 rw [decide_eq_false (by omega),cond_false,grd_pos (by omega)]
 have e0 : (0 : Int).toNat = 0 := rfl
 rw [e0,hit]
 rfl
theorem spec_eql (e : List Q) (he : e.length ≤ 1048576) (q : Q) : iter (l_spec_WorstExcess_1 e q.num q.den) ((0 : Int),[]) = some (eqL e q) := by
 have hit := iter_up (step := l_spec_WorstExcess_1 e q.num q.den) (fun k => ((k : Int),fil (fun k => (e.getD k ⟨0,0⟩).num == q.num && (e.getD k ⟨0,0⟩).den == q.den) (fun k => (k : Int) + 1) k)) e.length (a := eqL e q) (fun k hk => by
   have hb := fil_length (fun k => (e.getD k ⟨0,0⟩).num == q.num && (e.getD k ⟨0,0⟩).den == q.den) (fun k => (k : Int) + 1) k
   unfold l_spec_WorstExcess_1
   dsimp only
   rw [decide_eq_true (by omega),cond_true,getD_nat,grd_pos (by omega),grd_pos (by simp only [List.length_singleton,room]; omega),w64' (by omega) (by omega),fil_succ]
   cases ((e.getD k ⟨0,0⟩).num == q.num && (e.getD k ⟨0,0⟩).den == q.den) <;> rfl)
  (by unfold l_spec_WorstExcess_1; dsimp only; rw [decide_eq_false (by omega)]; rfl)
 exact hit
theorem eql_step : l_impl_WorstExcess_0 = l_spec_WorstExcess_1 := rfl
theorem exs_length (l : List Int) (x : List Q) (lo m : Nat) : (exs l x lo m).2.length ≤ m := by
 unfold exs
 split
 ·simp [tab_length]
 ·simp
theorem worst_both (n : Int) (l : List Int) (x : List Q) (hl : l.length ≤ 1048576) (hx : x.length ≤ 1048576) : ∃ a b c r,r.length ≤ 1048576 ∧ m_spec_WorstExcess n l x = some (a,b,c,r) ∧ m_impl_WorstExcess n l x = some (a,b,c,r) := by
 unfold m_spec_WorstExcess m_impl_WorstExcess
 cases hp : payB n l x with
 | false =>
  rw [spec_all0 n l x hp hl hx,impl_exs0 n l x _ _ hp hl hx]
  exact ⟨0,0,false,[],by simp,rfl,rfl⟩
 | true =>
  have hp' := hp
  simp only [payB,Bool.and_eq_true] at hp'
  obtain ⟨N,hN,h1,h2,h3,h4⟩ := valid_nat ((validB_eq n l).1 hp'.1)
  have h5 : 2 ≤ l.length := by
   rw [h3]
   exact Nat.le_trans (by decide) (Nat.pow_le_pow_right (n := 2) (by decide) h1)
  have hi := impl_exs n l x 1 (l.length - 2) (IntKind.i64.wrap ((l.length : Int) - 2)) (by rw [w64' (by omega) (by omega)]; omega) (by omega) hp hl hx
  simp only [Int.natCast_one] at hi
  rw [spec_all n l x hp hl hx,hi]
  have hle := exs_length l x 1 (l.length - 2)
  rcases hq : exs l x 1 (l.length - 2) with ⟨ok,e⟩
  rw [hq] at hle
  simp only [Option.bind_some] at hle ⊢
  cases ok with
  | false => exact ⟨0,0,false,[],by simp,rfl,rfl⟩
  | true =>
   by_cases he : e.length = 0
   ·have e1 : ((e.length : Int) == 0) = true := by simp [he]
    rw [e1]
    exact ⟨0,0,false,[],by simp,rfl,rfl⟩
   ·have e1 : ((e.length : Int) == 0) = false := by
     rw [beq_eq_false_iff_ne]
     omega
    have hle' : e.length ≤ 1048576 := by omega
    simp only [Bool.not_true,cond_false,e1]
    rw [impl_max e hle' (by omega),grd_pos (by omega),spec_max e hle',Option.bind_some,Option.bind_some]
    dsimp only
    rw [eql_step,spec_eql e hle' (maxF e e.length)]
    have hb := fil_length (fun k => (e.getD k ⟨0,0⟩).num == (maxF e e.length).num && (e.getD k ⟨0,0⟩).den == (maxF e e.length).den) (fun k => (k : Int) + 1) e.length
    exact ⟨_,_,true,eqL e (maxF e e.length),by unfold eqL; omega,rfl,rfl⟩
def fctN : Nat → Int
 | 0 => 1
 | k + 1 => fctN k * ((k : Int) + 2)
def fctI (m : Int) : Int := fctN (m - 1).toNat
theorem fctN_bd (k : Nat) (h : k ≤ 4) : 1 ≤ fctN k ∧ fctN k ≤ 120 := by
 have : k = 0 ∨ k = 1 ∨ k = 2 ∨ k = 3 ∨ k = 4 := by omega
 rcases this with rfl | rfl | rfl | rfl | rfl <;> decide
theorem spec_fact (m : Int) (h1 : -10 ≤ m) (h2 : m ≤ 5) : m_spec_l14Factorial m = some (fctI m) := by
 unfold m_spec_l14Factorial fctI
 have hit := iter_up (step := l_spec_l14Factorial_0 m) (fun k => (fctN k,(k : Int) + 2)) (m - 1).toNat (a := fctN (m - 1).toNat) (fun k hk => by
   have hb := fctN_bd (k + 1) (by omega)
   simp only [fctN] at hb
   unfold l_spec_l14Factorial_0
   dsimp only
   rw [decide_eq_true (by omega),cond_true,w64' (by omega) (by omega),w64' (by omega) (by omega)]
   simp only [fctN]
   have e : (k : Int) + 2 + 1 = ((k + 1 : Nat) : Int) + 2 := by omega
   rw [e])
  (by unfold l_spec_l14Factorial_0; dsimp only; rw [decide_eq_false (by omega)]; rfl)
 have e0 : ((0 : Nat) : Int) + 2 = 2 := rfl
 simp only [fctN,e0] at hit
 rw [hit]
 rfl
theorem spec_size (s : Nat) (hs : s < 32) : m_spec_SizeOf (s : Int) = some (((mems s).length : Nat) : Int) := by
 unfold m_spec_SizeOf
 have hit := iter_up (step := l_spec_SizeOf_0 (s : Int)) (fun k => ((((fil s.testBit (fun k => (k : Int)) k).length : Nat) : Int),(k : Int))) 5 (a := (((mems s).length : Nat) : Int)) (fun k hk => by
   have hb := fil_length s.testBit (fun k => (k : Int)) k
   unfold l_spec_SizeOf_0
   dsimp only
   rw [decide_eq_true (by omega),cond_true,spec_has s k hs hk,Option.bind_some,w64' (by omega) (by omega),w64' (by omega) (by omega),fil_succ]
   cases s.testBit k <;> simp)
  (by unfold l_spec_SizeOf_0; dsimp only; rw [decide_eq_false (by omega)]; rfl)
 have e0 : (fil s.testBit (fun k => (k : Int)) 0).length = 0 := rfl
 simp only [e0,Int.natCast_zero] at hit
 rw [hit]
 rfl
def shF (l : List Int) (N k : Nat) : Nat → Int
 | 0 => 0
 | s + 1 => if s.testBit k = true then shF l N k s else IntKind.i64.wrap (shF l N k s + IntKind.i64.wrap (IntKind.i64.wrap (fctI ((mems s).length : Nat) * fctI ((N : Int) - 1 - ((mems s).length : Nat))) * IntKind.i64.wrap (l.getD (s ||| 2 ^ k) 0 - l.getD s 0)))
theorem spec_shIn (l : List Int) (N k : Nat) (hN : N ≤ 5) (hl : l.length = 2 ^ N) (hk : k < N) : iter (l_spec_ShapleyValue_1 (N : Int) l (k : Int)) ((0 : Int),(0 : Int)) = some (shF l N k l.length) := by
 have h32 := pow_le32 hN
 have hit := iter_up (step := l_spec_ShapleyValue_1 (N : Int) l (k : Int)) (fun s => (shF l N k s,(s : Int))) l.length (a := shF l N k l.length) (fun s hs => by
   have b1 : s ||| 2 ^ k < 2 ^ N := Nat.or_lt_two_pow (by omega) (Nat.pow_lt_pow_right (by decide) hk)
   have hm := mems_length s
   unfold l_spec_ShapleyValue_1
   dsimp only
   rw [decide_eq_true (by omega),cond_true,spec_has s k (by omega) (by omega),Option.bind_some,w64' (n := (s : Int) + 1) (by omega) (by omega)]
   simp only [shF]
   cases h1 : s.testBit k with
   | true => rfl
   | false =>
    have e1 := add_eq s k (by omega) (by omega) h1
    have f1 : ((s : Int) + 2 ^ k) = ((s ||| 2 ^ k : Nat) : Int) := by rw [← e1]; simp
    have e2 : (N : Int) - (((mems s).length : Nat) : Int) - 1 = (N : Int) - 1 - (((mems s).length : Nat) : Int) := by omega
    rw [cond_false,spec_size s (by omega),Option.bind_some,spec_fact _ (by omega) (by omega),Option.bind_some,w64' (n := (N : Int) - _) (by omega) (by omega),e2,w64' (n := (N : Int) - 1 - _) (by omega) (by omega),spec_fact _ (by omega) (by omega),Option.bind_some,bit2 k (by omega),Option.bind_some,f1,w64' (n := ((s ||| 2 ^ k : Nat) : Int)) (by omega) (by omega),grd_pos (by omega),grd_pos (by omega),getD_nat,getD_nat,if_neg (by decide)]
    rfl)
  (by unfold l_spec_ShapleyValue_1; dsimp only; rw [decide_eq_false (by omega)]; rfl)
 exact hit
def shQ (l : List Int) (N k : Nat) : Q := ⟨(ratOf (shF l N k l.length) (fctI N)).1,(ratOf (shF l N k l.length) (fctI N)).2.1⟩
theorem iter_dec {S A : Type} {step : S → Option (S ⊕ A)} (I : Nat → S → Prop) (Post : A → Prop)
  (h : ∀ k s,I k s → (∃ a,step s = some (.inr a) ∧ Post a) ∨ ∃ s' k',k = k' + 1 ∧ step s = some (.inl s') ∧ I k' s') : ∀ k s,I k s → ∃ a,iter step s = some a ∧ Post a := by
 intro k
 induction k with
 | zero =>
  intro s hs
  rcases h 0 s hs with ⟨a,h1,h2⟩ | ⟨s',k',h1,_⟩
  ·exact ⟨a,iter_done h1,h2⟩
  ·omega
 | succ k ih =>
  intro s hs
  rcases h _ s hs with ⟨a,h1,h2⟩ | ⟨s',k',h1,h2,h3⟩
  ·exact ⟨a,iter_done h1,h2⟩
  ·obtain rfl : k' = k := by omega
   obtain ⟨a,h4,h5⟩ := ih s' h3
   exact ⟨a,by rw [iter_next h2]; exact h4,h5⟩
theorem and255 (x : Int) : 0 ≤ bitsOf .and .i64 x 255 ∧ bitsOf .and .i64 x 255 ≤ 255 := by
 have h : (BitVec.ofInt 64 x &&& BitVec.ofInt 64 255).toNat ≤ 255 := by
  rw [BitVec.toNat_and]
  exact Nat.le_trans Nat.and_le_right (by decide)
 show 0 ≤ IntKind.i64.wrap ((BitVec.ofInt 64 x &&& BitVec.ofInt 64 255).toNat : Int) ∧ IntKind.i64.wrap ((BitVec.ofInt 64 x &&& BitVec.ofInt 64 255).toNat : Int) ≤ 255
 rw [w64' (by omega) (by omega)]
 omega
theorem new_loop (c : List UInt8) (h0 : Int) : ∃ h,iter (l_spec_l1New_io2_0 c) (h0,0) = some h := by
 obtain ⟨a,h1,_⟩ := iter_dec (step := l_spec_l1New_io2_0 c) (fun k s => s.2 + k = 4000 ∧ 0 ≤ s.2) (fun _ => True) (fun k ⟨v1,v2⟩ ⟨h1,h2⟩ => by
  simp only at h1 h2
  unfold l_spec_l1New_io2_0
  simp only
  by_cases e1 : v2 < (c.length : Int)
  ·by_cases e2 : v2 < 4000
   ·rw [decide_eq_true e1,decide_eq_true e2,cond_true,cond_true,grd_pos ⟨h2,e1⟩]
    exact .inr ⟨_,k - 1,by omega,rfl,by simp only; rw [w64' (by omega) (by omega)]; omega,by simp only; rw [w64' (by omega) (by omega)]; omega⟩
   ·rw [decide_eq_true e1,decide_eq_false e2,cond_true,cond_false]
    exact .inl ⟨_,rfl,trivial⟩
  ·rw [decide_eq_false e1,cond_false]
   exact .inl ⟨_,rfl,trivial⟩) 4000 (h0,0) ⟨rfl,Int.le_refl 0⟩
 exact ⟨a,h1⟩
theorem new2 (a : Int) (b : List Int) (c : List UInt8) : ∃ h,m_spec_l1New_io2 a b c = some (c,0,h,b,a) := by
 obtain ⟨h,e⟩ := new_loop c (IntKind.i64.wrap ((26583 : Int) + (c.length : Int)))
 exact ⟨h,by unfold m_spec_l1New_io2; rw [e]; rfl⟩
theorem byte_ok (c : List UInt8) (i h : Int) (hc : c.length ≤ 1048576) (hi : 0 ≤ i) : ∃ x i' h',m_spec_l1Byte_io1 c i h = some (x,i',h') ∧ (0 ≤ x ∧ x ≤ 255) ∧ 0 ≤ i' := by
 unfold m_spec_l1Byte_io1
 rw [grd_pos (by decide),grd_pos (by decide),Option.bind_some]
 by_cases hlt : i < (c.length : Int)
 ·rw [decide_eq_true hlt,cond_true,grd_pos ⟨hi,hlt⟩]
  exact ⟨_,_,_,rfl,and255 _,by rw [w64' (by omega) (by omega)]; omega⟩
 ·rw [decide_eq_false hlt,cond_false]
  exact ⟨_,_,_,rfl,and255 _,hi⟩
theorem below_ok (c : List UInt8) (i h n : Int) (hc : c.length ≤ 1048576) (hi : 0 ≤ i) (hn : n ≤ 256) : ∃ x i' h',m_spec_l1Below_io1 c i h n = some (x,i',h') ∧ (0 ≤ x ∧ (x < n ∨ x = 0)) ∧ 0 ≤ i' := by
 unfold m_spec_l1Below_io1
 by_cases h0 : n ≤ 0
 ·rw [decide_eq_true h0,cond_true]
  exact ⟨_,_,_,rfl,⟨Int.le_refl 0,.inr rfl⟩,hi⟩
 ·rw [decide_eq_false h0,cond_false,decide_eq_true hn,cond_true]
  obtain ⟨x,i',h',e,hx,hi'⟩ := byte_ok c i h hc hi
  rw [e,Option.bind_some]
  dsimp only
  rw [grd_pos (by omega)]
  exact ⟨_,_,_,rfl,⟨Int.tmod_nonneg _ hx.1,.inl (Int.tmod_lt_of_pos _ (by omega))⟩,hi'⟩
theorem pick_ok (c : List UInt8) (i h : Int) (l : List Int) (hc : c.length ≤ 1048576) (hi : 0 ≤ i) (h1 : 1 ≤ l.length) (h2 : l.length ≤ 256) : ∃ x i' h',m_spec_l1PickInt_io1 c i h l = some (x,i',h') ∧ x ∈ l ∧ 0 ≤ i' := by
 unfold m_spec_l1PickInt_io1
 obtain ⟨x,i',h',e,hx,hi'⟩ := below_ok c i h l.length hc hi (by omega)
 rw [e,Option.bind_some]
 dsimp only
 have hlt : x < (l.length : Int) := by omega
 rw [grd_pos ⟨hx.1,hlt⟩]
 refine ⟨_,_,_,rfl,?_,hi'⟩
 have : x.toNat < l.length := by omega
 rw [List.getD_eq_getElem?_getD,List.getElem?_eq_getElem this,Option.getD_some]
 exact List.getElem_mem this
def I8 (N : Nat) (k : Nat) (s : Int × List Int × Int × Int) : Prop := s.1 + k = N ∧ 1 ≤ s.1 ∧ s.2.1.length = N ∧ 0 ≤ s.2.2.1
def P8 (N : Nat) (a : List Int × Int × Int) : Prop := a.1.length = N ∧ 0 ≤ a.2.1
theorem bit_tot (b : Bool) : ∃ x,m_spec_l1Bit b = some x := by cases b <;> exact ⟨_,rfl⟩
theorem max_tot (a b : Int) : ∃ x,m_spec_l1Max a b = some x := by
 unfold m_spec_l1Max
 by_cases h : a > b
 ·rw [decide_eq_true h]; exact ⟨_,rfl⟩
 ·rw [decide_eq_false h]; exact ⟨_,rfl⟩
theorem draw8_step (c : List UInt8) (hc : c.length ≤ 1048576) (v1 v5 : Int) (N : Nat) (hN : N ≤ 32) (k : Nat) (s : Int × List Int × Int × Int) (hs : I8 N k s) :
  (∃ a,l_spec_l8Draw_io1_0 c v1 v5 s = some (.inr a) ∧ P8 N a) ∨ ∃ s' k',k = k' + 1 ∧ l_spec_l8Draw_io1_0 c v1 v5 s = some (.inl s') ∧ I8 N k' s' := by
 obtain ⟨s0,l,i,h⟩ := s
 obtain ⟨g1,g2,g3,g4⟩ := hs
 simp only at g1 g2 g3 g4
 unfold l_spec_l8Draw_io1_0
 simp only
 by_cases e1 : s0 < (l.length : Int)
 ·rw [decide_eq_true e1,cond_true]
  obtain ⟨S,rfl⟩ : ∃ S : Nat,s0 = (S : Int) := ⟨s0.toNat,by omega⟩
  have hS : S < 32 := by omega
  have hw : IntKind.i64.wrap ((S : Int) + 1) = (S : Int) + 1 := w64' (by omega) (by omega)
  rw [spec_size S hS,hw]
  refine .inr ?_
  have fin : ∀ (x i' h' : Int),0 ≤ i' → ∃ s' k',k = k' + 1 ∧ (some (.inl ((S : Int) + 1,l.set (S : Int).toNat x,i',h')) : Option ((Int × List Int × Int × Int) ⊕ (List Int × Int × Int))) = some (.inl s') ∧ I8 N k' s' :=
   fun x i' h' hi' => ⟨_,k - 1,by omega,rfl,by simp only; omega,by simp only; omega,by simp only; rw [List.length_set]; exact g3,hi'⟩
  obtain ⟨x1,i1,h1,b1,_,b3⟩ := below_ok c i h 2 hc g4 (by decide)
  obtain ⟨x2,i2,h2,b4,_,b6⟩ := pick_ok c i h [(0 : Int),(1 : Int),(2 : Int),(3 : Int),(5 : Int),(8 : Int),(-2 : Int),(4 : Int)] hc g4 (by decide) (by decide)
  simp only [b1,b4,Option.bind_some]
  have hg : (0 : Int) ≤ (S : Int) ∧ (S : Int) < (l.length : Int) := ⟨by omega,e1⟩
  cases hv0 : (v5 == (0 : Int)) with
  | true =>
   simp only [cond_true,grd_pos hg]
   exact fin _ _ _ b3
  | false =>
   cases hv1 : (v5 == (1 : Int)) with
   | true =>
    simp only [cond_true,cond_false,grd_pos hg]
    exact fin _ _ _ b6
   | false =>
    cases hv2 : (v5 == (2 : Int)) with
    | true =>
     obtain ⟨y,hy⟩ := max_tot (0 : Int) (IntKind.i64.wrap ((IntKind.i64.wrap ((IntKind.i64.wrap ((3 : Int) * (((mems S).length : Nat) : Int))) - (2 : Int))) - x1))
     simp only [cond_true,cond_false,hy,Option.bind_some,grd_pos hg]
     exact fin _ _ _ b3
    | false =>
     obtain ⟨y,hy⟩ := bit_tot (decide ((IntKind.i64.wrap ((((mems S).length : Nat) : Int) * (2 : Int))) > (IntKind.i64.wrap ((1 : Int) + v1))))
     simp only [cond_false,hy,Option.bind_some,grd_pos hg]
     exact fin _ _ _ b3
 ·rw [decide_eq_false e1,cond_false]
  exact .inl ⟨_,rfl,g3,g4⟩
theorem draw8_ok (c : List UInt8) (i h : Int) (hc : c.length ≤ 1048576) (hi : 0 ≤ i) : ∃ n l i' h',m_spec_l8Draw_io1 c i h 4 = some (n,l,i',h') ∧ (1 ≤ n ∧ n ≤ 4) ∧ (2 ≤ l.length ∧ l.length ≤ 16) ∧ 0 ≤ i' := by
 unfold m_spec_l8Draw_io1
 obtain ⟨x,i1,h1,b1,b2,b3⟩ := below_ok c i h 4 hc hi (by decide)
 rw [b1,Option.bind_some]
 dsimp only
 obtain ⟨n,hn⟩ : ∃ n : Nat,(1 : Int) + x = (n : Int) := ⟨((1 : Int) + x).toNat,by omega⟩
 rw [w64' (by omega) (by omega),hn,count0 n (by omega),Option.bind_some]
 have hp : (2 : Nat) ≤ 2 ^ n ∧ 2 ^ n ≤ 16 := by
  have : n = 1 ∨ n = 2 ∨ n = 3 ∨ n = 4 := by omega
  rcases this with rfl | rfl | rfl | rfl <;> decide
 have hc2 : ((2 : Int) ^ n) = ((2 ^ n : Nat) : Int) := by push_cast; rfl
 rw [hc2,grd_pos ⟨by omega,rfl,by unfold room; omega⟩]
 obtain ⟨y,i2,h2,c1,c2,c3⟩ := below_ok c i1 h1 4 hc b3 (by decide)
 rw [c1,Option.bind_some]
 dsimp only
 rw [Int.toNat_natCast]
 obtain ⟨⟨l,i3,h3⟩,d1,d2,d3⟩ := iter_dec (I8 (2 ^ n)) (P8 (2 ^ n)) (fun k s hs => draw8_step c hc x y (2 ^ n) (by omega) k s hs) (2 ^ n - 1) (1,List.replicate (2 ^ n) 0,i2,h2)
  ⟨by simp only; omega,Int.le_refl 1,by simp,c3⟩
 rw [d1,Option.bind_some]
 replace d2 : l.length = 2 ^ n := d2
 replace d3 : 0 ≤ i3 := d3
 exact ⟨_,l,i3,h3,rfl,by omega,by omega,d3⟩
theorem bent_ok (c : List UInt8) (i h : Int) (hc : c.length ≤ 1048576) (hi : 0 ≤ i) : ∃ n l i' h',m_spec_l8Bent_io1 c i h = some (n,l,i',h') ∧ (-1 ≤ n ∧ n ≤ 6) ∧ (2 ≤ l.length ∧ l.length ≤ 17) ∧ 0 ≤ i' := by
 unfold m_spec_l8Bent_io1
 obtain ⟨n,l,i1,h1,b1,b2,b3,b4⟩ := draw8_ok c i h hc hi
 rw [b1,Option.bind_some]
 dsimp only
 obtain ⟨x,i2,h2,c1,c2,c3⟩ := below_ok c i1 h1 12 hc b4 (by decide)
 rw [c1,Option.bind_some]
 dsimp only
 obtain ⟨x2,i3,h3,d1,d2,d3⟩ := pick_ok c i2 h2 [(0 : Int),(6 : Int),(2 : Int),(-1 : Int)] hc c3 (by decide) (by decide)
 obtain ⟨x4,i4,h4,e1,_,e3⟩ := pick_ok c i2 h2 [(500 : Int),(501 : Int),(-501 : Int)] hc c3 (by decide) (by decide)
 have hd2 : -1 ≤ x2 ∧ x2 ≤ 6 := by
  simp only [List.mem_cons,List.not_mem_nil,or_false] at d2
  omega
 have hw : IntKind.i64.wrap ((l.length : Int) - 1) = (l.length : Int) - 1 := w64' (by omega) (by omega)
 simp only [d1,e1,Option.bind_some,hw]
 cases hv0 : (x == (0 : Int)) with
 | true =>
  simp only [cond_true]
  rw [grd_pos ⟨Int.le_refl 0,by omega⟩]
  exact ⟨_,_,_,_,rfl,by omega,by rw [List.length_set]; omega,c3⟩
 | false =>
  cases hv1 : (x == (1 : Int)) with
  | true =>
   simp only [cond_true,cond_false]
   exact ⟨_,_,_,_,rfl,hd2,by omega,d3⟩
  | false =>
   cases hv2 : (x == (2 : Int)) with
   | true =>
    simp only [cond_true,cond_false]
    rw [grd_pos (by show l.length + 1 ≤ room; unfold room; omega)]
    exact ⟨_,_,_,_,rfl,by omega,by simp only [List.length_append,List.length_cons,List.length_nil]; omega,c3⟩
   | false =>
    cases hv3 : (x == (3 : Int)) with
    | true =>
     simp only [cond_true,cond_false]
     rw [grd_pos ⟨by omega,by omega⟩]
     exact ⟨_,_,_,_,rfl,by omega,by rw [List.length_set]; omega,e3⟩
    | false =>
     simp only [cond_false]
     exact ⟨_,_,_,_,rfl,by omega,by omega,c3⟩
theorem once_ok (c : List UInt8) (i h n : Int) (hc : c.length ≤ 1048576) (hi : 0 ≤ i) (hn : n ≤ 256) : ∃ x i' h',m_spec_l1Once_io1 c i h n = some (x,i',h') ∧ 0 ≤ i' := by
 unfold m_spec_l1Once_io1
 obtain ⟨x,i',h',e,_,hi'⟩ := below_ok c i h n hc hi hn
 rw [e,Option.bind_some]
 exact ⟨_,_,_,rfl,hi'⟩
theorem spec_shap (N : Nat) (l : List Int) (hl : l.length ≤ 1048576) (hv : validB (N : Int) l = true) : m_spec_ShapleyValue (N : Int) l = some (true,tab (shQ l N) N) := by
 obtain ⟨M,hM,h1,h2,h3,h4⟩ := valid_nat ((validB_eq _ l).1 hv)
 obtain rfl : N = M := by omega
 unfold m_spec_ShapleyValue
 rw [spec_valid _ l hl,hv]
 have s1 := iter_up (step := l_spec_ShapleyValue_0 (N : Int) l) (fun k => ((k : Int),tab (shQ l N) k)) N (a := tab (shQ l N) N) (fun k hk => by
   unfold l_spec_ShapleyValue_0
   dsimp only
   rw [decide_eq_true (by omega),cond_true,spec_shIn l N k h2 h3 hk,Option.bind_some,spec_fact _ (by omega) (by omega),Option.bind_some,spec_ratOf,Option.bind_some]
   rw [grd_pos (by simp only [tab_length,List.length_singleton,room]; omega),w64' (by omega) (by omega),tab_succ]
   rfl)
  (by unfold l_spec_ShapleyValue_0; dsimp only; rw [decide_eq_false (by omega)]; rfl)
 have e0 : tab (shQ l N) 0 = [] := rfl
 simp only [e0,Int.natCast_zero] at s1
 simp only [Option.bind_some,Bool.not_true,cond_false]
 rw [s1]
 rfl
theorem spec_shap0 (n : Int) (l : List Int) (hl : l.length ≤ 1048576) (hv : validB n l = false) : m_spec_ShapleyValue n l = some (false,[]) := by
 unfold m_spec_ShapleyValue
 rw [spec_valid _ l hl,hv]
 rfl
theorem same_self (l : List Int) (hl : l.length ≤ 1048576) : m_laws_sameInts l l = some true := by
 unfold m_laws_sameInts
 have hit := iter_up (step := l_laws_sameInts_0 l l) (fun i => (i : Int)) l.length (a := .inl ()) (fun i hi => by
   unfold l_laws_sameInts_0
   rw [decide_eq_true (by omega),cond_true,grd_pos (by omega),grd_pos (by omega),bne_self_eq_false,cond_false,w64' (by omega) (by omega)]
   rfl)
  (by unfold l_laws_sameInts_0; rw [decide_eq_false (by omega)]; rfl)
 simp only [Int.natCast_zero] at hit
 rw [bne_self_eq_false,cond_false,hit]
 rfl
theorem int_cop {a b c : Int} (h : a ∣ b * c) (g : Int.gcd b a = 1) : a ∣ c := by
 have h1 : a.natAbs ∣ b.natAbs * c.natAbs := by
  rw [← Int.natAbs_mul]
  exact Int.natAbs_dvd_natAbs.2 h
 refine Int.natAbs_dvd_natAbs.1 (Nat.Coprime.dvd_of_dvd_mul_left ?_ h1)
 rw [Int.gcd_eq_natAbs_gcd_natAbs,Nat.gcd_comm] at g
 exact g
def rv (a b : Int) : Rat := (a : Rat) / (b : Rat)
def qr (q : Q) : Rat := rv q.num q.den
theorem castne {b : Int} (h : b ≠ 0) : (b : Rat) ≠ 0 := fun e => h (Rat.intCast_eq_zero_iff.1 e)
theorem rv_mul {a b : Int} (h : b ≠ 0) : rv a b * (b : Rat) = (a : Rat) := Rat.div_mul_cancel (castne h)
theorem rv_uniq {r : Rat} {a b : Int} (h : b ≠ 0) (e : r * (b : Rat) = (a : Rat)) : r = rv a b := by
 unfold rv
 rw [← e,Rat.mul_div_cancel (castne h)]
theorem rv_of {a b c d : Int} (hb : b ≠ 0) (hd : d ≠ 0) (h : a * d = c * b) : rv a b = rv c d := by
 refine rv_uniq hd ?_
 have e1 := rv_mul (a := a) hb
 have e2 : (a : Rat) * d = c * b := by rw [← Rat.intCast_mul,h,Rat.intCast_mul]
 have e3 := castne hb
 have e4 : rv a b * d * b = c * b := by grind
 have e5 : rv a b * d * b / b = c * b / b := by rw [e4]
 rwa [Rat.mul_div_cancel e3,Rat.mul_div_cancel e3] at e5
theorem rv_cross {a b c d : Int} (hb : b ≠ 0) (hd : d ≠ 0) (h : rv a b = rv c d) : a * d = c * b := by
 have e1 := rv_mul (a := a) hb
 have e2 := rv_mul (a := c) hd
 refine Rat.intCast_inj.1 ?_
 rw [Rat.intCast_mul,Rat.intCast_mul,← e1,← e2,h]
 grind
theorem cross_uniq {a b c d : Int} (h1 : validQ a b = true) (h2 : validQ c d = true) (k1 : a * d = c * b) : a = c ∧ b = d := by
 have v1 := validQ_bd h1
 have v2 := validQ_bd h2
 have d1 : b ∣ d := int_cop (b := a) ⟨c,by rw [k1,Int.mul_comm]⟩ v1.2.2.2.2
 have d2 : d ∣ b := int_cop (b := c) ⟨a,by rw [← k1,Int.mul_comm]⟩ v2.2.2.2.2
 have l1 := Int.le_of_dvd (by omega) d1
 have l2 := Int.le_of_dvd (by omega) d2
 obtain rfl : b = d := by omega
 exact ⟨Int.eq_of_mul_eq_mul_right (by omega) k1,rfl⟩
theorem den_ne {a b : Int} (h : validQ a b = true) : b ≠ 0 := by
 have := validQ_bd h
 omega
theorem rv_inj {a b c d : Int} (h1 : validQ a b = true) (h2 : validQ c d = true) (h : rv a b = rv c d) : a = c ∧ b = d :=
 cross_uniq h1 h2 (rv_cross (den_ne h1) (den_ne h2) h)
def red (n d : Int) : Int × Int := ((if d < 0 then -n else n).tdiv (Int.gcd n d : Nat),(if d < 0 then -d else d).tdiv (Int.gcd n d : Nat))
theorem red_ok {n d : Int} (hd : d ≠ 0) : 1 ≤ (red n d).2 ∧ Int.gcd (red n d).1 (red n d).2 = 1 ∧ (red n d).1 * d = n * (red n d).2 := by
 have hg := gcd_pos' (n := n) hd
 obtain ⟨m,hm⟩ := Int.gcd_dvd_left n d
 obtain ⟨e,he⟩ := Int.gcd_dvd_right n d
 have hgi : (0 : Int) < (Int.gcd n d : Nat) := by omega
 have t1 : n.tdiv (Int.gcd n d : Nat) = m := by
  conv => lhs; lhs; rw [hm]
  exact Int.mul_tdiv_cancel_left _ (by omega)
 have t2 : d.tdiv (Int.gcd n d : Nat) = e := by
  conv => lhs; lhs; rw [he]
  exact Int.mul_tdiv_cancel_left _ (by omega)
 have hc : Int.gcd m e = 1 := by
  have h3 : Int.gcd ((Int.gcd n d : Nat) * m) ((Int.gcd n d : Nat) * e) = Int.gcd n d := by rw [← hm,← he]
  rw [Int.gcd_mul_left,Int.natAbs_natCast] at h3
  exact Nat.eq_of_mul_eq_mul_left hg (by rw [h3,Nat.mul_one])
 have hx : m * d = n * e := by
  generalize ((Int.gcd n d : Nat) : Int) = g at hm he
  subst hm he
  grind
 unfold red
 by_cases hn : d < 0
 ·simp only [if_pos hn,Int.neg_tdiv]
  rw [t1,t2]
  refine ⟨?_,by simpa using hc,by grind⟩
  rcases Int.lt_or_le 0 e with h | h
  ·have := Int.mul_pos hgi h
   omega
  ·by_cases h0 : e = 0
   ·rw [h0,Int.mul_zero] at he; exact absurd he hd
   ·omega
 ·simp only [if_neg hn]
  rw [t1,t2]
  refine ⟨?_,hc,hx⟩
  rcases Int.lt_or_le 0 e with h | h
  ·omega
  ·have := Int.mul_nonpos_of_nonneg_of_nonpos (by omega : (0 : Int) ≤ (Int.gcd n d : Nat)) h
   omega
theorem ratOf_val {n d a b : Int} (h : ratOf n d = (a,b,true)) : validQ a b = true ∧ d ≠ 0 ∧ rv a b = rv n d := by
 unfold ratOf at h
 by_cases h1 : d = 0 ∨ ¬ (-1000000000000000000 ≤ n ∧ n ≤ 1000000000000000000) ∨ ¬ (-1000000000000000000 ≤ d ∧ d ≤ 1000000000000000000)
 ·rw [if_pos h1] at h
  simp at h
 ·rw [if_neg h1] at h
  have hd : d ≠ 0 := fun e => h1 (.inl e)
  change (if validQ (red n d).1 (red n d).2 = true then ((red n d).1,(red n d).2,true) else (0,0,false)) = (a,b,true) at h
  by_cases h2 : validQ (red n d).1 (red n d).2 = true
  ·rw [if_pos h2] at h
   simp only [Prod.mk.injEq,and_true] at h
   obtain ⟨r1,r2⟩ := h
   have hr := red_ok (n := n) hd
   rw [r1,r2] at h2 hr
   exact ⟨h2,hd,rv_of (den_ne h2) hd hr.2.2⟩
  ·rw [if_neg h2] at h
   simp at h
theorem subQ_val {a b c d x y : Int} (h : subQ a b c d = (x,y,true)) : (validQ a b = true ∧ validQ c d = true) ∧ validQ x y = true ∧ rv x y = rv a b - rv c d := by
 unfold subQ at h
 split at h
 ·rename_i hv
  obtain ⟨h1,h2,h3⟩ := ratOf_val h
  refine ⟨hv,h1,?_⟩
  rw [h3]
  refine (rv_uniq h2 ?_).symm
  have e1 := rv_mul (a := a) (den_ne hv.1)
  have e2 := rv_mul (a := c) (den_ne hv.2)
  rw [Rat.intCast_sub,Rat.intCast_mul,Rat.intCast_mul,Rat.intCast_mul,← e1,← e2]
  grind
 ·simp at h
theorem rv_int (a : Int) : rv a 1 = (a : Rat) := by
 unfold rv
 rw [Rat.div_def]
 have : ((1 : Int) : Rat)⁻¹ = 1 := Rat.inv_eq_of_mul_eq_one (by rw [Rat.intCast_one,Rat.mul_one])
 rw [this,Rat.mul_one]
theorem rv_lt {a b c d : Int} (hb : 0 < b) (hd : 0 < d) : rv a b < rv c d ↔ a * d < c * b := by
 have e1 := rv_mul (a := a) (b := b) (by omega)
 have e2 := rv_mul (a := c) (b := d) (by omega)
 have p1 : (0 : Rat) < b := Rat.intCast_pos.2 hb
 have p2 : (0 : Rat) < d := Rat.intCast_pos.2 hd
 have p3 := Rat.mul_pos p1 p2
 rw [← Rat.intCast_lt_intCast,Rat.intCast_mul,Rat.intCast_mul,← e1,← e2]
 rw [← Rat.mul_lt_mul_right (a := rv a b) p3]
 constructor <;> intro h <;> grind
theorem cmpQ_neg {a b c d : Int} (h1 : validQ a b = true) (h2 : validQ c d = true) : cmpQ a b c d < 0 ↔ rv a b < rv c d := by
 have v1 := validQ_bd h1
 have v2 := validQ_bd h2
 rw [rv_lt (by omega) (by omega)]
 unfold cmpQ
 rw [if_pos ⟨h1,h2⟩]
 split
 ·simp_all
 ·split <;> simp_all
theorem cmpQ_pos {a b c d : Int} (h1 : validQ a b = true) (h2 : validQ c d = true) : 0 < cmpQ a b c d ↔ rv c d < rv a b := by
 have v1 := validQ_bd h1
 have v2 := validQ_bd h2
 rw [rv_lt (by omega) (by omega)]
 unfold cmpQ
 rw [if_pos ⟨h1,h2⟩]
 split
 ·rename_i h
  constructor
  ·intro h; omega
  ·intro h; omega
 ·split
  ·rename_i h
   constructor
   ·intro _; omega
   ·intro _; omega
  ·rename_i h
   constructor
   ·intro h; omega
   ·intro h; omega
theorem rv_sign {a b : Int} (h : validQ a b = true) : (rv a b < 0 ↔ a < 0) ∧ (0 < rv a b ↔ 0 < a) := by
 have v := validQ_bd h
 have e1 := rv_lt (a := a) (b := b) (c := 0) (d := 1) (by omega) (by omega)
 have e2 := rv_lt (a := 0) (b := 1) (c := a) (d := b) (by omega) (by omega)
 have e3 : rv 0 1 = 0 := by rw [rv_int]; rfl
 rw [e3] at e1 e2
 exact ⟨by rw [e1]; omega,by rw [e2]; omega⟩
def qg (l : List Q) (i : Nat) : Rat := qr (l.getD i ⟨0,0⟩)
def vq (q : Q) : Prop := validQ q.num q.den = true
theorem okR_iff (q : Q) : okR q ↔ validQ q.num q.den = true := by
 unfold okR validQ
 rw [decide_eq_true_iff]
 constructor
 ·rintro ⟨⟨h1,h2⟩,⟨h3,h4⟩,h5⟩
  exact ⟨h1,h2,h3,h4,h5⟩
 ·rintro ⟨h1,h2,h3,h4,h5⟩
  exact ⟨⟨h1,h2⟩,⟨h3,h4⟩,h5⟩
theorem cmpR_eq {x y : Q} (hx : okR x) (hy : okR y) : cmpQ x.num x.den y.num y.den = cmpR x y := by
 unfold cmpQ cmpR
 rw [if_pos ⟨(okR_iff x).1 hx,(okR_iff y).1 hy⟩]
theorem geR_iff {x y : Q} (hx : okR x) (hy : okR y) : ¬ cmpR x y < 0 ↔ qr y ≤ qr x := by
 rw [← cmpR_eq hx hy,cmpQ_neg ((okR_iff x).1 hx) ((okR_iff y).1 hy)]
 exact Rat.not_lt
theorem sortR_sorted (l : List Q) (h : ∀ q ∈ l,okR q) : (sortR l).Pairwise fun x y => ¬ cmpR x y < 0 := by
 rw [← lift_sort l h,List.pairwise_map]
 refine (List.pairwise_mergeSort (fun a b c h1 h2 => ?_) (fun a b => ?_) (liftQ l h)).imp fun {a b} hab => ?_
 ·simp only [Bool.not_eq_true'] at h1 h2 ⊢
  exact swoQ.ntrans c b a h2 h1
 ·simp only [ltQ]
  by_cases hc : a.1.num * b.1.den < b.1.num * a.1.den
  ·have : ¬ b.1.num * a.1.den < a.1.num * b.1.den := by omega
   simp [this]
  ·simp [hc]
 ·simp only [ltQ,Bool.not_eq_true',decide_eq_false_iff_not] at hab
  rw [cmpR_lt]
  exact hab
theorem sortR_uniq {l r : List Q} (h : ∀ q ∈ l,okR q) (hp : r.Perm l) (hs : r.Pairwise fun x y => ¬ cmpR x y < 0) : r = sortR l := by
 refine List.Perm.eq_of_pairwise (le := fun x y => ¬ cmpR x y < 0) (fun a b ha hb h1 h2 => ?_) hs (sortR_sorted l h) (hp.trans (List.mergeSort_perm l _).symm)
 have oa := h a (hp.mem_iff.1 ha)
 have ob := h b ((List.mergeSort_perm l _).mem_iff.1 hb)
 rw [cmpR_lt] at h1 h2
 exact eqR oa ob (by omega)
def posI (out : List Q) (q : Q) : Nat := match (List.range out.length).find? (fun i => !decide (cmpQ (out.getD (out.length - i - 1) ⟨0,0⟩).num (out.getD (out.length - i - 1) ⟨0,0⟩).den q.num q.den < 0)) with
 | some i => out.length - i
 | none => 0
def insI (out : List Q) (q : Q) : List Q := out.take (posI out q) ++ q :: out.drop (posI out q)
theorem posI_le (out : List Q) (q : Q) : posI out q ≤ out.length := by
 unfold posI
 split <;> omega
theorem posI_spec (out : List Q) (q : Q) : (∀ j,posI out q ≤ j → j < out.length → cmpQ (out.getD j ⟨0,0⟩).num (out.getD j ⟨0,0⟩).den q.num q.den < 0) ∧
  (0 < posI out q → ¬ cmpQ (out.getD (posI out q - 1) ⟨0,0⟩).num (out.getD (posI out q - 1) ⟨0,0⟩).den q.num q.den < 0) := by
 unfold posI
 split
 ·rename_i i hi
  rw [List.find?_range_eq_some] at hi
  obtain ⟨h1,h2,h3⟩ := hi
  have h2 := List.mem_range.1 h2
  refine ⟨fun j hj hl => ?_,fun _ => ?_⟩
  ·have := h3 (out.length - j - 1) (by omega)
   rw [show out.length - (out.length - j - 1) - 1 = j by omega] at this
   simpa using this
  ·simpa using h1
 ·rename_i hn
  rw [List.find?_range_eq_none] at hn
  refine ⟨fun j _ hl => ?_,fun h => by omega⟩
  have := hn (out.length - j - 1) (by omega)
  rw [show out.length - (out.length - j - 1) - 1 = j by omega] at this
  simpa using this
theorem insI_perm (out : List Q) (q : Q) : (insI out q).Perm (out ++ [q]) := by
 unfold insI
 refine List.perm_middle.trans ?_
 rw [List.take_append_drop]
 exact (List.perm_append_singleton q out).symm
theorem getD_get {α : Type} (l : List α) (i : Nat) (d : α) (h : i < l.length) : l.getD i d = l[i] := by simp [List.getD,List.getElem?_eq_getElem h]
theorem insI_sorted {out : List Q} {q : Q} (ho : ∀ x ∈ out,okR x) (hq : okR q) (hs : out.Pairwise fun x y => ¬ cmpR x y < 0) : (insI out q).Pairwise fun x y => ¬ cmpR x y < 0 := by
 obtain ⟨h1,h2⟩ := posI_spec out q
 have hle := posI_le out q
 unfold insI
 rw [List.pairwise_append]
 refine ⟨hs.take,List.pairwise_cons.2 ⟨fun b hb => ?_,hs.drop⟩,fun a ha b hb => ?_⟩
 ·obtain ⟨j,hj,rfl⟩ := List.getElem_of_mem hb
  rw [List.getElem_drop]
  rw [List.length_drop] at hj
  have h3 := h1 (posI out q + j) (by omega) (by omega)
  rw [getD_get _ _ _ (by omega)] at h3
  have hb' := ho out[posI out q + j] (List.getElem_mem _)
  rw [cmpR_eq hb' hq] at h3
  rw [cmpR_lt] at h3 ⊢
  omega
 ·obtain ⟨i,hi,rfl⟩ := List.getElem_of_mem ha
  rw [List.getElem_take]
  rw [List.length_take] at hi
  have ha' := ho (out[i]'(by omega)) (List.getElem_mem _)
  have hpw := List.pairwise_iff_getElem.1 hs
  rcases List.mem_cons.1 hb with rfl | hb
  ·have h3 := h2 (by omega)
   rw [getD_get _ _ _ (by omega)] at h3
   have hc := ho (out[posI out b - 1]'(by omega)) (List.getElem_mem _)
   rw [cmpR_eq hc hq,geR_iff hc hq] at h3
   rw [geR_iff ha' hq]
   by_cases e : i = posI out b - 1
   ·subst e; exact h3
   ·have h4 := hpw i (posI out b - 1) (by omega) (by omega) (by omega)
    rw [geR_iff ha' hc] at h4
    exact Rat.le_trans h3 h4
  ·obtain ⟨j,hj,rfl⟩ := List.getElem_of_mem hb
   rw [List.getElem_drop]
   rw [List.length_drop] at hj
   exact hpw i (posI out q + j) (by omega) (by omega) (by omega)
def isl (e : List Q) : Nat → List Q
 | 0 => []
 | k + 1 => insI (isl e k) (e.getD k ⟨0,0⟩)
theorem isl_length (e : List Q) : ∀ k,(isl e k).length = k
 | 0 => rfl
 | k + 1 => by
  have := (insI_perm (isl e k) (e.getD k ⟨0,0⟩)).length_eq
  simp only [isl]
  rw [this,List.length_append,isl_length e k,List.length_singleton]
theorem isl_ok (e : List Q) (h : ∀ q ∈ e,okR q) : ∀ k,k ≤ e.length → (isl e k).Perm (e.take k) ∧ (isl e k).Pairwise fun x y => ¬ cmpR x y < 0
 | 0,_ => ⟨by simp [isl],by simp [isl]⟩
 | k + 1,hk => by
  obtain ⟨h1,h2⟩ := isl_ok e h k (by omega)
  have hd : e.getD k ⟨0,0⟩ = e[k] := getD_get e k _ (by omega)
  have hin : ∀ x ∈ isl e k,okR x := fun x hx => h x (List.mem_of_mem_take (h1.mem_iff.1 hx))
  refine ⟨?_,insI_sorted hin (by rw [hd]; exact h _ (List.getElem_mem _)) h2⟩
  simp only [isl]
  refine (insI_perm _ _).trans ?_
  rw [hd,List.take_succ_eq_append_getElem (by omega)]
  exact h1.append_right _
theorem isl_sort (e : List Q) (h : ∀ q ∈ e,okR q) : isl e e.length = sortR e := by
 obtain ⟨h1,h2⟩ := isl_ok e h e.length (Nat.le_refl _)
 rw [List.take_length] at h1
 exact sortR_uniq h h1 h2
theorem exs_ok (l : List Int) (x : List Q) (lo m : Nat) : ∀ q ∈ (exs l x lo m).2,okR q := by
 unfold exs
 split
 ·rename_i h
  intro q hq
  simp only [tab,List.mem_map,List.mem_range] at hq
  obtain ⟨i,hi,rfl⟩ := hq
  have := List.all_eq_true.1 h i (List.mem_range.2 hi)
  unfold exOk at this
  rw [okR_iff]
  unfold exQ
  rcases he : excessF l x (lo + i) with ⟨a,b,c⟩
  rw [he] at this
  simp only at this
  subst this
  exact (subQ_val he).2.1
 ·intro q hq
  simp at hq
theorem spec_ins (e : List Q) (he : e.length ≤ 1048576) (k : Nat) (hk : k < e.length) (out : List Q) (ho : out.length ≤ 1048576) : iter (l_spec_ExcessVector_1 e (k : Int) out) (out.length : Int) = some ((posI out (e.getD k ⟨0,0⟩) : Nat) : Int) := by
 have hit := iter_findc (step := l_spec_ExcessVector_1 e (k : Int) out) (fun i => ((out.length - i : Nat) : Int)) out.length (fun i => !decide (cmpQ (out.getD (out.length - i - 1) ⟨0,0⟩).num (out.getD (out.length - i - 1) ⟨0,0⟩).den (e.getD k ⟨0,0⟩).num (e.getD k ⟨0,0⟩).den < 0)) ((0 : Nat) : Int) (fun i => ((out.length - i : Nat) : Int))
  (fun i hi => by
   unfold l_spec_ExcessVector_1
   have e1 : IntKind.i64.wrap (((out.length - i : Nat) : Int) - 1) = ((out.length - i - 1 : Nat) : Int) := by
    rw [w64' (by omega) (by omega)]
    omega
   rw [decide_eq_true (by omega),cond_true,e1,grd_pos (by omega),grd_pos (by omega),getD_nat,getD_nat,spec_cmp,Option.bind_some]
   have e2 : out.length - (i + 1) = out.length - i - 1 := by omega
   rw [e2]
   generalize cmpQ (out.getD (out.length - i - 1) ⟨0,0⟩).num (out.getD (out.length - i - 1) ⟨0,0⟩).den (e.getD k ⟨0,0⟩).num (e.getD k ⟨0,0⟩).den = c
   cases decide (c < 0) <;> rfl)
  (by
   unfold l_spec_ExcessVector_1
   rw [decide_eq_false (by omega),cond_false,Nat.sub_self])
 simp only [Nat.sub_zero] at hit
 rw [hit]
 unfold posI
 split <;> simp_all
theorem spec_isl (e : List Q) (he : e.length ≤ 1048576) : iter (l_spec_ExcessVector_0 e) ((0 : Int),[]) = some (isl e e.length) := by
 have hit := iter_up (step := l_spec_ExcessVector_0 e) (fun i => ((i : Int),isl e i)) e.length (a := isl e e.length) (fun i hi => by
   unfold l_spec_ExcessVector_0
   dsimp only
   have hl := isl_length e i
   have hp := posI_le (isl e i) (e.getD i ⟨0,0⟩)
   rw [decide_eq_true (by omega),cond_true,spec_ins e he i hi _ (by omega),Option.bind_some]
   have hd : e.getD (i : Int).toNat ⟨0,0⟩ = e.getD i ⟨0,0⟩ := getD_nat ..
   rw [Int.toNat_natCast]
   have hr : isl e (i + 1) = (([] ++ (((isl e i).drop 0).take (posI (isl e i) (e.getD i ⟨0,0⟩)))) ++ [⟨(e.getD (i : Int).toNat ⟨0,0⟩).num,(e.getD (i : Int).toNat ⟨0,0⟩).den⟩]) ++ (((isl e i).drop (posI (isl e i) (e.getD i ⟨0,0⟩))).take ((isl e i).length - (posI (isl e i) (e.getD i ⟨0,0⟩)))) := by
    rw [hd,List.take_of_length_le (l := (isl e i).drop (posI (isl e i) (e.getD i ⟨0,0⟩))) (by rw [List.length_drop]; omega)]
    simp only [isl,insI,List.nil_append,List.drop_zero,List.append_assoc,List.singleton_append]
   have hroom : (room : Nat) = 1099511627776 := rfl
   rw [grd_pos (by omega),grd_pos (by simp only [List.length_nil,List.drop_zero,List.length_take]; omega),grd_pos (by omega),grd_pos (by simp only [List.nil_append,List.drop_zero,List.length_take,List.length_singleton]; omega),grd_pos (by omega),grd_pos (by
    simp only [List.nil_append,List.drop_zero,List.length_take,List.length_append,List.length_singleton,List.length_drop]
    omega),w64' (by omega) (by omega),hr]
   rfl)
  (by unfold l_spec_ExcessVector_0; dsimp only; rw [decide_eq_false (by omega)]; rfl)
 simp only [Int.natCast_zero] at hit
 exact hit
theorem impl_cmp1 (a b c d : Int) : m_impl_ExcessVector_1 a b c d = some (cmpQ c d a b) := by
 unfold m_impl_ExcessVector_1
 rw [impl_cmp,Option.bind_some]
theorem impl_sort (e : List Q) (he : e.length ≤ 1000000) (h : ∀ q ∈ e,okR q) : m_slices_SortFunc_impl_Rat_impl_Rat_impl_ExcessVector_1_io1 e = some (sortR e) := by
 unfold m_slices_SortFunc_impl_Rat_impl_Rat_impl_ExcessVector_1_io1
 rw [grd_pos ⟨he,h,fun x y hx hy => by rw [impl_cmp1,cmpR_eq hy hx]⟩]
theorem exvec_both (n : Int) (l : List Int) (x : List Q) (hl : l.length ≤ 1048576) (hx : x.length ≤ 1048576) : ∃ r,r.length ≤ 1048576 ∧ (∀ q ∈ r,okR q) ∧ (r.Pairwise fun x y => ¬ cmpR x y < 0) ∧ m_spec_ExcessVector n l x = some r ∧ m_impl_ExcessVector n l x = some r ∧
  (payB n l x = false → r = []) ∧ (payB n l x = true → r.Perm (exs l x 1 (l.length - 2)).2) := by
 unfold m_spec_ExcessVector m_impl_ExcessVector
 cases hp : payB n l x with
 | false =>
  rw [spec_all0 n l x hp hl hx,impl_exs0 n l x _ _ hp hl hx]
  refine ⟨[],by simp,by simp,List.Pairwise.nil,?_,rfl,fun _ => rfl,fun h => by cases h⟩
  rw [Option.bind_some]
  dsimp only
  rw [spec_isl [] (by simp)]
  rfl
 | true =>
  have hp' := hp
  simp only [payB,Bool.and_eq_true] at hp'
  obtain ⟨N,hN,h1,h2,h3,h4⟩ := valid_nat ((validB_eq n l).1 hp'.1)
  have h5 : 2 ≤ l.length := by
   rw [h3]
   exact Nat.le_trans (by decide) (Nat.pow_le_pow_right (n := 2) (by decide) h1)
  have hi := impl_exs n l x 1 (l.length - 2) (IntKind.i64.wrap ((l.length : Int) - 2)) (by rw [w64' (by omega) (by omega)]; omega) (by omega) hp hl hx
  simp only [Int.natCast_one] at hi
  rw [spec_all n l x hp hl hx,hi]
  have hle := exs_length l x 1 (l.length - 2)
  have hok := exs_ok l x 1 (l.length - 2)
  have hno : (exs l x 1 (l.length - 2)).1 = false → (exs l x 1 (l.length - 2)).2 = [] := by
   unfold exs
   split
   ·intro h; cases h
   ·intro _; rfl
  rcases hq : exs l x 1 (l.length - 2) with ⟨ok,e⟩
  rw [hq] at hle hok hno
  dsimp only at hle hok hno
  have hs := sortR_sorted e hok
  have hpm : (sortR e).Perm e := List.mergeSort_perm e _
  refine ⟨sortR e,by rw [hpm.length_eq]; omega,fun q h => hok q (hpm.mem_iff.1 h),hs,?_,?_,fun h => (by cases h),fun _ => hpm⟩
  ·rw [Option.bind_some]
   dsimp only
   rw [spec_isl e (by omega),isl_sort e hok]
   rfl
  ·rw [Option.bind_some]
   dsimp only
   cases ok with
   | false =>
    rw [hno rfl]
    simp [sortR]
   | true =>
    rw [Bool.not_true,cond_false,impl_sort e (by omega) hok]
    rfl
noncomputable def incF (n : Int) (l : List Int) (x : List Q) : Bool := payB n l x && ((exs l x 1 (l.length - 2)).1 && !(List.range (exs l x 1 (l.length - 2)).2.length).any (posP (exs l x 1 (l.length - 2)).2))
theorem core_sp (n : Int) (l : List Int) (x : List Q) (hl : l.length ≤ 1048576) (hx : x.length ≤ 1048576) : m_spec_InCore n l x = some (incF n l x) := by
 unfold m_spec_InCore incF
 cases hp : payB n l x with
 | false =>
  rw [spec_all0 n l x hp hl hx,Option.bind_some]
  dsimp only
  rw [spec_pos [] (by simp)]
  rfl
 | true =>
  have hle := exs_length l x 1 (l.length - 2)
  have hp' := hp
  simp only [payB,Bool.and_eq_true] at hp'
  obtain ⟨N,hN,h1,h2,h3,h4⟩ := valid_nat ((validB_eq n l).1 hp'.1)
  rw [spec_all n l x hp hl hx,Option.bind_some]
  revert hle
  rcases exs l x 1 (l.length - 2) with ⟨o,e⟩
  intro hle
  dsimp only at hle ⊢
  rw [spec_pos e (by omega)]
  cases o <;> cases (List.range e.length).any (posP e) <;> rfl
theorem core_eq (n : Int) (l : List Int) (x : List Q) (hl : l.length ≤ 1048576) (hx : x.length ≤ 1048576) : m_spec_InCore n l x = some (incF n l x) ∧ m_impl_InCore n l x = some (incF n l x) := by
 obtain ⟨r,e1,e2⟩ := core_both n l x hl hx
 have key := core_sp n l x hl hx
 refine ⟨key,?_⟩
 rw [e1] at key
 rw [e2,key]
theorem pay_ok (c : List UInt8) (i h n : Int) (l : List Int) (hc : c.length ≤ 1048576) (hi : 0 ≤ i) (hn : -1 ≤ n ∧ n ≤ 6) (hl : l.length ≤ 1048576) : ∃ x i' h',m_spec_l11Payoff_io1 c i h n l = some (x,i',h') ∧ x.length ≤ 5 ∧ 0 ≤ i' := by
 have hg : ∃ v,m_spec_GrandValue n l = some v := by
  cases hv : validB n l with
  | true =>
   obtain ⟨N,rfl,_⟩ := valid_nat ((validB_eq n l).1 hv)
   exact ⟨_,(grand_val N l hv).1⟩
  | false =>
   refine ⟨0,?_⟩
   unfold m_spec_GrandValue
   rw [spec_valid n l hl,hv]
   rfl
 obtain ⟨v,hv⟩ := hg
 have hroom : (room : Nat) = 1099511627776 := rfl
 obtain ⟨a,h1,h2⟩ := iter_dec (step := l_spec_l11Payoff_io1_0 c n) (fun k s => s.2.1 + k = 5 ∧ 0 ≤ s.2.1 ∧ (s.2.2.1.length : Int) = s.2.1 ∧ 0 ≤ s.2.2.2.1) (fun a => a.1.length ≤ 5 ∧ 0 ≤ a.2.1) (fun k ⟨v2,v3,v4,v5,v6⟩ ⟨h1,h2,h3,h4⟩ => by
  simp only at h1 h2 h3 h4
  unfold l_spec_l11Payoff_io1_0
  dsimp only
  by_cases e1 : v3 < n
  ·by_cases e2 : v3 < 5
   ·obtain ⟨x,i',h',b1,_,b3⟩ := pick_ok c v5 v6 [(0 : Int),(1 : Int),(2 : Int),(3 : Int),(-1 : Int),(5 : Int)] hc h4 (by decide) (by decide)
    rw [decide_eq_true e1,decide_eq_true e2,cond_true,cond_true,b1,Option.bind_some]
    unfold m_spec_l3Int
    dsimp only
    cases (v3 == IntKind.i64.wrap (n - (1 : Int))) with
    | true =>
     rw [cond_true,Option.bind_some]
     dsimp only
     rw [grd_pos (by simp only [List.length_singleton]; omega)]
     refine .inr ⟨_,k - 1,by omega,rfl,?_,?_,?_,?_⟩ <;> dsimp only
     ·rw [w64' (by omega) (by omega)]
      omega
     ·rw [w64' (by omega) (by omega)]
      omega
     ·rw [w64' (by omega) (by omega),List.length_append,List.length_singleton]
      omega
     ·exact b3
    | false =>
     rw [cond_false,Option.bind_some]
     dsimp only
     rw [grd_pos (by simp only [List.length_singleton]; omega)]
     refine .inr ⟨_,k - 1,by omega,rfl,?_,?_,?_,?_⟩ <;> dsimp only
     ·rw [w64' (by omega) (by omega)]
      omega
     ·rw [w64' (by omega) (by omega)]
      omega
     ·rw [w64' (by omega) (by omega),List.length_append,List.length_singleton]
      omega
     ·exact b3
   ·rw [decide_eq_true e1,decide_eq_false e2,cond_true,cond_false]
    exact .inl ⟨_,rfl,by dsimp only; omega,h4⟩
  ·rw [decide_eq_false e1,cond_false]
   exact .inl ⟨_,rfl,by dsimp only; omega,h4⟩) 5 (v,0,[],i,h) ⟨rfl,Int.le_refl 0,rfl,hi⟩
 unfold m_spec_l11Payoff_io1
 rw [hv,Option.bind_some,h1]
 exact ⟨_,_,_,rfl,h2⟩
theorem l3draw_ok (c : List UInt8) (i h : Int) (hc : c.length ≤ 1048576) (hi : 0 ≤ i) : ∃ a b i' h',m_spec_l3Draw_io1 c i h = some (a,b,i',h') ∧ 0 ≤ i' := by
 unfold m_spec_l3Draw_io1
 obtain ⟨x1,i1,h1,e1,_,p1⟩ := pick_ok c i h [(0 : Int),(1 : Int),(2 : Int),(-1 : Int),(3 : Int),(-7 : Int),(12 : Int),(999999999 : Int),(-1000000000 : Int)] hc hi (by decide) (by decide)
 rw [e1,Option.bind_some]
 dsimp only
 obtain ⟨x2,i2,h2,e2,_,p2⟩ := pick_ok c i1 h1 [(1 : Int),(1 : Int),(2 : Int),(3 : Int),(7 : Int),(1000000000 : Int),(999999937 : Int)] hc p1 (by decide) (by decide)
 rw [e2,Option.bind_some]
 dsimp only
 rw [spec_ratOf,Option.bind_some]
 rcases ratOf x1 x2 with ⟨a,b,o⟩
 dsimp only
 obtain ⟨x3,i3,h3,e3,p3⟩ := once_ok c i2 h2 12 hc p2 (by decide)
 rw [e3,Option.bind_some]
 dsimp only
 cases x3 with
 | false => exact ⟨_,_,_,_,rfl,p3⟩
 | true =>
  rw [cond_true]
  obtain ⟨x4,i4,h4,e4,_,p4⟩ := pick_ok c i3 h3 [(0 : Int),(2 : Int),(1000000001 : Int)] hc p3 (by decide) (by decide)
  rw [e4,Option.bind_some]
  dsimp only
  obtain ⟨x5,i5,h5,e5,_,p5⟩ := pick_ok c i4 h4 [(0 : Int),(2 : Int),(-1 : Int),(1 : Int)] hc p4 (by decide) (by decide)
  rw [e5,Option.bind_some]
  exact ⟨_,_,_,_,rfl,p5⟩
theorem shap_tot (n : Int) (l : List Int) (hl : l.length ≤ 1048576) : ∃ b r,r.length ≤ 1048576 ∧ m_spec_ShapleyValue n l = some (b,r) := by
 cases hv : validB n l with
 | false => exact ⟨false,[],by simp,spec_shap0 n l hl hv⟩
 | true =>
  obtain ⟨N,rfl,h1,h2,h3,h4⟩ := valid_nat ((validB_eq n l).1 hv)
  exact ⟨true,tab (shQ l N) N,by rw [tab_length]; omega,spec_shap N l hl hv⟩
theorem args_tail (c : List UInt8) (i h n : Int) (l : List Int) (hc : c.length ≤ 1048576) (hi : 0 ≤ i) (hn : -1 ≤ n ∧ n ≤ 6) (hl : l.length ≤ 17) :
  ∃ x : List Q,x.length ≤ 1048576 ∧ ((m_spec_l11Payoff_io1 c i h n l).bind fun (v42,v43,v44) =>
bif decide ((v42.length : Int) > (0 : Int)) then
((m_spec_l1Once_io1 c v43 v44 (10 : Int)).bind fun (v45,v46,v47) =>
bif v45 then
((m_spec_l3Draw_io1 c v46 v47).bind fun (v48,v49,v50,v51) =>
grd ((0 : Int) ≤ (0 : Int) ∧ (0 : Int) < (v42.length : Int)) <|
(m_spec_l1Once_io1 c v50 v51 (3 : Int)).bind fun (v52,_,_) =>
bif v52 then
((m_spec_ShapleyValue n l).bind fun (_,v56) =>
some (n,l,v56))
else
(some (n,l,v42.set ((0 : Int).toNat) ⟨v48,v49⟩)))
else
((m_spec_l1Once_io1 c v46 v47 (3 : Int)).bind fun (v57,_,_) =>
bif v57 then
((m_spec_ShapleyValue n l).bind fun (_,v61) =>
some (n,l,v61))
else
(some (n,l,v42))))
else
((m_spec_l1Once_io1 c v43 v44 (3 : Int)).bind fun (v62,_,_) =>
bif v62 then
((m_spec_ShapleyValue n l).bind fun (_,v66) =>
some (n,l,v66))
else
(some (n,l,v42)))) = some (n,l,x) := by
 obtain ⟨x,i1,h1,e1,p1,q1⟩ := pay_ok c i h n l hc hi hn (by omega)
 obtain ⟨b,r,r1,r2⟩ := shap_tot n l (by omega)
 rw [e1,r2,Option.bind_some]
 dsimp only
 simp only [Option.bind_some]
 cases hx : decide ((x.length : Int) > 0) with
 | false =>
  obtain ⟨o,i2,h2,e2,q2⟩ := once_ok c i1 h1 3 hc q1 (by decide)
  rw [cond_false,e2,Option.bind_some]
  cases o with
  | true => exact ⟨r,r1,rfl⟩
  | false => exact ⟨x,by omega,rfl⟩
 | true =>
  have hx := of_decide_eq_true hx
  obtain ⟨o,i2,h2,e2,q2⟩ := once_ok c i1 h1 10 hc q1 (by decide)
  rw [cond_true,e2,Option.bind_some]
  dsimp only
  cases o with
  | true =>
   obtain ⟨a,b,i3,h3,e3,q3⟩ := l3draw_ok c i2 h2 hc q2
   rw [cond_true,e3,Option.bind_some]
   dsimp only
   obtain ⟨o4,i4,h4,e4,q4⟩ := once_ok c i3 h3 3 hc q3 (by decide)
   rw [grd_pos ⟨Int.le_refl 0,hx⟩,e4,Option.bind_some]
   cases o4 with
   | true => exact ⟨r,r1,rfl⟩
   | false => exact ⟨x.set (0 : Int).toNat ⟨a,b⟩,by rw [List.length_set]; omega,rfl⟩
  | false =>
   obtain ⟨o4,i4,h4,e4,q4⟩ := once_ok c i2 h2 3 hc q2 (by decide)
   rw [cond_false,e4,Option.bind_some]
   cases o4 with
   | true => exact ⟨r,r1,rfl⟩
   | false => exact ⟨x,by omega,rfl⟩
theorem args_ok (c : List UInt8) (hc : c.length ≤ 1048576) : ∃ n l x,m_spec_l11Args c = some (n,l,x) ∧ l.length ≤ 17 ∧ x.length ≤ 1048576 ∧ (-1 ≤ n ∧ n ≤ 6) := by
 unfold m_spec_l11Args
 obtain ⟨h,e⟩ := new2 0 [] c
 rw [e,Option.bind_some]
 dsimp only
 obtain ⟨n,l,i1,h1,e1,p1,q1,r1⟩ := draw8_ok c 0 h hc (Int.le_refl 0)
 rw [e1,Option.bind_some]
 dsimp only
 obtain ⟨o,i2,h2,e2,r2⟩ := once_ok c i1 h1 16 hc r1 (by decide)
 rw [e2,Option.bind_some]
 dsimp only
 cases o with
 | false =>
  obtain ⟨x,x1,x2⟩ := args_tail c i2 h2 n l hc r2 (by omega) (by omega)
  refine ⟨n,l,x,?_,by omega,x1,by omega⟩
  rw [cond_false]
  exact x2
 | true =>
  obtain ⟨n,l,i3,h3,e3,p3,q3,r3⟩ := bent_ok c i2 h2 hc r2
  rw [cond_true,e3,Option.bind_some]
  dsimp only
  obtain ⟨x,x1,x2⟩ := args_tail c i3 h3 n l hc r3 (by omega) (by omega)
  exact ⟨n,l,x,x2,by omega,x1,by omega⟩
noncomputable def wsF (n : Int) (l : List Int) (x : List Q) : Int × Int × Bool × List Int := bif payB n l x && ((exs l x 1 (l.length - 2)).1 && !((exs l x 1 (l.length - 2)).2.length == 0)) then ((maxF (exs l x 1 (l.length - 2)).2 (exs l x 1 (l.length - 2)).2.length).num,(maxF (exs l x 1 (l.length - 2)).2 (exs l x 1 (l.length - 2)).2.length).den,true,eqL (exs l x 1 (l.length - 2)).2 (maxF (exs l x 1 (l.length - 2)).2 (exs l x 1 (l.length - 2)).2.length)) else (0,0,false,[])
theorem worst_eq (n : Int) (l : List Int) (x : List Q) (hl : l.length ≤ 1048576) (hx : x.length ≤ 1048576) : m_spec_WorstExcess n l x = some (wsF n l x) ∧ m_impl_WorstExcess n l x = some (wsF n l x) := by
 unfold m_spec_WorstExcess m_impl_WorstExcess wsF
 cases hp : payB n l x with
 | false =>
  rw [spec_all0 n l x hp hl hx,impl_exs0 n l x _ _ hp hl hx]
  exact ⟨rfl,rfl⟩
 | true =>
  have hp' := hp
  simp only [payB,Bool.and_eq_true] at hp'
  obtain ⟨N,hN,h1,h2,h3,h4⟩ := valid_nat ((validB_eq n l).1 hp'.1)
  have h5 : 2 ≤ l.length := by
   rw [h3]
   exact Nat.le_trans (by decide) (Nat.pow_le_pow_right (n := 2) (by decide) h1)
  have hi := impl_exs n l x 1 (l.length - 2) (IntKind.i64.wrap ((l.length : Int) - 2)) (by rw [w64' (by omega) (by omega)]; omega) (by omega) hp hl hx
  simp only [Int.natCast_one] at hi
  rw [spec_all n l x hp hl hx,hi]
  have hle := exs_length l x 1 (l.length - 2)
  rcases hq : exs l x 1 (l.length - 2) with ⟨ok,e⟩
  rw [hq] at hle
  simp only [Option.bind_some] at hle ⊢
  cases ok with
  | false => exact ⟨rfl,rfl⟩
  | true =>
   by_cases he : e.length = 0
   ·have e1 : ((e.length : Int) == 0) = true := by simp [he]
    have e2 : (e.length == 0) = true := by simp [he]
    rw [e1,e2]
    exact ⟨rfl,rfl⟩
   ·have e1 : ((e.length : Int) == 0) = false := by
     rw [beq_eq_false_iff_ne]
     omega
    have e2 : (e.length == 0) = false := by
     rw [beq_eq_false_iff_ne]
     exact he
    have hle' : e.length ≤ 1048576 := by omega
    simp only [Bool.not_true,cond_false,e1,e2,Bool.not_false,Bool.and_self,cond_true]
    rw [impl_max e hle' (by omega),grd_pos (by omega),spec_max e hle',Option.bind_some,Option.bind_some]
    dsimp only
    rw [eql_step,spec_eql e hle' (maxF e e.length)]
    exact ⟨rfl,rfl⟩
theorem maxF_val {e : List Q} : ∀ k,1 ≤ k → (∀ i,i < k → vq (e.getD i ⟨0,0⟩)) → vq (maxF e k) ∧ (∃ i,i < k ∧ maxF e k = e.getD i ⟨0,0⟩) ∧ ∀ i,i < k → qg e i ≤ qr (maxF e k)
 | 0,h,_ => by omega
 | 1,_,hv => by
  rw [maxF_one]
  refine ⟨hv 0 (by omega),⟨0,by omega,rfl⟩,fun i hi => ?_⟩
  rw [show i = 0 by omega]
  exact Rat.le_refl
 | k + 2,_,hv => by
  obtain ⟨h1,⟨i0,h2,h3⟩,h4⟩ := maxF_val (e := e) (k + 1) (by omega) fun i hi => hv i (by omega)
  have hk := hv (k + 1) (by omega)
  have em : maxF e (k + 2) = if cmpQ (e.getD (k + 1) ⟨0,0⟩).num (e.getD (k + 1) ⟨0,0⟩).den (maxF e (k + 1)).num (maxF e (k + 1)).den > 0 then e.getD (k + 1) ⟨0,0⟩ else maxF e (k + 1) := rfl
  rw [em]
  have hc := cmpQ_pos hk h1
  by_cases h : cmpQ (e.getD (k + 1) ⟨0,0⟩).num (e.getD (k + 1) ⟨0,0⟩).den (maxF e (k + 1)).num (maxF e (k + 1)).den > 0
  ·rw [if_pos h]
   have hlt : qr (maxF e (k + 1)) < qg e (k + 1) := hc.1 h
   refine ⟨hk,⟨k + 1,by omega,rfl⟩,fun i hi => ?_⟩
   show qg e i ≤ qg e (k + 1)
   by_cases hi2 : i < k + 1
   ·have := h4 i hi2
    grind
   ·rw [show i = k + 1 by omega]
    exact Rat.le_refl
  ·rw [if_neg h]
   refine ⟨h1,⟨i0,by omega,h3⟩,fun i hi => ?_⟩
   by_cases hi2 : i < k + 1
   ·exact h4 i hi2
   ·rw [show i = k + 1 by omega]
    exact Rat.not_lt.1 fun hlt => h (hc.2 hlt)
theorem new1 (a : Int) (b : List Int) (c : List UInt8) : ∃ h,m_spec_l1New_io1 a b c = some (c,0,h,a) := by
 obtain ⟨h,k⟩ := new_loop c (IntKind.i64.wrap ((26583 : Int) + (c.length : Int)))
 have e0 : l_spec_l1New_io1_0 c = l_spec_l1New_io2_0 c := rfl
 exact ⟨h,by unfold m_spec_l1New_io1; rw [e0,k]; rfl⟩
theorem new0 (c : List UInt8) : ∃ h,m_spec_l1New c = some (c,0,h) := by
 obtain ⟨h,k⟩ := new_loop c (IntKind.i64.wrap ((26583 : Int) + (c.length : Int)))
 have e0 : l_spec_l1New_0 c = l_spec_l1New_io2_0 c := rfl
 exact ⟨h,by unfold m_spec_l1New; rw [e0,k]; rfl⟩
theorem l4draw_ok (c : List UInt8) (i h n : Int) (hc : c.length ≤ 1048576) (hi : 0 ≤ i) (hn : n ≤ 100) : ∃ x i' h',m_spec_l4Draw_io1 c i h n = some (x,i',h') ∧ x.length ≤ 100 ∧ 0 ≤ i' := by
 have hroom : (room : Nat) = 1099511627776 := rfl
 obtain ⟨a,h1,h2⟩ := iter_dec (step := l_spec_l4Draw_io1_0 c n) (fun k s => s.1 + k = 100 ∧ 0 ≤ s.1 ∧ (s.2.1.length : Int) = s.1 ∧ 0 ≤ s.2.2.1) (fun a => a.1.length ≤ 100 ∧ 0 ≤ a.2.1) (fun k ⟨v1,v2,v3,v4⟩ ⟨h1,h2,h3,h4⟩ => by
  simp only at h1 h2 h3 h4
  unfold l_spec_l4Draw_io1_0
  dsimp only
  by_cases e1 : v1 < n
  ·obtain ⟨x,y,i',h',b1,b3⟩ := l3draw_ok c v3 v4 hc h4
   rw [decide_eq_true e1,cond_true,b1,Option.bind_some]
   dsimp only
   rw [grd_pos (by simp only [List.length_singleton]; omega)]
   refine .inr ⟨_,k - 1,by omega,rfl,?_,?_,?_,?_⟩ <;> dsimp only
   ·rw [w64' (by omega) (by omega)]
    omega
   ·rw [w64' (by omega) (by omega)]
    omega
   ·rw [w64' (by omega) (by omega),List.length_append,List.length_singleton]
    omega
   ·exact b3
  ·rw [decide_eq_false e1,cond_false]
   exact .inl ⟨_,rfl,by dsimp only; omega,h4⟩) 100 (0,[],i,h) ⟨rfl,Int.le_refl 0,rfl,hi⟩
 unfold m_spec_l4Draw_io1
 rw [h1]
 exact ⟨_,_,_,rfl,h2⟩
theorem draw_share (c : List UInt8) (hc : c.length ≤ 1048576) : ∃ s x,m_spec_DrawShareOf c = some (s,x) := by
 unfold m_spec_DrawShareOf
 obtain ⟨h,e⟩ := new0 c
 rw [e,Option.bind_some]
 dsimp only
 obtain ⟨x,i1,h1,e1,c1,p1⟩ := below_ok c 0 h 6 hc (Int.le_refl 0) (by decide)
 rw [e1,Option.bind_some]
 dsimp only
 obtain ⟨y,i2,h2,e2,_,p2⟩ := l4draw_ok c i1 h1 x hc p1 (by omega)
 rw [e2,Option.bind_some]
 dsimp only
 unfold m_spec_l2Any_io1
 obtain ⟨z,i3,h3,e3,_⟩ := pick_ok c i2 h2 [(0 : Int),(1 : Int),(2 : Int),(3 : Int),(5 : Int),(7 : Int),(12 : Int),(21 : Int),(31 : Int),(32 : Int),(-1 : Int)] hc p2 (by decide) (by decide)
 rw [e3,Option.bind_some]
 exact ⟨_,_,rfl⟩
theorem draw_excess (c : List UInt8) (hc : c.length ≤ 1048576) : ∃ n l x s,m_spec_DrawExcessOf c = some (n,l,x,s) ∧ l.length ≤ 17 := by
 unfold m_spec_DrawExcessOf
 obtain ⟨n,l,x,e,q1,_⟩ := args_ok c hc
 rw [e,Option.bind_some]
 dsimp only
 obtain ⟨h,k⟩ := new1 0 [] c
 rw [k,Option.bind_some]
 dsimp only
 obtain ⟨y,i1,h1,e1,_⟩ := below_ok c 0 h (IntKind.i64.wrap ((l.length : Int) + (2 : Int))) hc (Int.le_refl 0) (by rw [w64' (by omega) (by omega)]; omega)
 rw [e1,Option.bind_some]
 exact ⟨_,_,_,_,rfl,q1⟩
theorem spec_exvec (n : Int) (l : List Int) (x : List Q) (hl : l.length ≤ 1048576) (hx : x.length ≤ 1048576) : ∃ r,r.length ≤ 1048576 ∧ m_spec_ExcessVector n l x = some r := by
 obtain ⟨r,h1,_,_,h2,_⟩ := exvec_both n l x hl hx
 exact ⟨r,h1,h2⟩
theorem draw_cmpex (c : List UInt8) (hc : c.length ≤ 1048576) : ∃ x y,m_spec_DrawCompareExcesses c = some (x,y) ∧ x.length ≤ 1048576 ∧ y.length ≤ 1048576 := by
 unfold m_spec_DrawCompareExcesses
 obtain ⟨n,l,x,e,q1,q2,q3⟩ := args_ok c hc
 rw [e,Option.bind_some]
 dsimp only
 obtain ⟨h,k⟩ := new0 c
 rw [k,Option.bind_some]
 dsimp only
 obtain ⟨y,i1,h1,e1,p1,_⟩ := pay_ok c 0 h n l hc (Int.le_refl 0) q3 (by omega)
 rw [e1,Option.bind_some]
 dsimp only
 obtain ⟨u,u1,u2⟩ := spec_exvec n l x (by omega) q2
 obtain ⟨v,v1,v2⟩ := spec_exvec n l y (by omega) (by omega)
 rw [u2,v2,Option.bind_some,Option.bind_some]
 exact ⟨_,_,rfl,u1,v1⟩
theorem ws_pay {n : Int} {l : List Int} {x v : List Q} {a b : Int} {r : List Int} (h : wsF n l x = (a,b,true,r)) (hok : ∀ q ∈ v,okR q) (hs : v.Pairwise fun x y => ¬ cmpR x y < 0) (hp : payB n l x = true → v.Perm (exs l x 1 (l.length - 2)).2) :
  incF n l x = decide (a ≤ 0) ∧ v.length ≠ 0 ∧ (v.getD 0 ⟨0,0⟩).num = a ∧ (v.getD 0 ⟨0,0⟩).den = b := by
 have heok := exs_ok l x 1 (l.length - 2)
 unfold wsF at h
 unfold incF
 cases hc : (payB n l x && ((exs l x 1 (l.length - 2)).1 && !((exs l x 1 (l.length - 2)).2.length == 0))) with
 | false =>
  rw [hc,cond_false] at h
  exact absurd (show false = true from congrArg (fun t => t.2.2.1) h) (by decide)
 | true =>
  rw [hc,cond_true] at h
  simp only [Bool.and_eq_true,Bool.not_eq_true',beq_eq_false_iff_ne] at hc
  obtain ⟨h1,h2,h3⟩ := hc
  have hp := hp h1
  rw [h1,h2,Bool.true_and,Bool.true_and]
  revert h h3 hp heok
  rcases exs l x 1 (l.length - 2) with ⟨o,e⟩
  dsimp only
  intro h heok h3 hp
  have hve : ∀ i,i < e.length → vq (e.getD i ⟨0,0⟩) := fun i hi => by
   rw [getD_get _ _ _ hi]
   exact (okR_iff _).1 (heok _ (List.getElem_mem hi))
  obtain ⟨m1,⟨i0,m2,m3⟩,m4⟩ := maxF_val (e := e) e.length (by omega) fun i hi => hve i hi
  simp only [Prod.mk.injEq] at h
  obtain ⟨e1,e2,_⟩ := h
  have hlen := hp.length_eq
  have hv0 : 0 < v.length := by omega
  refine ⟨?_,by omega,?_⟩
  ·rw [← e1]
   cases hany : (List.range e.length).any (posP e) with
   | true =>
    obtain ⟨i,hi,hpos⟩ := List.any_eq_true.1 hany
    have hi := List.mem_range.1 hi
    have hpos := of_decide_eq_true hpos
    have q1 := (rv_sign (hve i hi)).2.2 hpos
    have q2 := m4 i hi
    have q3 := (rv_sign m1).2.1 (by show 0 < qr (maxF e e.length); unfold qg at q2; unfold qr at q2 ⊢; grind)
    rw [decide_eq_false (by omega)]
    rfl
   | false =>
    have : posP e i0 = false := by
     cases hc : posP e i0 with
     | false => rfl
     | true =>
      rw [List.any_eq_true.2 ⟨i0,List.mem_range.2 m2,hc⟩] at hany
      cases hany
    have := of_decide_eq_false this
    rw [m3,decide_eq_true (by omega)]
    rfl
  ·have g0 := getD_get v 0 (⟨0,0⟩ : Q) hv0
   have hin : v[0] ∈ e := hp.mem_iff.1 (List.getElem_mem hv0)
   have hok0 : validQ (v.getD 0 ⟨0,0⟩).num (v.getD 0 ⟨0,0⟩).den = true := by
    rw [g0]
    exact (okR_iff _).1 (hok _ (List.getElem_mem hv0))
   have up : qr (v.getD 0 ⟨0,0⟩) ≤ qr (maxF e e.length) := by
    obtain ⟨k,hk,hk2⟩ := List.getElem_of_mem hin
    have := m4 k hk
    unfold qg at this
    rw [getD_get _ _ _ hk,hk2] at this
    rw [g0]
    exact this
   have lo : qr (maxF e e.length) ≤ qr (v.getD 0 ⟨0,0⟩) := by
    have hmem : maxF e e.length ∈ v := by
     rw [m3,getD_get _ _ _ m2]
     exact hp.mem_iff.2 (List.getElem_mem m2)
    obtain ⟨k,hk,hk2⟩ := List.getElem_of_mem hmem
    rw [g0,← hk2]
    by_cases h0 : k = 0
    ·subst h0
     exact Rat.le_refl
    ·exact (geR_iff (hok _ (List.getElem_mem hv0)) (hok _ (List.getElem_mem hk))).1 (List.pairwise_iff_getElem.1 hs 0 k hv0 hk (by omega))
   have := rv_inj hok0 m1 (Rat.le_antisymm up lo)
   rw [← e1,← e2]
   exact this
theorem sorted_loop (v : List Q) (hl : v.length ≤ 1048576) (hok : ∀ q ∈ v,okR q) (hs : v.Pairwise fun x y => ¬ cmpR x y < 0) : iter (l_laws_FnPayoffs_0 v) (1 : Int) = some (.inl ()) := by
 have hit := iter_up (step := l_laws_FnPayoffs_0 v) (fun k => ((k + 1 : Nat) : Int)) (v.length - 1) (a := .inl ()) (fun k hk => by
   unfold l_laws_FnPayoffs_0
   have e1 : IntKind.i64.wrap (((k + 1 : Nat) : Int) - 1) = (k : Int) := by
    rw [w64' (by omega) (by omega)]
    omega
   rw [decide_eq_true (by omega),cond_true,e1,grd_pos (by omega),grd_pos (by omega),Int.toNat_natCast,Int.toNat_natCast,impl_cmp,Option.bind_some]
   have h1 : k < v.length := by omega
   have h2 : k + 1 < v.length := by omega
   have hc := List.pairwise_iff_getElem.1 hs k (k + 1) h1 h2 (by omega)
   rw [getD_get _ _ _ h1,getD_get _ _ _ h2,cmpR_eq (hok _ (List.getElem_mem h1)) (hok _ (List.getElem_mem h2)),decide_eq_false hc,cond_false,w64' (by omega) (by omega)]
   rfl)
  (by
   unfold l_laws_FnPayoffs_0
   rw [decide_eq_false (by omega)]
   rfl)
 exact hit
theorem law_FnPayoffs (c : List UInt8) (_ : c.length ≤ maxLen) : m_laws_FnPayoffs c = some true := by
 unfold m_laws_FnPayoffs m_laws_big m_spec_DrawInCore
 by_cases hb : (c.length : Int) > 1048576
 ·rw [decide_eq_true hb]; rfl
 obtain ⟨n,l,x,hd,hl17,hx,_⟩ := args_ok c (by omega)
 have hl : l.length ≤ 1048576 := by omega
 obtain ⟨x1,x2,hd1,t1,t2⟩ := draw_cmpex c (by omega)
 obtain ⟨s,y,hd2⟩ := draw_share c (by omega)
 obtain ⟨n3,l3,x3,s3,hd3,t3⟩ := draw_excess c (by omega)
 obtain ⟨c1,c2⟩ := core_eq n l x hl hx
 obtain ⟨w1,w2⟩ := worst_eq n l x hl hx
 obtain ⟨a0,b0,o0,r0,hr0,w3,_⟩ := worst_both n l x hl hx
 obtain ⟨v,v1,v2,v3,v4,v5,v6,v7⟩ := exvec_both n l x hl hx
 obtain ⟨im,i1,i2⟩ := imp_both n l x hl hx
 obtain ⟨sa,sb,so,s1,s2⟩ := share_both y s
 obtain ⟨ea,eb,eo,e1,e2⟩ := excess_both n3 l3 x3 s3 (by omega)
 obtain ⟨ce,ce1⟩ := spec_cmpEx x1 x2 t1 t2
 have ce2 : m_impl_CompareExcesses x1 x2 = some ce := by rw [cmpEx_eq,ce1]
 have hsort := sorted_loop v v1 v2 v3
 rcases hw : wsF n l x with ⟨a,b,o,r⟩
 have hws := fun h => ws_pay (n := n) (l := l) (x := x) (v := v) (a := a) (b := b) (r := r) h v2 v3 v7
 rw [hw] at w1 w2
 have hrl : r.length ≤ 1048576 := by
  rw [w1] at w3
  simp only [Option.some.injEq,Prod.mk.injEq] at w3
  rw [w3.2.2.2]
  exact hr0
 rw [decide_eq_false hb,Option.bind_some,cond_false,hd]
 simp only [Option.bind_some]
 rw [hd1,hd2,hd3,c2,w2,w1,v5,c1]
 simp only [Option.bind_some]
 rw [same_self r hrl,v4,hsort,impl_payoff n l x hl hx,spec_payoff n l x hl hx,i2,i1]
 simp only [Option.bind_some]
 rw [spec_eqv v v v1]
 simp only [Option.bind_some,bne_self_eq_false,beq_self_eq_true,Bool.and_self,Bool.not_true,cond_false,decide_true,s1,s2,e1,e2,ce1,ce2,cond_true]
 cases o with
 | false => rfl
 | true =>
  obtain ⟨p1,p2,p3,p4⟩ := hws hw
  have hz : ((v.length : Int) == 0) = false := by
   rw [beq_eq_false_iff_ne]
   omega
  have e0 : (0 : Int).toNat = 0 := rfl
  rw [cond_true,p1,bne_self_eq_false,cond_false,hz,cond_false,grd_pos (by omega),e0,p3,p4,beq_self_eq_true,beq_self_eq_true]
  rfl
end Go.Proofs.Ytnbkkljhdnkiaaa
