/- The plain laws: what the models of FnProperties compute. No condition beyond those that each theorem names. -/
import Derived.Test.YtmlfjoppaciknaaGPropertiesp
import Derived.Test.YtmlfjoppaciknaaAmC
namespace Go.Proofs.Ytmlfjoppaciknaa
open Go.AM
def Valid (n : Int) (l : List Int) : Prop := (1 ≤ n ∧ n ≤ 5) ∧ (l.length : Int) = 2 ^ n.toNat ∧ l.getD 0 0 = 0 ∧ ∀ i, i < l.length → -500 ≤ l.getD i 0 ∧ l.getD i 0 ≤ 500
open Classical in
noncomputable def validB (n : Int) (l : List Int) : Bool := decide (Valid n l)
theorem in_eq (a b c : Int) : m_spec_l1In a b c = some (decide (b ≤ a ∧ a ≤ c)) := by
  unfold m_spec_l1In
  by_cases h : a ≥ b
  · have h' : b ≤ a := h
    simp [h, h']
  · have h' : ¬ b ≤ a := h
    simp [h, h']
theorem within_eq (a b c : Int) : m_impl_within a b c = some (decide (b ≤ a ∧ a ≤ c)) := in_eq a b c
theorem count_eq (n : Int) (h1 : 1 ≤ n) (h2 : n ≤ 5) : m_spec_CountCoalitions n = some (2 ^ n.toNat) := by
  unfold m_spec_CountCoalitions
  rw [in_eq]
  have hb : decide ((0 : Int) ≤ n ∧ n ≤ 5) = true := by simp; omega
  rw [hb, Option.bind_some, Bool.not_true, cond_false]
  have hit := iter_up (step := l_spec_CountCoalitions_0 n) (fun i => ((2 : Int) ^ i, (i : Int))) n.toNat (a := 2 ^ n.toNat) (fun i hi => by
      have hlt : (i : Int) < n := by omega
      have hi5 : i < 5 := by omega
      unfold l_spec_CountCoalitions_0
      simp only [hlt, decide_true, cond_true]
      have hp : (2 : Int) ^ i ≤ 16 := by
        have : i = 0 ∨ i = 1 ∨ i = 2 ∨ i = 3 ∨ i = 4 := by omega
        rcases this with rfl | rfl | rfl | rfl | rfl <;> decide
      have hp0 : (0 : Int) < 2 ^ i := Int.pow_pos (by decide)
      rw [w64' (by omega) (by omega), w64' (by omega) (by omega)]
      simp [Int.pow_succ])
    (by
      unfold l_spec_CountCoalitions_0
      have : ¬ ((n.toNat : Int) < n) := by omega
      simp only [this, decide_false, cond_false])
  simp only [Int.pow_zero, Int.ofNat_eq_natCast, Int.natCast_zero] at hit
  rw [hit]
  rfl
theorem spec_valid (n : Int) (l : List Int) (hl : l.length ≤ 1048576) : m_spec_IsValidGame n l = some (validB n l) := by
  unfold m_spec_IsValidGame
  have hit := iter_first (step := l_spec_IsValidGame_0 l) (fun i => (i : Int)) l.length (fun i => decide (-500 ≤ l.getD i 0 ∧ l.getD i 0 ≤ 500)) (a := .inl ()) (fun _ => .inr false)
    (fun i hi hp => by
      have hi' : (i : Int) < l.length := by omega
      unfold l_spec_IsValidGame_0
      rw [decide_eq_true hi', cond_true, grd_pos ⟨by omega, hi'⟩, in_eq, Int.toNat_natCast, hp, Option.bind_some, Bool.not_true, cond_false, w64' (by omega) (by omega)]
      rfl)
    (fun i hi hp => by
      have hi' : (i : Int) < l.length := by omega
      unfold l_spec_IsValidGame_0
      rw [decide_eq_true hi', cond_true, grd_pos ⟨by omega, hi'⟩, in_eq, Int.toNat_natCast, hp]
      rfl)
    (by
      unfold l_spec_IsValidGame_0
      rw [decide_eq_false (by omega)]
      rfl)
  simp only [Int.ofNat_eq_natCast, Int.natCast_zero] at hit
  rcases hit with ⟨h1, h2⟩ | ⟨i, h1, h2, h3⟩
  · rw [h2]
    simp only [Option.bind_some]
    rw [in_eq]
    by_cases hn : 1 ≤ n ∧ n ≤ 5
    · rw [decide_eq_true hn, Option.bind_some, cond_true, count_eq n hn.1 hn.2, Option.bind_some]
      by_cases hlen : (l.length : Int) = 2 ^ n.toNat
      · have hpos : (0 : Int) < 2 ^ n.toNat := Int.pow_pos (by decide)
        have e1 : ((l.length : Int) == 2 ^ n.toNat) = true := by simpa using hlen
        rw [e1, cond_true, grd_pos ⟨by omega, by omega⟩]
        congr 1
        have h0 : (0 : Int).toNat = 0 := rfl
        rw [h0]
        by_cases hz : l.getD 0 0 = 0
        · have hv : Valid n l := ⟨hn, hlen, hz, fun i hi => by simpa using h1 i hi⟩
          rw [hz]
          simp [validB, hv]
        · have hv : ¬ Valid n l := fun h => hz h.2.2.1
          simp only [validB, hv, decide_false]
          simpa using hz
      · have e1 : ((l.length : Int) == 2 ^ n.toNat) = false := by simpa using hlen
        have hv : ¬ Valid n l := fun h => hlen h.2.1
        rw [e1, cond_false]
        simp [validB, hv]
    · have hv : ¬ Valid n l := fun h => hn h.1
      rw [decide_eq_false hn]
      simp [validB, hv]
  · rw [h3]
    have hv : ¬ Valid n l := fun h => by
      have := h.2.2.2 i h1
      simp only [decide_eq_false_iff_not] at h2
      exact h2 this
    simp [validB, hv]
theorem contains_eq (l : List Int) (hl : l.length ≤ 1048576) : ∃ r, m_slices_ContainsFunc_int_int_impl_IsValidGame_1 l = some r ∧ (r = false ↔ ∀ i, i < l.length → -500 ≤ l.getD i 0 ∧ l.getD i 0 ≤ 500) := by
  unfold m_slices_ContainsFunc_int_int_impl_IsValidGame_1 m_slices_IndexFunc_int_int_impl_IsValidGame_1
  have hm : ∀ x, m_impl_IsValidGame_1 x = some (!decide (-500 ≤ x ∧ x ≤ 500)) := fun x => by
    unfold m_impl_IsValidGame_1
    rw [within_eq]
    rfl
  have hit := iter_first (step := l_slices_IndexFunc_int_int_impl_IsValidGame_1_0 l) (fun i => (i : Int)) l.length (fun i => decide (-500 ≤ l.getD i 0 ∧ l.getD i 0 ≤ 500)) (a := .inl ()) (fun i => .inr (i : Int))
    (fun i hi hp => by
      have hi' : (i : Int) < l.length := by omega
      unfold l_slices_IndexFunc_int_int_impl_IsValidGame_1_0
      rw [decide_eq_true hi', cond_true, grd_pos ⟨by omega, hi'⟩, hm, Int.toNat_natCast, hp, Option.bind_some, Bool.not_true, cond_false, w64' (by omega) (by omega)]
      rfl)
    (fun i hi hp => by
      have hi' : (i : Int) < l.length := by omega
      unfold l_slices_IndexFunc_int_int_impl_IsValidGame_1_0
      rw [decide_eq_true hi', cond_true, grd_pos ⟨by omega, hi'⟩, hm, Int.toNat_natCast, hp]
      rfl)
    (by
      unfold l_slices_IndexFunc_int_int_impl_IsValidGame_1_0
      rw [decide_eq_false (by omega)]
      rfl)
  simp only [Int.ofNat_eq_natCast, Int.natCast_zero] at hit
  rcases hit with ⟨h1, h2⟩ | ⟨i, h1, h2, h3⟩
  · rw [h2]
    exact ⟨false, rfl, by simpa using h1⟩
  · rw [h3]
    refine ⟨true, by simp, ?_⟩
    simp only [reduceCtorEq, false_iff]
    intro h
    simp only [decide_eq_false_iff_not] at h2
    exact h2 (h i h1)
theorem impl_valid (n : Int) (l : List Int) (hl : l.length ≤ 1048576) : m_impl_IsValidGame n l = some (validB n l) := by
  unfold m_impl_IsValidGame
  rw [within_eq]
  by_cases hn : 1 ≤ n ∧ n ≤ 5
  · rw [decide_eq_true hn, Option.bind_some, Bool.not_true, cond_false, grd_pos (by omega)]
    have hw : IntKind.i64.wrap ((1 : Int) * 2 ^ (min n.toNat 64)) = 2 ^ n.toNat := by
      have : n = 1 ∨ n = 2 ∨ n = 3 ∨ n = 4 ∨ n = 5 := by omega
      rcases this with rfl | rfl | rfl | rfl | rfl <;> decide
    rw [hw]
    by_cases hlen : (l.length : Int) = 2 ^ n.toNat
    · have hpos : (0 : Int) < 2 ^ n.toNat := Int.pow_pos (by decide)
      have e1 : ((l.length : Int) != 2 ^ n.toNat) = false := by simpa using hlen
      rw [e1, cond_false, grd_pos ⟨by omega, by omega⟩]
      have h0 : (0 : Int).toNat = 0 := rfl
      rw [h0]
      by_cases hz : l.getD 0 0 = 0
      · have e2 : (l.getD 0 0 != 0) = false := by simpa using hz
        rw [e2, cond_false]
        obtain ⟨r, h1, h2⟩ := contains_eq l hl
        rw [h1, Option.bind_some]
        congr 1
        by_cases hr : r = false
        · have hv : Valid n l := ⟨hn, hlen, hz, h2.1 hr⟩
          simp [validB, hv, hr]
        · have hv : ¬ Valid n l := fun h => hr (h2.2 h.2.2.2)
          have hr' : r = true := by cases r <;> simp at hr ⊢
          simp [validB, hv, hr']
      · have e2 : (l.getD 0 0 != 0) = true := by simpa using hz
        have hv : ¬ Valid n l := fun h => hz h.2.2.1
        rw [e2]
        simp [validB, hv]
    · have e1 : ((l.length : Int) != 2 ^ n.toNat) = true := by simpa using hlen
      have hv : ¬ Valid n l := fun h => hlen h.2.1
      rw [e1]
      simp [validB, hv]
  · have hv : ¬ Valid n l := fun h => hn h.1
    rw [decide_eq_false hn]
    simp [validB, hv]
theorem iter_find {S A : Type} {step : S → Option (S ⊕ A)} (st : Nat → S) (n : Nat) (p : Nat → Bool) (a : A) (b : Nat → A)
    (hs : ∀ i, i < n → step (st i) = some (if p i = true then .inr (b i) else .inl (st (i + 1)))) (hd : step (st n) = some (.inr a)) :
    iter step (st 0) = some (match (List.range n).find? p with
      | some i => b i
      | none => a) := by
  have key : ∀ k, k ≤ n → iter step (st (n - k)) = some (match (List.range' (n - k) k).find? p with
      | some i => b i
      | none => a) := by
    intro k
    induction k with
    | zero => intro _; simpa using iter_done hd
    | succ k ih =>
      intro hk
      have h1 := hs (n - (k + 1)) (by omega)
      rw [List.range'_succ, List.find?_cons]
      cases hp : p (n - (k + 1)) with
      | true =>
        rw [if_pos hp] at h1
        exact iter_done h1
      | false =>
        rw [if_neg (by simp [hp])] at h1
        rw [iter_next h1, show n - (k + 1) + 1 = n - k by omega]
        exact ih (by omega)
  have := key n (Nat.le_refl _)
  rw [Nat.sub_self, ← List.range_eq_range'] at this
  exact this
def fil {α : Type} (p : Nat → Bool) (f : Nat → α) (n : Nat) : List α := ((List.range n).filter p).map f
theorem fil_succ {α : Type} (p : Nat → Bool) (f : Nat → α) (n : Nat) : fil p f (n + 1) = if p n = true then fil p f n ++ [f n] else fil p f n := by
  simp only [fil, List.range_succ, List.filter_append]
  by_cases h : p n = true
  · simp [h]
  · simp [h]
theorem fil_length {α : Type} (p : Nat → Bool) (f : Nat → α) (n : Nat) : (fil p f n).length ≤ n := by
  simp only [fil, List.length_map]
  exact Nat.le_trans (List.length_filter_le _ _) (by simp)
def sm (f : Nat → Int) : Nat → Int
  | 0 => 0
  | n + 1 => sm f n + f n
theorem sm_bd {f : Nat → Int} {B : Int} : ∀ {n : Nat}, (∀ i, i < n → -B ≤ f i ∧ f i ≤ B) → -(B * n) ≤ sm f n ∧ sm f n ≤ B * n
  | 0, _ => by simp [sm]
  | n + 1, h => by
    have h1 := sm_bd (n := n) fun i hi => h i (by omega)
    have h2 := h n (by omega)
    have h3 : B * ((n + 1 : Nat) : Int) = B * n + B := by rw [Int.natCast_add, Int.mul_add]; simp
    simp only [sm]
    omega
theorem getD_nat {α : Type} (l : List α) (i : Nat) (d : α) : l.getD (i : Int).toNat d = l.getD i d := by rw [Int.toNat_natCast]
instance : DecidableEq Q := fun a b =>
  if h1 : a.num = b.num then
    if h2 : a.den = b.den then isTrue (by cases a; cases b; simp only at h1 h2; rw [h1, h2])
    else isFalse (fun h => h2 (by rw [h]))
  else isFalse (fun h => h1 (by rw [h]))
theorem count0 (n : Nat) (h : n ≤ 5) : m_spec_CountCoalitions (n : Int) = some (2 ^ n) := by
  rcases Nat.eq_zero_or_pos n with rfl | h1
  · unfold m_spec_CountCoalitions
    rw [in_eq, decide_eq_true (by omega), Option.bind_some, Bool.not_true, cond_false]
    rw [iter_done (a := (1 : Int)) (by simp [l_spec_CountCoalitions_0])]
    rfl
  · rw [count_eq (n : Int) (by omega) (by omega)]
    simp
theorem bit2 (k : Nat) (h : k < 5) : m_spec_l2Bit (k : Int) = some (2 ^ k) := by
  unfold m_spec_l2Bit
  rw [count0 k (by omega)]
  rfl
theorem has_tab : ∀ s : Fin 32, ∀ k : Fin 5, ((IntKind.i64.wrap (((s.val : Nat) : Int).tdiv (2 ^ k.val))).tmod 2 == 1) = s.val.testBit k.val := by decide +kernel
theorem or_tab : ∀ a : Fin 32, ∀ b : Fin 32, bitsOf .or .i64 ((a.val : Nat) : Int) ((b.val : Nat) : Int) = ((a.val ||| b.val : Nat) : Int) := by decide +kernel
theorem andNot_tab : ∀ a : Fin 32, ∀ b : Fin 32, (bitsOf .andNot .i64 ((a.val : Nat) : Int) ((b.val : Nat) : Int) == 0) = decide (a.val &&& b.val = a.val) := by decide +kernel
theorem or_eq (a b : Nat) (ha : a < 32) (hb : b < 32) : bitsOf .or .i64 (a : Int) (b : Int) = ((a ||| b : Nat) : Int) := or_tab ⟨a, ha⟩ ⟨b, hb⟩
theorem andNot_eq (a b : Nat) (ha : a < 32) (hb : b < 32) : (bitsOf .andNot .i64 (a : Int) (b : Int) == 0) = decide (a &&& b = a) := andNot_tab ⟨a, ha⟩ ⟨b, hb⟩
theorem spec_has (s k : Nat) (hs : s < 32) (hk : k < 5) : m_spec_HasPlayer (s : Int) (k : Int) = some (s.testBit k) := by
  unfold m_spec_HasPlayer
  have hp : (0 : Int) < 2 ^ k := Int.pow_pos (by decide)
  rw [in_eq, decide_eq_true (by omega), Option.bind_some, cond_true, decide_eq_true (by omega), cond_true, bit2 k hk, Option.bind_some, grd_pos (by omega), grd_pos (by decide)]
  rw [← has_tab ⟨s, hs⟩ ⟨k, hk⟩]
/-- a valid game, in natural numbers -/
theorem valid_nat {n : Int} {l : List Int} (h : Valid n l) : ∃ N : Nat, n = (N : Int) ∧ 1 ≤ N ∧ N ≤ 5 ∧ l.length = 2 ^ N ∧ l.length ≤ 32 := by
  obtain ⟨h1, h2, _⟩ := h
  have hn : n = 1 ∨ n = 2 ∨ n = 3 ∨ n = 4 ∨ n = 5 := by omega
  refine ⟨n.toNat, by omega, by omega, by omega, ?_, ?_⟩
  · rcases hn with rfl | rfl | rfl | rfl | rfl <;> simp at h2 ⊢ <;> omega
  · rcases hn with rfl | rfl | rfl | rfl | rfl <;> simp at h2 ⊢ <;> omega
theorem validB_eq (n : Int) (l : List Int) : validB n l = true ↔ Valid n l := by simp [validB]
theorem pow_le32 {N : Nat} (h : N ≤ 5) : 2 ^ N ≤ 32 := by
  have : N = 0 ∨ N = 1 ∨ N = 2 ∨ N = 3 ∨ N = 4 ∨ N = 5 := by omega
  rcases this with rfl | rfl | rfl | rfl | rfl | rfl <;> decide
theorem spec_subset (a b : Nat) (ha : a < 32) (hb : b < 32) : m_spec_IsSubset (a : Int) (b : Int) = some (decide (a &&& b = a)) := by
  unfold m_spec_IsSubset
  have hit := iter_find (step := l_spec_IsSubset_0 (a : Int) (b : Int)) (fun k => (k : Int)) 5 (fun k => a.testBit k && !b.testBit k) (.inl ()) (fun _ => .inr false)
    (fun k hk => by
      unfold l_spec_IsSubset_0
      rw [decide_eq_true (by omega), cond_true, spec_has a k ha hk, spec_has b k hb hk, w64' (by omega) (by omega)]
      simp only [Option.bind_some]
      cases a.testBit k <;> cases b.testBit k <;> simp)
    (by unfold l_spec_IsSubset_0; rw [decide_eq_false (by omega)]; rfl)
  simp only [Int.natCast_zero] at hit
  rw [hit]
  have key : ∀ a : Fin 32, ∀ b : Fin 32, ((List.range 5).find? (fun k => a.val.testBit k && !b.val.testBit k)).isNone = decide (a.val &&& b.val = a.val) := by decide +kernel
  have hk := key ⟨a, ha⟩ ⟨b, hb⟩
  simp only at hk
  rw [← hk]
  cases (List.range 5).find? (fun k => a.testBit k && !b.testBit k) with
  | some _ => rfl
  | none =>
    simp only [Option.bind_some, m_spec_l2Good, in_eq]
    rw [decide_eq_true (by omega), decide_eq_true (by omega)]
    rfl
theorem iter_findc {S A : Type} {step : S → Option (S ⊕ A)} (st : Nat → S) (n : Nat) (p : Nat → Bool) (a : A) (b : Nat → A)
    (hs : ∀ i, i < n → step (st i) = some (bif p i then .inr (b i) else .inl (st (i + 1)))) (hd : step (st n) = some (.inr a)) :
    iter step (st 0) = some (match (List.range n).find? p with
      | some i => b i
      | none => a) := iter_find st n p a b (fun i hi => by rw [hs i hi]; cases p i <;> rfl) hd
theorem and2_tab : ∀ a : Fin 32, ∀ b : Fin 32, bitsOf .and .i64 ((a.val : Nat) : Int) ((b.val : Nat) : Int) = ((a.val &&& b.val : Nat) : Int) := by decide +kernel
theorem and2_eq (a b : Nat) (ha : a < 32) (hb : b < 32) : bitsOf .and .i64 (a : Int) (b : Int) = ((a &&& b : Nat) : Int) := and2_tab ⟨a, ha⟩ ⟨b, hb⟩
theorem pow_bd (i : Nat) (h : i < 5) : (0 : Int) < 2 ^ i ∧ (2 : Int) ^ i ≤ 16 := by
  have : i = 0 ∨ i = 1 ∨ i = 2 ∨ i = 3 ∨ i = 4 := by omega
  rcases this with rfl | rfl | rfl | rfl | rfl <;> decide
theorem good_eq (a : Nat) (ha : a < 32) : m_spec_l2Good (a : Int) = some true := by
  unfold m_spec_l2Good
  rw [in_eq, decide_eq_true (by omega)]
  rfl
def bits (p : Nat → Bool) (i : Nat) : Int := if p i = true then 2 ^ i else 0
theorem bits_bd (p : Nat → Bool) (k : Nat) (hk : k ≤ 5) : -(16 * (k : Int)) ≤ sm (bits p) k ∧ sm (bits p) k ≤ 16 * k :=
  sm_bd fun i hi => by
    have := pow_bd i (by omega)
    unfold bits
    split <;> omega
theorem overlap_tab : ∀ a : Fin 32, ∀ b : Fin 32, sm (bits (fun i => a.val.testBit i && b.val.testBit i)) 5 = ((a.val &&& b.val : Nat) : Int) := by decide +kernel
theorem union_tab : ∀ a : Fin 32, ∀ b : Fin 32, sm (bits (fun i => a.val.testBit i || b.val.testBit i)) 5 = ((a.val ||| b.val : Nat) : Int) := by decide +kernel
theorem spec_overlap (a b : Nat) (ha : a < 32) (hb : b < 32) : m_spec_Overlap (a : Int) (b : Int) = some ((a &&& b : Nat) : Int) := by
  unfold m_spec_Overlap
  have hit := iter_up (step := l_spec_Overlap_0 (a : Int) (b : Int)) (fun k => (sm (bits (fun i => a.testBit i && b.testBit i)) k, (k : Int))) 5 (a := sm (bits (fun i => a.testBit i && b.testBit i)) 5) (fun k hk => by
      have h1 := bits_bd (fun i => a.testBit i && b.testBit i) k (by omega)
      have h2 := pow_bd k hk
      unfold l_spec_Overlap_0
      dsimp only
      rw [decide_eq_true (by omega), cond_true, good_eq a ha, good_eq b hb, spec_has a k ha hk, spec_has b k hb hk, bit2 k hk, w64' (n := (k : Int) + 1) (by omega) (by omega)]
      simp only [Option.bind_some, cond_true, sm]
      rw [w64' (by omega) (by omega)]
      cases h3 : a.testBit k <;> cases h4 : b.testBit k <;> simp [bits, h3, h4])
    (by unfold l_spec_Overlap_0; dsimp only; rw [decide_eq_false (by omega)]; rfl)
  simp only [Int.natCast_zero, sm] at hit
  rw [hit]
  have := overlap_tab ⟨a, ha⟩ ⟨b, hb⟩
  simp only [sm] at this
  rw [this]
  rfl
theorem spec_union (a b : Nat) (ha : a < 32) (hb : b < 32) : m_spec_Union (a : Int) (b : Int) = some ((a ||| b : Nat) : Int) := by
  unfold m_spec_Union
  have hit := iter_up (step := l_spec_Union_0 (a : Int) (b : Int)) (fun k => (sm (bits (fun i => a.testBit i || b.testBit i)) k, (k : Int))) 5 (a := sm (bits (fun i => a.testBit i || b.testBit i)) 5) (fun k hk => by
      have h1 := bits_bd (fun i => a.testBit i || b.testBit i) k (by omega)
      have h2 := pow_bd k hk
      unfold l_spec_Union_0
      dsimp only
      rw [decide_eq_true (by omega), cond_true, good_eq a ha, good_eq b hb, spec_has a k ha hk, spec_has b k hb hk, bit2 k hk, w64' (n := (k : Int) + 1) (by omega) (by omega)]
      simp only [Option.bind_some, cond_true, sm]
      rw [w64' (by omega) (by omega)]
      cases h3 : a.testBit k <;> cases h4 : b.testBit k <;> simp [bits, h3, h4])
    (by unfold l_spec_Union_0; dsimp only; rw [decide_eq_false (by omega)]; rfl)
  simp only [Int.natCast_zero, sm] at hit
  rw [hit]
  have := union_tab ⟨a, ha⟩ ⟨b, hb⟩
  simp only [sm] at this
  rw [this]
  rfl
def badM (l : List Int) (a b : Nat) : Bool := decide (a &&& b = a) && decide (l.getD a 0 > l.getD b 0)
def badS (l : List Int) (a b : Nat) : Bool := decide (a &&& b = 0) && decide (IntKind.i64.wrap (l.getD a 0 + l.getD b 0) > l.getD (a ||| b) 0)
def badC (l : List Int) (a b : Nat) : Bool := decide (IntKind.i64.wrap (l.getD a 0 + l.getD b 0) > IntKind.i64.wrap (l.getD (a ||| b) 0 + l.getD (a &&& b) 0))
def row1 (p : Nat → Nat → Bool) (n a : Nat) : Unit ⊕ (Int × Int × Bool) := match (List.range n).find? (p a) with
  | some b => .inr ((a : Int), (b : Int), true)
  | none => .inl ()
def rows1 (p : Nat → Nat → Bool) (n : Nat) : Unit ⊕ (Int × Int × Bool) := match (List.range n).find? (fun a => ((List.range n).find? (p a)).isSome) with
  | some a => row1 p n a
  | none => .inl ()
def faultF (p : Nat → Nat → Bool) (n : Nat) : Int × Int × Bool := match rows1 p n with
  | .inl _ => (0, 0, false)
  | .inr r => r
theorem nest_rows {outer : Int → Option (Int ⊕ (Unit ⊕ (Int × Int × Bool)))} (p : Nat → Nat → Bool) (n : Nat)
    (ho : ∀ a : Nat, a < n → outer (a : Int) = some (match row1 p n a with
      | .inl _ => .inl ((a + 1 : Nat) : Int)
      | .inr r => .inr (.inr r))) (hd : outer (n : Int) = some (.inr (.inl ()))) : iter outer 0 = some (rows1 p n) := by
  have hit := iter_findc (step := outer) (fun i => (i : Int)) n (fun a => ((List.range n).find? (p a)).isSome) (.inl ()) (fun a => row1 p n a)
    (fun a ha => by
      rw [ho a ha]
      unfold row1
      cases (List.range n).find? (p a) <;> rfl) hd
  simp only [Int.natCast_zero] at hit
  rw [hit]
  unfold rows1
  rfl
theorem and_lt (a b N : Nat) (ha : a < 2 ^ N) : a &&& b < 2 ^ N := Nat.lt_of_le_of_lt Nat.and_le_left ha
theorem spec_fault (l : List Int) (N : Nat) (kd : Int) (p : Nat → Nat → Bool) (hk : (kd = 1 ∧ p = badM l) ∨ (kd = 2 ∧ p = badS l) ∨ (kd = 3 ∧ p = badC l)) (hv : validB (N : Int) l = true) : m_spec_l10Fault (N : Int) l kd = some (faultF p l.length) := by
  obtain ⟨N', hN', _, h2, h3, h4⟩ := valid_nat ((validB_eq _ l).1 hv)
  have hNN : N' = N := by omega
  subst hNN
  have h32 := pow_le32 h2
  have inner : ∀ a, a < l.length → iter (l_spec_l10Fault_1 l kd (a : Int)) 0 = some (row1 p l.length a) := by
    intro a ha
    have hit := iter_findc (step := l_spec_l10Fault_1 l kd (a : Int)) (fun b => (b : Int)) l.length (p a) (.inl ()) (fun b => .inr ((a : Int), (b : Int), true))
      (fun b hb => by
        have o1 : a ||| b < 2 ^ N' := Nat.or_lt_two_pow (by omega) (by omega)
        have o2 : a &&& b < 2 ^ N' := and_lt a b N' (by omega)
        unfold l_spec_l10Fault_1
        rw [decide_eq_true (by omega), cond_true, spec_subset a b (by omega) (by omega), spec_overlap a b (by omega) (by omega), spec_union a b (by omega) (by omega), w64' (n := (b : Int) + 1) (by omega) (by omega)]
        have gA : (0 : Int) ≤ (a : Int) ∧ (a : Int) < (l.length : Int) := by omega
        have gB : (0 : Int) ≤ (b : Int) ∧ (b : Int) < (l.length : Int) := by omega
        have gO : (0 : Int) ≤ ((a ||| b : Nat) : Int) ∧ ((a ||| b : Nat) : Int) < (l.length : Int) := by omega
        have gN : (0 : Int) ≤ ((a &&& b : Nat) : Int) ∧ ((a &&& b : Nat) : Int) < (l.length : Int) := by omega
        simp only [Option.bind_some, getD_nat, grd_pos gA, grd_pos gB, grd_pos gO, grd_pos gN]
        rcases hk with ⟨rfl, rfl⟩ | ⟨rfl, rfl⟩ | ⟨rfl, rfl⟩
        · simp only [badM, beq_self_eq_true, cond_true]
          cases decide (a &&& b = a) <;> cases decide (l.getD a 0 > l.getD b 0) <;> rfl
        · have e1 : ((2 : Int) == 1) = false := by decide
          have e2 : (((a &&& b : Nat) : Int) == 0) = decide (a &&& b = 0) := by
            by_cases h : a &&& b = 0
            · simp [h]
            · have : ¬ ((a &&& b : Nat) : Int) = 0 := by omega
              simp [h]
          simp only [badS, beq_self_eq_true, cond_true, e1, cond_false, e2]
          cases decide (a &&& b = 0) <;> cases decide (IntKind.i64.wrap (l.getD a 0 + l.getD b 0) > l.getD (a ||| b) 0) <;> rfl
        · have e1 : ((3 : Int) == 1) = false := by decide
          have e2 : ((3 : Int) == 2) = false := by decide
          simp only [badC, e1, e2, cond_false]
          cases decide (IntKind.i64.wrap (l.getD a 0 + l.getD b 0) > IntKind.i64.wrap (l.getD (a ||| b) 0 + l.getD (a &&& b) 0)) <;> rfl)
      (by unfold l_spec_l10Fault_1; rw [decide_eq_false (by omega)]; rfl)
    simp only [Int.natCast_zero] at hit
    rw [hit]
    rfl
  have outer := nest_rows (outer := l_spec_l10Fault_0 (N' : Int) l kd) p l.length (fun a ha => by
      unfold l_spec_l10Fault_0
      rw [decide_eq_true (by omega), cond_true, spec_valid _ l (by omega), hv, Option.bind_some, cond_true, inner a ha, w64' (by omega) (by omega)]
      cases row1 p l.length a <;> rfl)
    (by unfold l_spec_l10Fault_0; rw [decide_eq_false (by omega)]; rfl)
  unfold m_spec_l10Fault faultF
  rw [outer]
  cases rows1 p l.length <;> rfl
theorem spec_fault0 (n : Int) (l : List Int) (kd : Int) (hl : l.length ≤ 1048576) (hv : validB n l = false) : m_spec_l10Fault n l kd = some (0, 0, false) := by
  unfold m_spec_l10Fault
  rw [iter_done (a := (.inl () : Unit ⊕ (Int × Int × Bool)))]
  · rfl
  · unfold l_spec_l10Fault_0
    rw [spec_valid n l hl, hv]
    cases decide ((0 : Int) < (l.length : Int)) <;> rfl
theorem impl_faultM (l : List Int) (N : Nat) (hv : validB (N : Int) l = true) : m_impl_MonotoneFault (N : Int) l = some (faultF (badM l) l.length) := by
  obtain ⟨N', hN', _, h2, h3, h4⟩ := valid_nat ((validB_eq _ l).1 hv)
  have hNN : N' = N := by omega
  subst hNN
  have h32 := pow_le32 h2
  have inner : ∀ a, a < l.length → iter (l_impl_fault_impl_MonotoneFault_1_1 l (N' : Int) l (a : Int)) 0 = some (row1 (badM l) l.length a) := by
    intro a ha
    have hit := iter_findc (step := l_impl_fault_impl_MonotoneFault_1_1 l (N' : Int) l (a : Int)) (fun b => (b : Int)) l.length (badM l a) (.inl ()) (fun b => .inr ((a : Int), (b : Int), true))
      (fun b hb => by
        unfold l_impl_fault_impl_MonotoneFault_1_1 m_impl_MonotoneFault_1
        rw [decide_eq_true (by omega), cond_true, andNot_eq a b (by omega) (by omega), w64' (n := (b : Int) + 1) (by omega) (by omega)]
        simp only [getD_nat]
        rw [grd_pos (p := (0 : Int) ≤ (a : Int) ∧ (a : Int) < (l.length : Int)) (by omega), grd_pos (p := (0 : Int) ≤ (b : Int) ∧ (b : Int) < (l.length : Int)) (by omega)]
        simp only [badM]
        cases decide (a &&& b = a) <;> cases decide (l.getD a 0 > l.getD b 0) <;> rfl)
      (by unfold l_impl_fault_impl_MonotoneFault_1_1; rw [decide_eq_false (by omega)]; rfl)
    simp only [Int.natCast_zero] at hit
    rw [hit]
    rfl
  have outer := nest_rows (outer := l_impl_fault_impl_MonotoneFault_1_0 l (N' : Int) l) (badM l) l.length (fun a ha => by
      unfold l_impl_fault_impl_MonotoneFault_1_0
      rw [decide_eq_true (by omega), cond_true, inner a ha, w64' (by omega) (by omega)]
      cases row1 (badM l) l.length a <;> rfl)
    (by unfold l_impl_fault_impl_MonotoneFault_1_0; rw [decide_eq_false (by omega)]; rfl)
  unfold m_impl_MonotoneFault m_impl_fault_impl_MonotoneFault_1
  rw [impl_valid _ l (by omega), hv, Option.bind_some, Bool.not_true, cond_false, outer]
  unfold faultF
  cases rows1 (badM l) l.length <;> rfl
theorem impl_faultS (l : List Int) (N : Nat) (hv : validB (N : Int) l = true) : m_impl_SuperadditiveFault (N : Int) l = some (faultF (badS l) l.length) := by
  obtain ⟨N', hN', _, h2, h3, h4⟩ := valid_nat ((validB_eq _ l).1 hv)
  have hNN : N' = N := by omega
  subst hNN
  have h32 := pow_le32 h2
  have inner : ∀ a, a < l.length → iter (l_impl_fault_impl_SuperadditiveFault_1_1 l (N' : Int) l (a : Int)) 0 = some (row1 (badS l) l.length a) := by
    intro a ha
    have hit := iter_findc (step := l_impl_fault_impl_SuperadditiveFault_1_1 l (N' : Int) l (a : Int)) (fun b => (b : Int)) l.length (badS l a) (.inl ()) (fun b => .inr ((a : Int), (b : Int), true))
      (fun b hb => by
        have o1 : a ||| b < 2 ^ N' := Nat.or_lt_two_pow (by omega) (by omega)
        have e2 : (((a &&& b : Nat) : Int) == 0) = decide (a &&& b = 0) := by
          by_cases h : a &&& b = 0
          · simp [h]
          · have : ¬ ((a &&& b : Nat) : Int) = 0 := by omega
            simp [h]
        unfold l_impl_fault_impl_SuperadditiveFault_1_1 m_impl_SuperadditiveFault_1
        rw [decide_eq_true (by omega), cond_true, and2_eq a b (by omega) (by omega), or_eq a b (by omega) (by omega), w64' (n := (b : Int) + 1) (by omega) (by omega), e2]
        simp only [getD_nat]
        rw [grd_pos (p := (0 : Int) ≤ (a : Int) ∧ (a : Int) < (l.length : Int)) (by omega), grd_pos (p := (0 : Int) ≤ (b : Int) ∧ (b : Int) < (l.length : Int)) (by omega), grd_pos (p := (0 : Int) ≤ ((a ||| b : Nat) : Int) ∧ ((a ||| b : Nat) : Int) < (l.length : Int)) (by omega)]
        simp only [badS]
        cases decide (a &&& b = 0) <;> cases decide (IntKind.i64.wrap (l.getD a 0 + l.getD b 0) > l.getD (a ||| b) 0) <;> rfl)
      (by unfold l_impl_fault_impl_SuperadditiveFault_1_1; rw [decide_eq_false (by omega)]; rfl)
    simp only [Int.natCast_zero] at hit
    rw [hit]
    rfl
  have outer := nest_rows (outer := l_impl_fault_impl_SuperadditiveFault_1_0 l (N' : Int) l) (badS l) l.length (fun a ha => by
      unfold l_impl_fault_impl_SuperadditiveFault_1_0
      rw [decide_eq_true (by omega), cond_true, inner a ha, w64' (by omega) (by omega)]
      cases row1 (badS l) l.length a <;> rfl)
    (by unfold l_impl_fault_impl_SuperadditiveFault_1_0; rw [decide_eq_false (by omega)]; rfl)
  unfold m_impl_SuperadditiveFault m_impl_fault_impl_SuperadditiveFault_1
  rw [impl_valid _ l (by omega), hv, Option.bind_some, Bool.not_true, cond_false, outer]
  unfold faultF
  cases rows1 (badS l) l.length <;> rfl
theorem impl_faultC (l : List Int) (N : Nat) (hv : validB (N : Int) l = true) : m_impl_ConvexFault (N : Int) l = some (faultF (badC l) l.length) := by
  obtain ⟨N', hN', _, h2, h3, h4⟩ := valid_nat ((validB_eq _ l).1 hv)
  have hNN : N' = N := by omega
  subst hNN
  have h32 := pow_le32 h2
  have inner : ∀ a, a < l.length → iter (l_impl_fault_impl_ConvexFault_1_1 l (N' : Int) l (a : Int)) 0 = some (row1 (badC l) l.length a) := by
    intro a ha
    have hit := iter_findc (step := l_impl_fault_impl_ConvexFault_1_1 l (N' : Int) l (a : Int)) (fun b => (b : Int)) l.length (badC l a) (.inl ()) (fun b => .inr ((a : Int), (b : Int), true))
      (fun b hb => by
        have o1 : a ||| b < 2 ^ N' := Nat.or_lt_two_pow (by omega) (by omega)
        have o2 : a &&& b < 2 ^ N' := and_lt a b N' (by omega)
        unfold l_impl_fault_impl_ConvexFault_1_1 m_impl_ConvexFault_1
        rw [decide_eq_true (by omega), cond_true, and2_eq a b (by omega) (by omega), or_eq a b (by omega) (by omega), w64' (n := (b : Int) + 1) (by omega) (by omega)]
        simp only [getD_nat]
        rw [grd_pos (p := (0 : Int) ≤ (a : Int) ∧ (a : Int) < (l.length : Int)) (by omega), grd_pos (p := (0 : Int) ≤ (b : Int) ∧ (b : Int) < (l.length : Int)) (by omega), grd_pos (p := (0 : Int) ≤ ((a ||| b : Nat) : Int) ∧ ((a ||| b : Nat) : Int) < (l.length : Int)) (by omega), grd_pos (p := (0 : Int) ≤ ((a &&& b : Nat) : Int) ∧ ((a &&& b : Nat) : Int) < (l.length : Int)) (by omega)]
        simp only [badC]
        cases decide (IntKind.i64.wrap (l.getD a 0 + l.getD b 0) > IntKind.i64.wrap (l.getD (a ||| b) 0 + l.getD (a &&& b) 0)) <;> rfl)
      (by unfold l_impl_fault_impl_ConvexFault_1_1; rw [decide_eq_false (by omega)]; rfl)
    simp only [Int.natCast_zero] at hit
    rw [hit]
    rfl
  have outer := nest_rows (outer := l_impl_fault_impl_ConvexFault_1_0 l (N' : Int) l) (badC l) l.length (fun a ha => by
      unfold l_impl_fault_impl_ConvexFault_1_0
      rw [decide_eq_true (by omega), cond_true, inner a ha, w64' (by omega) (by omega)]
      cases row1 (badC l) l.length a <;> rfl)
    (by unfold l_impl_fault_impl_ConvexFault_1_0; rw [decide_eq_false (by omega)]; rfl)
  unfold m_impl_ConvexFault m_impl_fault_impl_ConvexFault_1
  rw [impl_valid _ l (by omega), hv, Option.bind_some, Bool.not_true, cond_false, outer]
  unfold faultF
  cases rows1 (badC l) l.length <;> rfl
def mems (s : Nat) : List Int := fil s.testBit (fun k => (k : Int)) 5
theorem spec_size (s : Nat) (hs : s < 32) : m_spec_SizeOf (s : Int) = some (((mems s).length : Nat) : Int) := by
  unfold m_spec_SizeOf
  have hit := iter_up (step := l_spec_SizeOf_0 (s : Int)) (fun k => ((((fil s.testBit (fun k => (k : Int)) k).length : Nat) : Int), (k : Int))) 5 (a := (((mems s).length : Nat) : Int)) (fun k hk => by
      have hb := fil_length s.testBit (fun k => (k : Int)) k
      unfold l_spec_SizeOf_0
      dsimp only
      rw [decide_eq_true (by omega), cond_true, spec_has s k hs hk, Option.bind_some, w64' (by omega) (by omega), w64' (by omega) (by omega), fil_succ]
      cases s.testBit k <;> simp)
    (by unfold l_spec_SizeOf_0; dsimp only; rw [decide_eq_false (by omega)]; rfl)
  have e0 : (fil s.testBit (fun k => (k : Int)) 0).length = 0 := rfl
  simp only [e0, Int.natCast_zero] at hit
  rw [hit]
  rfl
/-! ### draws -/
theorem iter_dec {S A : Type} {step : S → Option (S ⊕ A)} (I : Nat → S → Prop) (Post : A → Prop)
    (h : ∀ k s, I k s → (∃ a, step s = some (.inr a) ∧ Post a) ∨ ∃ s' k', k = k' + 1 ∧ step s = some (.inl s') ∧ I k' s') : ∀ k s, I k s → ∃ a, iter step s = some a ∧ Post a := by
  intro k
  induction k with
  | zero =>
    intro s hs
    rcases h 0 s hs with ⟨a, h1, h2⟩ | ⟨s', k', h1, _⟩
    · exact ⟨a, iter_done h1, h2⟩
    · omega
  | succ k ih =>
    intro s hs
    rcases h _ s hs with ⟨a, h1, h2⟩ | ⟨s', k', h1, h2, h3⟩
    · exact ⟨a, iter_done h1, h2⟩
    · obtain rfl : k' = k := by omega
      obtain ⟨a, h4, h5⟩ := ih s' h3
      exact ⟨a, by rw [iter_next h2]; exact h4, h5⟩
theorem and255 (x : Int) : 0 ≤ bitsOf .and .i64 x 255 ∧ bitsOf .and .i64 x 255 ≤ 255 := by
  have h : (BitVec.ofInt 64 x &&& BitVec.ofInt 64 255).toNat ≤ 255 := by
    rw [BitVec.toNat_and]
    exact Nat.le_trans Nat.and_le_right (by decide)
  show 0 ≤ IntKind.i64.wrap ((BitVec.ofInt 64 x &&& BitVec.ofInt 64 255).toNat : Int) ∧ IntKind.i64.wrap ((BitVec.ofInt 64 x &&& BitVec.ofInt 64 255).toNat : Int) ≤ 255
  rw [w64' (by omega) (by omega)]
  omega
theorem new_loop (c : List UInt8) (h0 : Int) : ∃ h, iter (l_spec_l1New_io2_0 c) (h0, 0) = some h := by
  obtain ⟨a, h1, _⟩ := iter_dec (step := l_spec_l1New_io2_0 c) (fun k s => s.2 + k = 4000 ∧ 0 ≤ s.2) (fun _ => True) (fun k ⟨v1, v2⟩ ⟨h1, h2⟩ => by
    simp only at h1 h2
    unfold l_spec_l1New_io2_0
    simp only
    by_cases e1 : v2 < (c.length : Int)
    · by_cases e2 : v2 < 4000
      · rw [decide_eq_true e1, decide_eq_true e2, cond_true, cond_true, grd_pos ⟨h2, e1⟩]
        exact .inr ⟨_, k - 1, by omega, rfl, by simp only; rw [w64' (by omega) (by omega)]; omega, by simp only; rw [w64' (by omega) (by omega)]; omega⟩
      · rw [decide_eq_true e1, decide_eq_false e2, cond_true, cond_false]
        exact .inl ⟨_, rfl, trivial⟩
    · rw [decide_eq_false e1, cond_false]
      exact .inl ⟨_, rfl, trivial⟩) 4000 (h0, 0) ⟨rfl, Int.le_refl 0⟩
  exact ⟨a, h1⟩
theorem new2 (a : Int) (b : List Int) (c : List UInt8) : ∃ h, m_spec_l1New_io2 a b c = some (c, 0, h, b, a) := by
  obtain ⟨h, e⟩ := new_loop c (IntKind.i64.wrap ((26583 : Int) + (c.length : Int)))
  exact ⟨h, by unfold m_spec_l1New_io2; rw [e]; rfl⟩
theorem byte_ok (c : List UInt8) (i h : Int) (hc : c.length ≤ 1048576) (hi : 0 ≤ i) : ∃ x i' h', m_spec_l1Byte_io1 c i h = some (x, i', h') ∧ (0 ≤ x ∧ x ≤ 255) ∧ 0 ≤ i' := by
  unfold m_spec_l1Byte_io1
  rw [grd_pos (by decide), grd_pos (by decide), Option.bind_some]
  by_cases hlt : i < (c.length : Int)
  · rw [decide_eq_true hlt, cond_true, grd_pos ⟨hi, hlt⟩]
    exact ⟨_, _, _, rfl, and255 _, by rw [w64' (by omega) (by omega)]; omega⟩
  · rw [decide_eq_false hlt, cond_false]
    exact ⟨_, _, _, rfl, and255 _, hi⟩
theorem below_ok (c : List UInt8) (i h n : Int) (hc : c.length ≤ 1048576) (hi : 0 ≤ i) (hn : n ≤ 256) : ∃ x i' h', m_spec_l1Below_io1 c i h n = some (x, i', h') ∧ (0 ≤ x ∧ (x < n ∨ x = 0)) ∧ 0 ≤ i' := by
  unfold m_spec_l1Below_io1
  by_cases h0 : n ≤ 0
  · rw [decide_eq_true h0, cond_true]
    exact ⟨_, _, _, rfl, ⟨Int.le_refl 0, .inr rfl⟩, hi⟩
  · rw [decide_eq_false h0, cond_false, decide_eq_true hn, cond_true]
    obtain ⟨x, i', h', e, hx, hi'⟩ := byte_ok c i h hc hi
    rw [e, Option.bind_some]
    dsimp only
    rw [grd_pos (by omega)]
    exact ⟨_, _, _, rfl, ⟨Int.tmod_nonneg _ hx.1, .inl (Int.tmod_lt_of_pos _ (by omega))⟩, hi'⟩
theorem pick_ok (c : List UInt8) (i h : Int) (l : List Int) (hc : c.length ≤ 1048576) (hi : 0 ≤ i) (h1 : 1 ≤ l.length) (h2 : l.length ≤ 256) : ∃ x i' h', m_spec_l1PickInt_io1 c i h l = some (x, i', h') ∧ x ∈ l ∧ 0 ≤ i' := by
  unfold m_spec_l1PickInt_io1
  obtain ⟨x, i', h', e, hx, hi'⟩ := below_ok c i h l.length hc hi (by omega)
  rw [e, Option.bind_some]
  dsimp only
  have hlt : x < (l.length : Int) := by omega
  rw [grd_pos ⟨hx.1, hlt⟩]
  refine ⟨_, _, _, rfl, ?_, hi'⟩
  have : x.toNat < l.length := by omega
  rw [List.getD_eq_getElem?_getD, List.getElem?_eq_getElem this, Option.getD_some]
  exact List.getElem_mem this
/-- the loops of l8Draw and l8Mate keep the length -/
def I8 (N : Nat) (k : Nat) (s : Int × List Int × Int × Int) : Prop := s.1 + k = N ∧ 1 ≤ s.1 ∧ s.2.1.length = N ∧ 0 ≤ s.2.2.1
def P8 (N : Nat) (a : List Int × Int × Int) : Prop := a.1.length = N ∧ 0 ≤ a.2.1
theorem bit_tot (b : Bool) : ∃ x, m_spec_l1Bit b = some x := by cases b <;> exact ⟨_, rfl⟩
theorem max_tot (a b : Int) : ∃ x, m_spec_l1Max a b = some x := by
  unfold m_spec_l1Max
  by_cases h : a > b
  · rw [decide_eq_true h]; exact ⟨_, rfl⟩
  · rw [decide_eq_false h]; exact ⟨_, rfl⟩
theorem draw8_step (c : List UInt8) (hc : c.length ≤ 1048576) (v1 v5 : Int) (N : Nat) (hN : N ≤ 32) (k : Nat) (s : Int × List Int × Int × Int) (hs : I8 N k s) :
    (∃ a, l_spec_l8Draw_io1_0 c v1 v5 s = some (.inr a) ∧ P8 N a) ∨ ∃ s' k', k = k' + 1 ∧ l_spec_l8Draw_io1_0 c v1 v5 s = some (.inl s') ∧ I8 N k' s' := by
  obtain ⟨s0, l, i, h⟩ := s
  obtain ⟨g1, g2, g3, g4⟩ := hs
  simp only at g1 g2 g3 g4
  unfold l_spec_l8Draw_io1_0
  simp only
  by_cases e1 : s0 < (l.length : Int)
  · rw [decide_eq_true e1, cond_true]
    obtain ⟨S, rfl⟩ : ∃ S : Nat, s0 = (S : Int) := ⟨s0.toNat, by omega⟩
    have hS : S < 32 := by omega
    have hw : IntKind.i64.wrap ((S : Int) + 1) = (S : Int) + 1 := w64' (by omega) (by omega)
    rw [spec_size S hS, hw]
    refine .inr ?_
    have fin : ∀ (x i' h' : Int), 0 ≤ i' → ∃ s' k', k = k' + 1 ∧ (some (.inl ((S : Int) + 1, l.set (S : Int).toNat x, i', h')) : Option ((Int × List Int × Int × Int) ⊕ (List Int × Int × Int))) = some (.inl s') ∧ I8 N k' s' :=
      fun x i' h' hi' => ⟨_, k - 1, by omega, rfl, by simp only; omega, by simp only; omega, by simp only; rw [List.length_set]; exact g3, hi'⟩
    obtain ⟨x1, i1, h1, b1, _, b3⟩ := below_ok c i h 2 hc g4 (by decide)
    obtain ⟨x2, i2, h2, b4, _, b6⟩ := pick_ok c i h [(0 : Int), (1 : Int), (2 : Int), (3 : Int), (5 : Int), (8 : Int), (-2 : Int), (4 : Int)] hc g4 (by decide) (by decide)
    simp only [b1, b4, Option.bind_some]
    have hg : (0 : Int) ≤ (S : Int) ∧ (S : Int) < (l.length : Int) := ⟨by omega, e1⟩
    cases hv0 : (v5 == (0 : Int)) with
    | true =>
      simp only [cond_true, grd_pos hg]
      exact fin _ _ _ b3
    | false =>
      cases hv1 : (v5 == (1 : Int)) with
      | true =>
        simp only [cond_true, cond_false, grd_pos hg]
        exact fin _ _ _ b6
      | false =>
        cases hv2 : (v5 == (2 : Int)) with
        | true =>
          obtain ⟨y, hy⟩ := max_tot (0 : Int) (IntKind.i64.wrap ((IntKind.i64.wrap ((IntKind.i64.wrap ((3 : Int) * (((mems S).length : Nat) : Int))) - (2 : Int))) - x1))
          simp only [cond_true, cond_false, hy, Option.bind_some, grd_pos hg]
          exact fin _ _ _ b3
        | false =>
          obtain ⟨y, hy⟩ := bit_tot (decide ((IntKind.i64.wrap ((((mems S).length : Nat) : Int) * (2 : Int))) > (IntKind.i64.wrap ((1 : Int) + v1))))
          simp only [cond_false, hy, Option.bind_some, grd_pos hg]
          exact fin _ _ _ b3
  · rw [decide_eq_false e1, cond_false]
    exact .inl ⟨_, rfl, g3, g4⟩
theorem draw8_ok (c : List UInt8) (i h : Int) (hc : c.length ≤ 1048576) (hi : 0 ≤ i) : ∃ n l i' h', m_spec_l8Draw_io1 c i h 4 = some (n, l, i', h') ∧ (1 ≤ n ∧ n ≤ 4) ∧ (2 ≤ l.length ∧ l.length ≤ 16) ∧ 0 ≤ i' := by
  unfold m_spec_l8Draw_io1
  obtain ⟨x, i1, h1, b1, b2, b3⟩ := below_ok c i h 4 hc hi (by decide)
  rw [b1, Option.bind_some]
  dsimp only
  obtain ⟨n, hn⟩ : ∃ n : Nat, (1 : Int) + x = (n : Int) := ⟨((1 : Int) + x).toNat, by omega⟩
  rw [w64' (by omega) (by omega), hn, count0 n (by omega), Option.bind_some]
  have hp : (2 : Nat) ≤ 2 ^ n ∧ 2 ^ n ≤ 16 := by
    have : n = 1 ∨ n = 2 ∨ n = 3 ∨ n = 4 := by omega
    rcases this with rfl | rfl | rfl | rfl <;> decide
  have hc2 : ((2 : Int) ^ n) = ((2 ^ n : Nat) : Int) := by push_cast; rfl
  rw [hc2, grd_pos ⟨by omega, rfl, by unfold room; omega⟩]
  obtain ⟨y, i2, h2, c1, c2, c3⟩ := below_ok c i1 h1 4 hc b3 (by decide)
  rw [c1, Option.bind_some]
  dsimp only
  rw [Int.toNat_natCast]
  obtain ⟨⟨l, i3, h3⟩, d1, d2, d3⟩ := iter_dec (I8 (2 ^ n)) (P8 (2 ^ n)) (fun k s hs => draw8_step c hc x y (2 ^ n) (by omega) k s hs) (2 ^ n - 1) (1, List.replicate (2 ^ n) 0, i2, h2)
    ⟨by simp only; omega, Int.le_refl 1, by simp, c3⟩
  rw [d1, Option.bind_some]
  replace d2 : l.length = 2 ^ n := d2
  replace d3 : 0 ≤ i3 := d3
  exact ⟨_, l, i3, h3, rfl, by omega, by omega, d3⟩
theorem bent_ok (c : List UInt8) (i h : Int) (hc : c.length ≤ 1048576) (hi : 0 ≤ i) : ∃ n l i' h', m_spec_l8Bent_io1 c i h = some (n, l, i', h') ∧ (-1 ≤ n ∧ n ≤ 6) ∧ (2 ≤ l.length ∧ l.length ≤ 17) ∧ 0 ≤ i' := by
  unfold m_spec_l8Bent_io1
  obtain ⟨n, l, i1, h1, b1, b2, b3, b4⟩ := draw8_ok c i h hc hi
  rw [b1, Option.bind_some]
  dsimp only
  obtain ⟨x, i2, h2, c1, c2, c3⟩ := below_ok c i1 h1 12 hc b4 (by decide)
  rw [c1, Option.bind_some]
  dsimp only
  obtain ⟨x2, i3, h3, d1, d2, d3⟩ := pick_ok c i2 h2 [(0 : Int), (6 : Int), (2 : Int), (-1 : Int)] hc c3 (by decide) (by decide)
  obtain ⟨x4, i4, h4, e1, _, e3⟩ := pick_ok c i2 h2 [(500 : Int), (501 : Int), (-501 : Int)] hc c3 (by decide) (by decide)
  have hd2 : -1 ≤ x2 ∧ x2 ≤ 6 := by
    simp only [List.mem_cons, List.not_mem_nil, or_false] at d2
    omega
  have hw : IntKind.i64.wrap ((l.length : Int) - 1) = (l.length : Int) - 1 := w64' (by omega) (by omega)
  simp only [d1, e1, Option.bind_some, hw]
  cases hv0 : (x == (0 : Int)) with
  | true =>
    simp only [cond_true]
    rw [grd_pos ⟨Int.le_refl 0, by omega⟩]
    exact ⟨_, _, _, _, rfl, by omega, by rw [List.length_set]; omega, c3⟩
  | false =>
    cases hv1 : (x == (1 : Int)) with
    | true =>
      simp only [cond_true, cond_false]
      exact ⟨_, _, _, _, rfl, hd2, by omega, d3⟩
    | false =>
      cases hv2 : (x == (2 : Int)) with
      | true =>
        simp only [cond_true, cond_false]
        rw [grd_pos (by show l.length + 1 ≤ room; unfold room; omega)]
        exact ⟨_, _, _, _, rfl, by omega, by simp only [List.length_append, List.length_cons, List.length_nil]; omega, c3⟩
      | false =>
        cases hv3 : (x == (3 : Int)) with
        | true =>
          simp only [cond_true, cond_false]
          rw [grd_pos ⟨by omega, by omega⟩]
          exact ⟨_, _, _, _, rfl, by omega, by rw [List.length_set]; omega, e3⟩
        | false =>
          simp only [cond_false]
          exact ⟨_, _, _, _, rfl, by omega, by omega, c3⟩
/-! ### FnProperties -/
theorem draw_convex (c : List UInt8) (hc : c.length ≤ 1048576) : ∃ n l, m_spec_DrawConvexFault c = some (n, l) ∧ l.length ≤ 17 := by
  unfold m_spec_DrawConvexFault
  obtain ⟨h, e⟩ := new2 0 [] c
  rw [e, Option.bind_some]
  dsimp only
  obtain ⟨n, l, i', h', b1, _, b3, _⟩ := bent_ok c 0 h hc (Int.le_refl 0)
  rw [b1, Option.bind_some]
  exact ⟨_, _, rfl, b3.2⟩
theorem fault_cases (p : Nat → Nat → Bool) (n : Nat) : (faultF p n = (0, 0, false) ∧ ∀ a b, a < n → b < n → p a b = false) ∨ ∃ a b : Nat, a < n ∧ b < n ∧ faultF p n = ((a : Int), (b : Int), true) ∧ p a b = true := by
  unfold faultF rows1
  cases h : (List.range n).find? (fun a => ((List.range n).find? (p a)).isSome) with
  | none =>
    refine .inl ⟨rfl, fun a b ha hb => ?_⟩
    have h1 := List.find?_eq_none.1 h a (List.mem_range.2 ha)
    cases h2 : (List.range n).find? (p a) with
    | none => simpa using List.find?_eq_none.1 h2 b (List.mem_range.2 hb)
    | some x => rw [h2] at h1; simp at h1
  | some a =>
    have h1 := List.find?_some h
    have ha := List.mem_range.1 (List.mem_of_find?_eq_some h)
    simp only
    unfold row1
    cases h2 : (List.range n).find? (p a) with
    | none => rw [h2] at h1; simp at h1
    | some b => exact .inr ⟨a, b, ha, List.mem_range.1 (List.mem_of_find?_eq_some h2), rfl, List.find?_some h2⟩
theorem val_bd {n : Int} {l : List Int} (h : Valid n l) (i : Nat) : -500 ≤ l.getD i 0 ∧ l.getD i 0 ≤ 500 := by
  by_cases hi : i < l.length
  · exact h.2.2.2 i hi
  · rw [List.getD_eq_getElem?_getD, List.getElem?_eq_none (by omega)]; decide
theorem badC_iff {n : Int} {l : List Int} (h : Valid n l) (a b : Nat) : badC l a b = decide (l.getD a 0 + l.getD b 0 > l.getD (a ||| b) 0 + l.getD (a &&& b) 0) := by
  have h1 := val_bd h a
  have h2 := val_bd h b
  have h3 := val_bd h (a ||| b)
  have h4 := val_bd h (a &&& b)
  unfold badC
  rw [w64' (by omega) (by omega), w64' (by omega) (by omega)]
theorem badS_iff {n : Int} {l : List Int} (h : Valid n l) (a b : Nat) : badS l a b = (decide (a &&& b = 0) && decide (l.getD a 0 + l.getD b 0 > l.getD (a ||| b) 0)) := by
  have h1 := val_bd h a
  have h2 := val_bd h b
  unfold badS
  rw [w64' (by omega) (by omega)]
theorem conv_super {n : Int} {l : List Int} (h : Valid n l) (a b : Nat) (hc : badC l a b = false) : badS l a b = false := by
  rw [badC_iff h] at hc
  rw [badS_iff h]
  have h0 := h.2.2.1
  by_cases e : a &&& b = 0
  · rw [e, h0] at hc
    simp only [e, decide_true, Bool.true_and]
    simp only [decide_eq_false_iff_not] at hc ⊢
    omega
  · simp [e]
theorem impl_val (n : Int) (l : List Int) (s : Nat) (hl : l.length ≤ 1048576) (hs : s < l.length) : m_impl_ValueOf n l (s : Int) = some (l.getD s 0) := by
  unfold m_impl_ValueOf
  rw [within_eq, w64' (by omega) (by omega), decide_eq_true (by omega), Option.bind_some, Bool.not_true, cond_false, grd_pos ⟨by omega, by omega⟩, Int.toNat_natCast]
theorem impl_union (a b : Nat) (ha : a < 32) (hb : b < 32) : m_impl_Union (a : Int) (b : Int) = some ((a ||| b : Nat) : Int) := by
  unfold m_impl_Union
  rw [within_eq, within_eq, decide_eq_true (by omega), decide_eq_true (by omega)]
  simp only [Option.bind_some, Bool.not_true, cond_false, or_eq a b ha hb]
theorem impl_overlap (a b : Nat) (ha : a < 32) (hb : b < 32) : m_impl_Overlap (a : Int) (b : Int) = some ((a &&& b : Nat) : Int) := by
  unfold m_impl_Overlap
  rw [within_eq, within_eq, decide_eq_true (by omega), decide_eq_true (by omega)]
  simp only [Option.bind_some, Bool.not_true, cond_false, and2_eq a b ha hb]
theorem impl_subset (a b : Nat) (ha : a < 32) (hb : b < 32) : m_impl_IsSubset (a : Int) (b : Int) = some (decide (a &&& b = a)) := by
  unfold m_impl_IsSubset
  rw [within_eq, within_eq, decide_eq_true (by omega), decide_eq_true (by omega)]
  simp only [Option.bind_some, cond_true, andNot_eq a b ha hb]
theorem law_FnProperties (c : List UInt8) (_ : c.length ≤ maxLen) : m_laws_FnProperties c = some true := by
  unfold m_laws_FnProperties m_laws_big
  by_cases hb : (c.length : Int) > 1048576
  · rw [decide_eq_true hb]; rfl
  obtain ⟨n, l, hd, hl17⟩ := draw_convex c (by omega)
  have hl : l.length ≤ 1048576 := by omega
  simp only [decide_eq_false hb, Option.bind_some, cond_false, hd]
  cases hv : validB n l with
  | false =>
    have f1 : m_impl_ConvexFault n l = some (0, 0, false) := by
      unfold m_impl_ConvexFault m_impl_fault_impl_ConvexFault_1
      rw [impl_valid n l hl, hv]; rfl
    have f2 : m_impl_MonotoneFault n l = some (0, 0, false) := by
      unfold m_impl_MonotoneFault m_impl_fault_impl_MonotoneFault_1
      rw [impl_valid n l hl, hv]; rfl
    have f3 : m_impl_SuperadditiveFault n l = some (0, 0, false) := by
      unfold m_impl_SuperadditiveFault m_impl_fault_impl_SuperadditiveFault_1
      rw [impl_valid n l hl, hv]; rfl
    have g1 : m_spec_ConvexFault n l = some (0, 0, false) := by unfold m_spec_ConvexFault; rw [spec_fault0 n l 3 hl hv]; rfl
    have g2 : m_spec_MonotoneFault n l = some (0, 0, false) := by unfold m_spec_MonotoneFault; rw [spec_fault0 n l 1 hl hv]; rfl
    have g3 : m_spec_SuperadditiveFault n l = some (0, 0, false) := by unfold m_spec_SuperadditiveFault; rw [spec_fault0 n l 2 hl hv]; rfl
    have i1 : m_impl_IsConvex n l = some false := by unfold m_impl_IsConvex; rw [f1, Option.bind_some]; dsimp only; rw [impl_valid n l hl, hv]; rfl
    have i2 : m_impl_IsMonotone n l = some false := by unfold m_impl_IsMonotone; rw [f2, Option.bind_some]; dsimp only; rw [impl_valid n l hl, hv]; rfl
    have i3 : m_impl_IsSuperadditive n l = some false := by unfold m_impl_IsSuperadditive; rw [f3, Option.bind_some]; dsimp only; rw [impl_valid n l hl, hv]; rfl
    simp only [f1, f2, f3, g1, g2, g3, i1, i2, i3, spec_valid n l hl, hv, Option.bind_some, bne_self_eq_false, beq_self_eq_true, cond_false, cond_true]
  | true =>
    have hV := (validB_eq n l).1 hv
    obtain ⟨N, rfl, k1, k2, k3, k4⟩ := valid_nat hV
    have f1 := impl_faultC l N hv
    have f2 := impl_faultM l N hv
    have f3 := impl_faultS l N hv
    have g1 : m_spec_ConvexFault N l = some (faultF (badC l) l.length) := by unfold m_spec_ConvexFault; rw [spec_fault l N 3 (badC l) (.inr (.inr ⟨rfl, rfl⟩)) hv]; rfl
    have g2 : m_spec_MonotoneFault N l = some (faultF (badM l) l.length) := by unfold m_spec_MonotoneFault; rw [spec_fault l N 1 (badM l) (.inl ⟨rfl, rfl⟩) hv]; rfl
    have g3 : m_spec_SuperadditiveFault N l = some (faultF (badS l) l.length) := by unfold m_spec_SuperadditiveFault; rw [spec_fault l N 2 (badS l) (.inr (.inl ⟨rfl, rfl⟩)) hv]; rfl
    have i1 : m_impl_IsConvex N l = some !(faultF (badC l) l.length).2.2 := by unfold m_impl_IsConvex; rw [f1, Option.bind_some]; dsimp only; rw [impl_valid N l hl, hv]; rfl
    have i2 : m_impl_IsMonotone N l = some !(faultF (badM l) l.length).2.2 := by unfold m_impl_IsMonotone; rw [f2, Option.bind_some]; dsimp only; rw [impl_valid N l hl, hv]; rfl
    have i3 : m_impl_IsSuperadditive N l = some !(faultF (badS l) l.length).2.2 := by unfold m_impl_IsSuperadditive; rw [f3, Option.bind_some]; dsimp only; rw [impl_valid N l hl, hv]; rfl
    have hsv := spec_valid (N : Int) l hl
    rw [hv] at hsv
    have h2 : ∃ a b d, faultF (badS l) l.length = (a, b, d) := ⟨_, _, _, rfl⟩
    obtain ⟨sa, sb, sd, eS⟩ := h2
    have hM : ∃ a b d, faultF (badM l) l.length = (a, b, d) ∧ (d = true → m_impl_IsSubset a b = some true) := by
      rcases fault_cases (badM l) l.length with ⟨e, _⟩ | ⟨a, b, ha, hb', e, p⟩
      · exact ⟨_, _, _, e, fun h => by cases h⟩
      · refine ⟨_, _, _, e, fun _ => ?_⟩
        rw [impl_subset a b (by omega) (by omega)]
        unfold badM at p
        simp only [Bool.and_eq_true] at p
        rw [p.1]
    obtain ⟨ma, mb, md, eM, hM⟩ := hM
    rw [eM] at f2 g2 i2
    rw [eS] at f3 g3 i3
    have hsubst : md = true → m_impl_IsSubset ma mb = some true := hM
    rcases fault_cases (badC l) l.length with ⟨e, nC⟩ | ⟨a, b, ha, hb', e, pC⟩
    · rw [e] at f1 g1 i1
      have hs : sd = false := by
        rcases fault_cases (badS l) l.length with ⟨e', _⟩ | ⟨a, b, ha, hb', e', p⟩
        · rw [eS] at e'; injection e' with _ e'; injection e'
        · rw [conv_super hV a b (nC a b ha hb')] at p; cases p
      subst hs
      cases md with
      | false => simp only [f1, f2, f3, g1, g2, g3, i1, i2, i3, hsv, Option.bind_some, bne_self_eq_false, beq_self_eq_true, cond_false, cond_true, Bool.not_true, Bool.not_false]
      | true => simp only [f1, f2, f3, g1, g2, g3, i1, i2, i3, hsv, hsubst rfl, Option.bind_some, bne_self_eq_false, beq_self_eq_true, cond_false, cond_true, Bool.not_true, Bool.not_false]
    · rw [e] at f1 g1 i1
      have u1 : a ||| b < l.length := by rw [k3]; exact Nat.or_lt_two_pow (by omega) (by omega)
      have u2 : a &&& b < l.length := Nat.lt_of_le_of_lt Nat.and_le_left ha
      have w1 := val_bd hV a
      have w2 := val_bd hV b
      have w3 := val_bd hV (a ||| b)
      have w4 := val_bd hV (a &&& b)
      rw [badC_iff hV] at pC
      have pC := of_decide_eq_true pC
      have hle : decide (IntKind.i64.wrap (l.getD a 0 + l.getD b 0) ≤ IntKind.i64.wrap (l.getD (a ||| b) 0 + l.getD (a &&& b) 0)) = false := by
        rw [w64' (by omega) (by omega), w64' (by omega) (by omega)]
        exact decide_eq_false (by omega)
      have vs : m_impl_ValueOf N l a = some (l.getD a 0) ∧ m_impl_ValueOf N l b = some (l.getD b 0) ∧ m_impl_Union a b = some ((a ||| b : Nat) : Int) ∧ m_impl_ValueOf N l ((a ||| b : Nat) : Int) = some (l.getD (a ||| b) 0) ∧
          m_impl_Overlap a b = some ((a &&& b : Nat) : Int) ∧ m_impl_ValueOf N l ((a &&& b : Nat) : Int) = some (l.getD (a &&& b) 0) :=
        ⟨impl_val _ l a hl ha, impl_val _ l b hl hb', impl_union a b (by omega) (by omega), impl_val _ l _ hl u1, impl_overlap a b (by omega) (by omega), impl_val _ l _ hl u2⟩
      obtain ⟨v1, v2, v3, v4, v5, v6⟩ := vs
      cases md with
      | false => cases sd <;> simp only [f1, f2, f3, g1, g2, g3, i1, i2, i3, hsv, v1, v2, v3, v4, v5, v6, hle, Option.bind_some, bne_self_eq_false, beq_self_eq_true, cond_false, cond_true, Bool.not_true, Bool.not_false]
      | true => cases sd <;> simp only [f1, f2, f3, g1, g2, g3, i1, i2, i3, hsv, v1, v2, v3, v4, v5, v6, hle, hsubst rfl, Option.bind_some, bne_self_eq_false, beq_self_eq_true, cond_false, cond_true, Bool.not_true, Bool.not_false]
end Go.Proofs.Ytmlfjoppaciknaa
