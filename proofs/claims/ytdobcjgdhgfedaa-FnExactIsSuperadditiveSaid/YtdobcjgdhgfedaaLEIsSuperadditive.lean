/- The plain laws: what the models of FnExactIsSuperadditive compute. No condition beyond those that each theorem names. -/
import Derived.Test.YtdobcjgdhgfedaaGEIsSuperadditive
import Derived.Test.YtdobcjgdhgfedaaAmC
namespace Go.Proofs.Ytdobcjgdhgfedaa
open Go.AM
theorem sz_ints (l : List Int) (k : Int) (h1 : 0 ≤ k) (h2 : k ≤ 1048576) (hl : l.length ≤ maxLen) : m_laws_szIntS l k = some (if k < l.length then -1 else k - l.length) := by
  have hl' : (l.length : Int) ≤ 9223372036854775807 := by simp only [maxLen] at hl; omega
  have hw : IntKind.i64.wrap (k - (l.length : Int)) = k - l.length := w64' (by omega) (by omega)
  unfold m_laws_szIntS
  rw [hw]
  by_cases h : k < l.length
  · have : k - (l.length : Int) < 0 := by omega
    simp [h, this]
  · have : ¬ k - (l.length : Int) < 0 := by omega
    simp [h, this]
theorem sz_game (n : Int) (l : List Int) (k : Int) (h1 : 0 ≤ k) (h2 : k ≤ 1048576) (hl : l.length ≤ maxLen) : m_laws_szGame n l k = some (if k < l.length then -1 else k - l.length) := by
  unfold m_laws_szGame
  rw [sz_ints l k h1 h2 hl]
  by_cases h : k < l.length
  · simp [h]
  · have : ¬ k - (l.length : Int) < 0 := by omega
    simp [h, this]
theorem to_ints (l : List Int) (hl : l.length ≤ 1048576) : m_laws_toIntS l = some l := by
  unfold m_laws_toIntS
  rw [grd_pos ⟨by omega, rfl, by simp only [room]; omega⟩]
  have h := iter_up (step := l_laws_toIntS_0 l) (fun i => ((i : Int), l.take i ++ List.replicate (l.length - i) 0)) l.length (a := l) (fun i hi => ?_) ?_
  · simp only [List.take_zero, List.nil_append, Nat.sub_zero, Int.ofNat_eq_natCast] at h
    simp only [Int.toNat_natCast]
    rw [show ((0 : Int), List.replicate l.length (0 : Int)) = (((0 : Nat) : Int), List.replicate l.length (0 : Int)) from rfl, h]
    rfl
  · have hi' : (i : Int) < l.length := by omega
    have hlen : ((l.take i ++ List.replicate (l.length - i) (0 : Int)).length : Int) = l.length := by simp; omega
    simp only [l_laws_toIntS_0, hi', decide_true, cond_true]
    rw [grd_pos ⟨by omega, trivial⟩, grd_pos ⟨by omega, by rw [hlen]; exact hi'⟩]
    rw [w64' (by omega) (by omega), Int.toNat_natCast, set_copy l 0 0 i hi]
    rfl
  · simp [l_laws_toIntS_0]
theorem to_game (n : Int) (l : List Int) (hl : l.length ≤ 1048576) : m_laws_toGame n l = some (n, l) := by
  unfold m_laws_toGame
  rw [to_ints l hl]
  rfl
theorem eq_ints (a b : List Int) (ha : a.length ≤ 1048576) (hb : b.length ≤ 1048576) : m_laws_eqIntS a b = some (decide (a = b)) := by
  unfold m_laws_eqIntS
  by_cases hl : a.length = b.length
  · have e : ((a.length : Int) != (b.length : Int)) = false := by simp [hl]
    have hit := iter_all (step := l_laws_eqIntS_0 a b) (fun i => (i : Int)) a.length (fun i => a.getD i 0 == b.getD i 0) (a := .inl ()) (b := .inr false)
      (fun i hi hp => by
        have hi' : (i : Int) < a.length := by omega
        have hi2 : (i : Int) < b.length := by omega
        unfold l_laws_eqIntS_0
        rw [decide_eq_true hi', cond_true, grd_pos ⟨by omega, hi'⟩, grd_pos ⟨by omega, hi2⟩]
        simp only [beq_iff_eq] at hp
        rw [Int.toNat_natCast, hp, w64' (by omega) (by omega), bne_self_eq_false, cond_false]
        rfl)
      (fun i hi hp => by
        have hi' : (i : Int) < a.length := by omega
        have hi2 : (i : Int) < b.length := by omega
        unfold l_laws_eqIntS_0
        rw [decide_eq_true hi', cond_true, grd_pos ⟨by omega, hi'⟩, grd_pos ⟨by omega, hi2⟩]
        rw [Int.toNat_natCast]
        have : (a.getD i 0 != b.getD i 0) = true := by
          simp only [bne, hp, Bool.not_false]
        rw [this]
        rfl)
      (by
        unfold l_laws_eqIntS_0
        rw [decide_eq_false (by omega)]
        rfl)
    rw [e, cond_false]
    simp only [Int.ofNat_eq_natCast, Int.natCast_zero] at hit
    rw [hit]
    by_cases hall : ∀ i, i < a.length → (a.getD i 0 == b.getD i 0) = true
    · have : a = b := eq_of_all 0 hl fun i hi => by simpa using hall i hi
      rw [if_pos hall]
      simp [this]
    · have : ¬ a = b := fun e => hall fun i hi => by rw [e]; simp
      rw [if_neg hall]
      simp [this]
  · have e : ((a.length : Int) != (b.length : Int)) = true := by
      simp only [bne_iff_ne, ne_eq]
      omega
    rw [e]
    have : ¬ a = b := fun e => hl (by rw [e])
    simp [this]
theorem eq_game (n : Int) (l : List Int) (m : Int) (k : List Int) (hl : l.length ≤ 1048576) (hk : k.length ≤ 1048576) : m_laws_eqGame n l m k = some (decide (n = m ∧ l = k)) := by
  unfold m_laws_eqGame
  rw [eq_ints l k hl hk]
  by_cases h1 : n = m
  · by_cases h2 : l = k
    · simp [h1, h2]
    · simp [h1, h2]
  · have : (n != m) = true := by simpa using h1
    simp [h1, this]
def Valid (n : Int) (l : List Int) : Prop := (1 ≤ n ∧ n ≤ 5) ∧ (l.length : Int) = 2 ^ n.toNat ∧ l.getD 0 0 = 0 ∧ ∀ i, i < l.length → -500 ≤ l.getD i 0 ∧ l.getD i 0 ≤ 500
open Classical in
noncomputable def validB (n : Int) (l : List Int) : Bool := decide (Valid n l)
theorem in_eq (a b c : Int) : m_spec_l1In a b c = some (decide (b ≤ a ∧ a ≤ c)) := by
  unfold m_spec_l1In
  by_cases h : a ≥ b
  · have h' : b ≤ a := h
    simp [h, h']
  · have h' : ¬ b ≤ a := h
    simp [h, h']
theorem within_eq (a b c : Int) : m_impl_within a b c = some (decide (b ≤ a ∧ a ≤ c)) := in_eq a b c
theorem count_eq (n : Int) (h1 : 1 ≤ n) (h2 : n ≤ 5) : m_spec_CountCoalitions n = some (2 ^ n.toNat) := by
  unfold m_spec_CountCoalitions
  rw [in_eq]
  have hb : decide ((0 : Int) ≤ n ∧ n ≤ 5) = true := by simp; omega
  rw [hb, Option.bind_some, Bool.not_true, cond_false]
  have hit := iter_up (step := l_spec_CountCoalitions_0 n) (fun i => ((2 : Int) ^ i, (i : Int))) n.toNat (a := 2 ^ n.toNat) (fun i hi => by
      have hlt : (i : Int) < n := by omega
      have hi5 : i < 5 := by omega
      unfold l_spec_CountCoalitions_0
      simp only [hlt, decide_true, cond_true]
      have hp : (2 : Int) ^ i ≤ 16 := by
        have : i = 0 ∨ i = 1 ∨ i = 2 ∨ i = 3 ∨ i = 4 := by omega
        rcases this with rfl | rfl | rfl | rfl | rfl <;> decide
      have hp0 : (0 : Int) < 2 ^ i := Int.pow_pos (by decide)
      rw [w64' (by omega) (by omega), w64' (by omega) (by omega)]
      simp [Int.pow_succ])
    (by
      unfold l_spec_CountCoalitions_0
      have : ¬ ((n.toNat : Int) < n) := by omega
      simp only [this, decide_false, cond_false])
  simp only [Int.pow_zero, Int.ofNat_eq_natCast, Int.natCast_zero] at hit
  rw [hit]
  rfl
theorem spec_valid (n : Int) (l : List Int) (hl : l.length ≤ 1048576) : m_spec_IsValidGame n l = some (validB n l) := by
  unfold m_spec_IsValidGame
  have hit := iter_first (step := l_spec_IsValidGame_0 l) (fun i => (i : Int)) l.length (fun i => decide (-500 ≤ l.getD i 0 ∧ l.getD i 0 ≤ 500)) (a := .inl ()) (fun _ => .inr false)
    (fun i hi hp => by
      have hi' : (i : Int) < l.length := by omega
      unfold l_spec_IsValidGame_0
      rw [decide_eq_true hi', cond_true, grd_pos ⟨by omega, hi'⟩, in_eq, Int.toNat_natCast, hp, Option.bind_some, Bool.not_true, cond_false, w64' (by omega) (by omega)]
      rfl)
    (fun i hi hp => by
      have hi' : (i : Int) < l.length := by omega
      unfold l_spec_IsValidGame_0
      rw [decide_eq_true hi', cond_true, grd_pos ⟨by omega, hi'⟩, in_eq, Int.toNat_natCast, hp]
      rfl)
    (by
      unfold l_spec_IsValidGame_0
      rw [decide_eq_false (by omega)]
      rfl)
  simp only [Int.ofNat_eq_natCast, Int.natCast_zero] at hit
  rcases hit with ⟨h1, h2⟩ | ⟨i, h1, h2, h3⟩
  · rw [h2]
    simp only [Option.bind_some]
    rw [in_eq]
    by_cases hn : 1 ≤ n ∧ n ≤ 5
    · rw [decide_eq_true hn, Option.bind_some, cond_true, count_eq n hn.1 hn.2, Option.bind_some]
      by_cases hlen : (l.length : Int) = 2 ^ n.toNat
      · have hpos : (0 : Int) < 2 ^ n.toNat := Int.pow_pos (by decide)
        have e1 : ((l.length : Int) == 2 ^ n.toNat) = true := by simpa using hlen
        rw [e1, cond_true, grd_pos ⟨by omega, by omega⟩]
        congr 1
        have h0 : (0 : Int).toNat = 0 := rfl
        rw [h0]
        by_cases hz : l.getD 0 0 = 0
        · have hv : Valid n l := ⟨hn, hlen, hz, fun i hi => by simpa using h1 i hi⟩
          rw [hz]
          simp [validB, hv]
        · have hv : ¬ Valid n l := fun h => hz h.2.2.1
          simp only [validB, hv, decide_false]
          simpa using hz
      · have e1 : ((l.length : Int) == 2 ^ n.toNat) = false := by simpa using hlen
        have hv : ¬ Valid n l := fun h => hlen h.2.1
        rw [e1, cond_false]
        simp [validB, hv]
    · have hv : ¬ Valid n l := fun h => hn h.1
      rw [decide_eq_false hn]
      simp [validB, hv]
  · rw [h3]
    have hv : ¬ Valid n l := fun h => by
      have := h.2.2.2 i h1
      simp only [decide_eq_false_iff_not] at h2
      exact h2 this
    simp [validB, hv]
theorem contains_eq (l : List Int) (hl : l.length ≤ 1048576) : ∃ r, m_slices_ContainsFunc_int_int_impl_IsValidGame_1 l = some r ∧ (r = false ↔ ∀ i, i < l.length → -500 ≤ l.getD i 0 ∧ l.getD i 0 ≤ 500) := by
  unfold m_slices_ContainsFunc_int_int_impl_IsValidGame_1 m_slices_IndexFunc_int_int_impl_IsValidGame_1
  have hm : ∀ x, m_impl_IsValidGame_1 x = some (!decide (-500 ≤ x ∧ x ≤ 500)) := fun x => by
    unfold m_impl_IsValidGame_1
    rw [within_eq]
    rfl
  have hit := iter_first (step := l_slices_IndexFunc_int_int_impl_IsValidGame_1_0 l) (fun i => (i : Int)) l.length (fun i => decide (-500 ≤ l.getD i 0 ∧ l.getD i 0 ≤ 500)) (a := .inl ()) (fun i => .inr (i : Int))
    (fun i hi hp => by
      have hi' : (i : Int) < l.length := by omega
      unfold l_slices_IndexFunc_int_int_impl_IsValidGame_1_0
      rw [decide_eq_true hi', cond_true, grd_pos ⟨by omega, hi'⟩, hm, Int.toNat_natCast, hp, Option.bind_some, Bool.not_true, cond_false, w64' (by omega) (by omega)]
      rfl)
    (fun i hi hp => by
      have hi' : (i : Int) < l.length := by omega
      unfold l_slices_IndexFunc_int_int_impl_IsValidGame_1_0
      rw [decide_eq_true hi', cond_true, grd_pos ⟨by omega, hi'⟩, hm, Int.toNat_natCast, hp]
      rfl)
    (by
      unfold l_slices_IndexFunc_int_int_impl_IsValidGame_1_0
      rw [decide_eq_false (by omega)]
      rfl)
  simp only [Int.ofNat_eq_natCast, Int.natCast_zero] at hit
  rcases hit with ⟨h1, h2⟩ | ⟨i, h1, h2, h3⟩
  · rw [h2]
    exact ⟨false, rfl, by simpa using h1⟩
  · rw [h3]
    refine ⟨true, by simp, ?_⟩
    simp only [reduceCtorEq, false_iff]
    intro h
    simp only [decide_eq_false_iff_not] at h2
    exact h2 (h i h1)
theorem impl_valid (n : Int) (l : List Int) (hl : l.length ≤ 1048576) : m_impl_IsValidGame n l = some (validB n l) := by
  unfold m_impl_IsValidGame
  rw [within_eq]
  by_cases hn : 1 ≤ n ∧ n ≤ 5
  · rw [decide_eq_true hn, Option.bind_some, Bool.not_true, cond_false, grd_pos (by omega)]
    have hw : IntKind.i64.wrap ((1 : Int) * 2 ^ (min n.toNat 64)) = 2 ^ n.toNat := by
      have : n = 1 ∨ n = 2 ∨ n = 3 ∨ n = 4 ∨ n = 5 := by omega
      rcases this with rfl | rfl | rfl | rfl | rfl <;> decide
    rw [hw]
    by_cases hlen : (l.length : Int) = 2 ^ n.toNat
    · have hpos : (0 : Int) < 2 ^ n.toNat := Int.pow_pos (by decide)
      have e1 : ((l.length : Int) != 2 ^ n.toNat) = false := by simpa using hlen
      rw [e1, cond_false, grd_pos ⟨by omega, by omega⟩]
      have h0 : (0 : Int).toNat = 0 := rfl
      rw [h0]
      by_cases hz : l.getD 0 0 = 0
      · have e2 : (l.getD 0 0 != 0) = false := by simpa using hz
        rw [e2, cond_false]
        obtain ⟨r, h1, h2⟩ := contains_eq l hl
        rw [h1, Option.bind_some]
        congr 1
        by_cases hr : r = false
        · have hv : Valid n l := ⟨hn, hlen, hz, h2.1 hr⟩
          simp [validB, hv, hr]
        · have hv : ¬ Valid n l := fun h => hr (h2.2 h.2.2.2)
          have hr' : r = true := by cases r <;> simp at hr ⊢
          simp [validB, hv, hr']
      · have e2 : (l.getD 0 0 != 0) = true := by simpa using hz
        have hv : ¬ Valid n l := fun h => hz h.2.2.1
        rw [e2]
        simp [validB, hv]
    · have e1 : ((l.length : Int) != 2 ^ n.toNat) = true := by simpa using hlen
      have hv : ¬ Valid n l := fun h => hlen h.2.1
      rw [e1]
      simp [validB, hv]
  · have hv : ¬ Valid n l := fun h => hn h.1
    rw [decide_eq_false hn]
    simp [validB, hv]
theorem iter_find {S A : Type} {step : S → Option (S ⊕ A)} (st : Nat → S) (n : Nat) (p : Nat → Bool) (a : A) (b : Nat → A)
    (hs : ∀ i, i < n → step (st i) = some (if p i = true then .inr (b i) else .inl (st (i + 1)))) (hd : step (st n) = some (.inr a)) :
    iter step (st 0) = some (match (List.range n).find? p with
      | some i => b i
      | none => a) := by
  have key : ∀ k, k ≤ n → iter step (st (n - k)) = some (match (List.range' (n - k) k).find? p with
      | some i => b i
      | none => a) := by
    intro k
    induction k with
    | zero => intro _; simpa using iter_done hd
    | succ k ih =>
      intro hk
      have h1 := hs (n - (k + 1)) (by omega)
      rw [List.range'_succ, List.find?_cons]
      cases hp : p (n - (k + 1)) with
      | true =>
        rw [if_pos hp] at h1
        exact iter_done h1
      | false =>
        rw [if_neg (by simp [hp])] at h1
        rw [iter_next h1, show n - (k + 1) + 1 = n - k by omega]
        exact ih (by omega)
  have := key n (Nat.le_refl _)
  rw [Nat.sub_self, ← List.range_eq_range'] at this
  exact this
def sm (f : Nat → Int) : Nat → Int
  | 0 => 0
  | n + 1 => sm f n + f n
theorem sm_bd {f : Nat → Int} {B : Int} : ∀ {n : Nat}, (∀ i, i < n → -B ≤ f i ∧ f i ≤ B) → -(B * n) ≤ sm f n ∧ sm f n ≤ B * n
  | 0, _ => by simp [sm]
  | n + 1, h => by
    have h1 := sm_bd (n := n) fun i hi => h i (by omega)
    have h2 := h n (by omega)
    have h3 : B * ((n + 1 : Nat) : Int) = B * n + B := by rw [Int.natCast_add, Int.mul_add]; simp
    simp only [sm]
    omega
theorem getD_nat {α : Type} (l : List α) (i : Nat) (d : α) : l.getD (i : Int).toNat d = l.getD i d := by rw [Int.toNat_natCast]
instance : DecidableEq Q := fun a b =>
  if h1 : a.num = b.num then
    if h2 : a.den = b.den then isTrue (by cases a; cases b; simp only at h1 h2; rw [h1, h2])
    else isFalse (fun h => h2 (by rw [h]))
  else isFalse (fun h => h1 (by rw [h]))
theorem count0 (n : Nat) (h : n ≤ 5) : m_spec_CountCoalitions (n : Int) = some (2 ^ n) := by
  rcases Nat.eq_zero_or_pos n with rfl | h1
  · unfold m_spec_CountCoalitions
    rw [in_eq, decide_eq_true (by omega), Option.bind_some, Bool.not_true, cond_false]
    rw [iter_done (a := (1 : Int)) (by simp [l_spec_CountCoalitions_0])]
    rfl
  · rw [count_eq (n : Int) (by omega) (by omega)]
    simp
theorem bit2 (k : Nat) (h : k < 5) : m_spec_l2Bit (k : Int) = some (2 ^ k) := by
  unfold m_spec_l2Bit
  rw [count0 k (by omega)]
  rfl
theorem has_tab : ∀ s : Fin 32, ∀ k : Fin 5, ((IntKind.i64.wrap (((s.val : Nat) : Int).tdiv (2 ^ k.val))).tmod 2 == 1) = s.val.testBit k.val := by decide +kernel
theorem or_tab : ∀ a : Fin 32, ∀ b : Fin 32, bitsOf .or .i64 ((a.val : Nat) : Int) ((b.val : Nat) : Int) = ((a.val ||| b.val : Nat) : Int) := by decide +kernel
theorem or_eq (a b : Nat) (ha : a < 32) (hb : b < 32) : bitsOf .or .i64 (a : Int) (b : Int) = ((a ||| b : Nat) : Int) := or_tab ⟨a, ha⟩ ⟨b, hb⟩
theorem spec_has (s k : Nat) (hs : s < 32) (hk : k < 5) : m_spec_HasPlayer (s : Int) (k : Int) = some (s.testBit k) := by
  unfold m_spec_HasPlayer
  have hp : (0 : Int) < 2 ^ k := Int.pow_pos (by decide)
  rw [in_eq, decide_eq_true (by omega), Option.bind_some, cond_true, decide_eq_true (by omega), cond_true, bit2 k hk, Option.bind_some, grd_pos (by omega), grd_pos (by decide)]
  rw [← has_tab ⟨s, hs⟩ ⟨k, hk⟩]
/-- a valid game, in natural numbers -/
theorem valid_nat {n : Int} {l : List Int} (h : Valid n l) : ∃ N : Nat, n = (N : Int) ∧ 1 ≤ N ∧ N ≤ 5 ∧ l.length = 2 ^ N ∧ l.length ≤ 32 := by
  obtain ⟨h1, h2, _⟩ := h
  have hn : n = 1 ∨ n = 2 ∨ n = 3 ∨ n = 4 ∨ n = 5 := by omega
  refine ⟨n.toNat, by omega, by omega, by omega, ?_, ?_⟩
  · rcases hn with rfl | rfl | rfl | rfl | rfl <;> simp at h2 ⊢ <;> omega
  · rcases hn with rfl | rfl | rfl | rfl | rfl <;> simp at h2 ⊢ <;> omega
theorem validB_eq (n : Int) (l : List Int) : validB n l = true ↔ Valid n l := by simp [validB]
theorem pow_le32 {N : Nat} (h : N ≤ 5) : 2 ^ N ≤ 32 := by
  have : N = 0 ∨ N = 1 ∨ N = 2 ∨ N = 3 ∨ N = 4 ∨ N = 5 := by omega
  rcases this with rfl | rfl | rfl | rfl | rfl | rfl <;> decide
theorem spec_subset (a b : Nat) (ha : a < 32) (hb : b < 32) : m_spec_IsSubset (a : Int) (b : Int) = some (decide (a &&& b = a)) := by
  unfold m_spec_IsSubset
  have hit := iter_find (step := l_spec_IsSubset_0 (a : Int) (b : Int)) (fun k => (k : Int)) 5 (fun k => a.testBit k && !b.testBit k) (.inl ()) (fun _ => .inr false)
    (fun k hk => by
      unfold l_spec_IsSubset_0
      rw [decide_eq_true (by omega), cond_true, spec_has a k ha hk, spec_has b k hb hk, w64' (by omega) (by omega)]
      simp only [Option.bind_some]
      cases a.testBit k <;> cases b.testBit k <;> simp)
    (by unfold l_spec_IsSubset_0; rw [decide_eq_false (by omega)]; rfl)
  simp only [Int.natCast_zero] at hit
  rw [hit]
  have key : ∀ a : Fin 32, ∀ b : Fin 32, ((List.range 5).find? (fun k => a.val.testBit k && !b.val.testBit k)).isNone = decide (a.val &&& b.val = a.val) := by decide +kernel
  have hk := key ⟨a, ha⟩ ⟨b, hb⟩
  simp only at hk
  rw [← hk]
  cases (List.range 5).find? (fun k => a.testBit k && !b.testBit k) with
  | some _ => rfl
  | none =>
    simp only [Option.bind_some, m_spec_l2Good, in_eq]
    rw [decide_eq_true (by omega), decide_eq_true (by omega)]
    rfl
theorem iter_findc {S A : Type} {step : S → Option (S ⊕ A)} (st : Nat → S) (n : Nat) (p : Nat → Bool) (a : A) (b : Nat → A)
    (hs : ∀ i, i < n → step (st i) = some (bif p i then .inr (b i) else .inl (st (i + 1)))) (hd : step (st n) = some (.inr a)) :
    iter step (st 0) = some (match (List.range n).find? p with
      | some i => b i
      | none => a) := iter_find st n p a b (fun i hi => by rw [hs i hi]; cases p i <;> rfl) hd
theorem and2_tab : ∀ a : Fin 32, ∀ b : Fin 32, bitsOf .and .i64 ((a.val : Nat) : Int) ((b.val : Nat) : Int) = ((a.val &&& b.val : Nat) : Int) := by decide +kernel
theorem and2_eq (a b : Nat) (ha : a < 32) (hb : b < 32) : bitsOf .and .i64 (a : Int) (b : Int) = ((a &&& b : Nat) : Int) := and2_tab ⟨a, ha⟩ ⟨b, hb⟩
theorem pow_bd (i : Nat) (h : i < 5) : (0 : Int) < 2 ^ i ∧ (2 : Int) ^ i ≤ 16 := by
  have : i = 0 ∨ i = 1 ∨ i = 2 ∨ i = 3 ∨ i = 4 := by omega
  rcases this with rfl | rfl | rfl | rfl | rfl <;> decide
theorem good_eq (a : Nat) (ha : a < 32) : m_spec_l2Good (a : Int) = some true := by
  unfold m_spec_l2Good
  rw [in_eq, decide_eq_true (by omega)]
  rfl
def bits (p : Nat → Bool) (i : Nat) : Int := if p i = true then 2 ^ i else 0
theorem bits_bd (p : Nat → Bool) (k : Nat) (hk : k ≤ 5) : -(16 * (k : Int)) ≤ sm (bits p) k ∧ sm (bits p) k ≤ 16 * k :=
  sm_bd fun i hi => by
    have := pow_bd i (by omega)
    unfold bits
    split <;> omega
theorem overlap_tab : ∀ a : Fin 32, ∀ b : Fin 32, sm (bits (fun i => a.val.testBit i && b.val.testBit i)) 5 = ((a.val &&& b.val : Nat) : Int) := by decide +kernel
theorem union_tab : ∀ a : Fin 32, ∀ b : Fin 32, sm (bits (fun i => a.val.testBit i || b.val.testBit i)) 5 = ((a.val ||| b.val : Nat) : Int) := by decide +kernel
theorem spec_overlap (a b : Nat) (ha : a < 32) (hb : b < 32) : m_spec_Overlap (a : Int) (b : Int) = some ((a &&& b : Nat) : Int) := by
  unfold m_spec_Overlap
  have hit := iter_up (step := l_spec_Overlap_0 (a : Int) (b : Int)) (fun k => (sm (bits (fun i => a.testBit i && b.testBit i)) k, (k : Int))) 5 (a := sm (bits (fun i => a.testBit i && b.testBit i)) 5) (fun k hk => by
      have h1 := bits_bd (fun i => a.testBit i && b.testBit i) k (by omega)
      have h2 := pow_bd k hk
      unfold l_spec_Overlap_0
      dsimp only
      rw [decide_eq_true (by omega), cond_true, good_eq a ha, good_eq b hb, spec_has a k ha hk, spec_has b k hb hk, bit2 k hk, w64' (n := (k : Int) + 1) (by omega) (by omega)]
      simp only [Option.bind_some, cond_true, sm]
      rw [w64' (by omega) (by omega)]
      cases h3 : a.testBit k <;> cases h4 : b.testBit k <;> simp [bits, h3, h4])
    (by unfold l_spec_Overlap_0; dsimp only; rw [decide_eq_false (by omega)]; rfl)
  simp only [Int.natCast_zero, sm] at hit
  rw [hit]
  have := overlap_tab ⟨a, ha⟩ ⟨b, hb⟩
  simp only [sm] at this
  rw [this]
  rfl
theorem spec_union (a b : Nat) (ha : a < 32) (hb : b < 32) : m_spec_Union (a : Int) (b : Int) = some ((a ||| b : Nat) : Int) := by
  unfold m_spec_Union
  have hit := iter_up (step := l_spec_Union_0 (a : Int) (b : Int)) (fun k => (sm (bits (fun i => a.testBit i || b.testBit i)) k, (k : Int))) 5 (a := sm (bits (fun i => a.testBit i || b.testBit i)) 5) (fun k hk => by
      have h1 := bits_bd (fun i => a.testBit i || b.testBit i) k (by omega)
      have h2 := pow_bd k hk
      unfold l_spec_Union_0
      dsimp only
      rw [decide_eq_true (by omega), cond_true, good_eq a ha, good_eq b hb, spec_has a k ha hk, spec_has b k hb hk, bit2 k hk, w64' (n := (k : Int) + 1) (by omega) (by omega)]
      simp only [Option.bind_some, cond_true, sm]
      rw [w64' (by omega) (by omega)]
      cases h3 : a.testBit k <;> cases h4 : b.testBit k <;> simp [bits, h3, h4])
    (by unfold l_spec_Union_0; dsimp only; rw [decide_eq_false (by omega)]; rfl)
  simp only [Int.natCast_zero, sm] at hit
  rw [hit]
  have := union_tab ⟨a, ha⟩ ⟨b, hb⟩
  simp only [sm] at this
  rw [this]
  rfl
def badM (l : List Int) (a b : Nat) : Bool := decide (a &&& b = a) && decide (l.getD a 0 > l.getD b 0)
def badS (l : List Int) (a b : Nat) : Bool := decide (a &&& b = 0) && decide (IntKind.i64.wrap (l.getD a 0 + l.getD b 0) > l.getD (a ||| b) 0)
def badC (l : List Int) (a b : Nat) : Bool := decide (IntKind.i64.wrap (l.getD a 0 + l.getD b 0) > IntKind.i64.wrap (l.getD (a ||| b) 0 + l.getD (a &&& b) 0))
def row1 (p : Nat → Nat → Bool) (n a : Nat) : Unit ⊕ (Int × Int × Bool) := match (List.range n).find? (p a) with
  | some b => .inr ((a : Int), (b : Int), true)
  | none => .inl ()
def rows1 (p : Nat → Nat → Bool) (n : Nat) : Unit ⊕ (Int × Int × Bool) := match (List.range n).find? (fun a => ((List.range n).find? (p a)).isSome) with
  | some a => row1 p n a
  | none => .inl ()
def faultF (p : Nat → Nat → Bool) (n : Nat) : Int × Int × Bool := match rows1 p n with
  | .inl _ => (0, 0, false)
  | .inr r => r
theorem nest_rows {outer : Int → Option (Int ⊕ (Unit ⊕ (Int × Int × Bool)))} (p : Nat → Nat → Bool) (n : Nat)
    (ho : ∀ a : Nat, a < n → outer (a : Int) = some (match row1 p n a with
      | .inl _ => .inl ((a + 1 : Nat) : Int)
      | .inr r => .inr (.inr r))) (hd : outer (n : Int) = some (.inr (.inl ()))) : iter outer 0 = some (rows1 p n) := by
  have hit := iter_findc (step := outer) (fun i => (i : Int)) n (fun a => ((List.range n).find? (p a)).isSome) (.inl ()) (fun a => row1 p n a)
    (fun a ha => by
      rw [ho a ha]
      unfold row1
      cases (List.range n).find? (p a) <;> rfl) hd
  simp only [Int.natCast_zero] at hit
  rw [hit]
  unfold rows1
  rfl
theorem and_lt (a b N : Nat) (ha : a < 2 ^ N) : a &&& b < 2 ^ N := Nat.lt_of_le_of_lt Nat.and_le_left ha
theorem spec_fault (l : List Int) (N : Nat) (kd : Int) (p : Nat → Nat → Bool) (hk : (kd = 1 ∧ p = badM l) ∨ (kd = 2 ∧ p = badS l) ∨ (kd = 3 ∧ p = badC l)) (hv : validB (N : Int) l = true) : m_spec_l10Fault (N : Int) l kd = some (faultF p l.length) := by
  obtain ⟨N', hN', _, h2, h3, h4⟩ := valid_nat ((validB_eq _ l).1 hv)
  have hNN : N' = N := by omega
  subst hNN
  have h32 := pow_le32 h2
  have inner : ∀ a, a < l.length → iter (l_spec_l10Fault_1 l kd (a : Int)) 0 = some (row1 p l.length a) := by
    intro a ha
    have hit := iter_findc (step := l_spec_l10Fault_1 l kd (a : Int)) (fun b => (b : Int)) l.length (p a) (.inl ()) (fun b => .inr ((a : Int), (b : Int), true))
      (fun b hb => by
        have o1 : a ||| b < 2 ^ N' := Nat.or_lt_two_pow (by omega) (by omega)
        have o2 : a &&& b < 2 ^ N' := and_lt a b N' (by omega)
        unfold l_spec_l10Fault_1
        rw [decide_eq_true (by omega), cond_true, spec_subset a b (by omega) (by omega), spec_overlap a b (by omega) (by omega), spec_union a b (by omega) (by omega), w64' (n := (b : Int) + 1) (by omega) (by omega)]
        have gA : (0 : Int) ≤ (a : Int) ∧ (a : Int) < (l.length : Int) := by omega
        have gB : (0 : Int) ≤ (b : Int) ∧ (b : Int) < (l.length : Int) := by omega
        have gO : (0 : Int) ≤ ((a ||| b : Nat) : Int) ∧ ((a ||| b : Nat) : Int) < (l.length : Int) := by omega
        have gN : (0 : Int) ≤ ((a &&& b : Nat) : Int) ∧ ((a &&& b : Nat) : Int) < (l.length : Int) := by omega
        simp only [Option.bind_some, getD_nat, grd_pos gA, grd_pos gB, grd_pos gO, grd_pos gN]
        rcases hk with ⟨rfl, rfl⟩ | ⟨rfl, rfl⟩ | ⟨rfl, rfl⟩
        · simp only [badM, beq_self_eq_true, cond_true]
          cases decide (a &&& b = a) <;> cases decide (l.getD a 0 > l.getD b 0) <;> rfl
        · have e1 : ((2 : Int) == 1) = false := by decide
          have e2 : (((a &&& b : Nat) : Int) == 0) = decide (a &&& b = 0) := by
            by_cases h : a &&& b = 0
            · simp [h]
            · have : ¬ ((a &&& b : Nat) : Int) = 0 := by omega
              simp [h]
          simp only [badS, beq_self_eq_true, cond_true, e1, cond_false, e2]
          cases decide (a &&& b = 0) <;> cases decide (IntKind.i64.wrap (l.getD a 0 + l.getD b 0) > l.getD (a ||| b) 0) <;> rfl
        · have e1 : ((3 : Int) == 1) = false := by decide
          have e2 : ((3 : Int) == 2) = false := by decide
          simp only [badC, e1, e2, cond_false]
          cases decide (IntKind.i64.wrap (l.getD a 0 + l.getD b 0) > IntKind.i64.wrap (l.getD (a ||| b) 0 + l.getD (a &&& b) 0)) <;> rfl)
      (by unfold l_spec_l10Fault_1; rw [decide_eq_false (by omega)]; rfl)
    simp only [Int.natCast_zero] at hit
    rw [hit]
    rfl
  have outer := nest_rows (outer := l_spec_l10Fault_0 (N' : Int) l kd) p l.length (fun a ha => by
      unfold l_spec_l10Fault_0
      rw [decide_eq_true (by omega), cond_true, spec_valid _ l (by omega), hv, Option.bind_some, cond_true, inner a ha, w64' (by omega) (by omega)]
      cases row1 p l.length a <;> rfl)
    (by unfold l_spec_l10Fault_0; rw [decide_eq_false (by omega)]; rfl)
  unfold m_spec_l10Fault faultF
  rw [outer]
  cases rows1 p l.length <;> rfl
theorem spec_fault0 (n : Int) (l : List Int) (kd : Int) (hl : l.length ≤ 1048576) (hv : validB n l = false) : m_spec_l10Fault n l kd = some (0, 0, false) := by
  unfold m_spec_l10Fault
  rw [iter_done (a := (.inl () : Unit ⊕ (Int × Int × Bool)))]
  · rfl
  · unfold l_spec_l10Fault_0
    rw [spec_valid n l hl, hv]
    cases decide ((0 : Int) < (l.length : Int)) <;> rfl
theorem impl_faultS (l : List Int) (N : Nat) (hv : validB (N : Int) l = true) : m_impl_SuperadditiveFault (N : Int) l = some (faultF (badS l) l.length) := by
  obtain ⟨N', hN', _, h2, h3, h4⟩ := valid_nat ((validB_eq _ l).1 hv)
  have hNN : N' = N := by omega
  subst hNN
  have h32 := pow_le32 h2
  have inner : ∀ a, a < l.length → iter (l_impl_fault_impl_SuperadditiveFault_1_1 l (N' : Int) l (a : Int)) 0 = some (row1 (badS l) l.length a) := by
    intro a ha
    have hit := iter_findc (step := l_impl_fault_impl_SuperadditiveFault_1_1 l (N' : Int) l (a : Int)) (fun b => (b : Int)) l.length (badS l a) (.inl ()) (fun b => .inr ((a : Int), (b : Int), true))
      (fun b hb => by
        have o1 : a ||| b < 2 ^ N' := Nat.or_lt_two_pow (by omega) (by omega)
        have e2 : (((a &&& b : Nat) : Int) == 0) = decide (a &&& b = 0) := by
          by_cases h : a &&& b = 0
          · simp [h]
          · have : ¬ ((a &&& b : Nat) : Int) = 0 := by omega
            simp [h]
        unfold l_impl_fault_impl_SuperadditiveFault_1_1 m_impl_SuperadditiveFault_1
        rw [decide_eq_true (by omega), cond_true, and2_eq a b (by omega) (by omega), or_eq a b (by omega) (by omega), w64' (n := (b : Int) + 1) (by omega) (by omega), e2]
        simp only [getD_nat]
        rw [grd_pos (p := (0 : Int) ≤ (a : Int) ∧ (a : Int) < (l.length : Int)) (by omega), grd_pos (p := (0 : Int) ≤ (b : Int) ∧ (b : Int) < (l.length : Int)) (by omega), grd_pos (p := (0 : Int) ≤ ((a ||| b : Nat) : Int) ∧ ((a ||| b : Nat) : Int) < (l.length : Int)) (by omega)]
        simp only [badS]
        cases decide (a &&& b = 0) <;> cases decide (IntKind.i64.wrap (l.getD a 0 + l.getD b 0) > l.getD (a ||| b) 0) <;> rfl)
      (by unfold l_impl_fault_impl_SuperadditiveFault_1_1; rw [decide_eq_false (by omega)]; rfl)
    simp only [Int.natCast_zero] at hit
    rw [hit]
    rfl
  have outer := nest_rows (outer := l_impl_fault_impl_SuperadditiveFault_1_0 l (N' : Int) l) (badS l) l.length (fun a ha => by
      unfold l_impl_fault_impl_SuperadditiveFault_1_0
      rw [decide_eq_true (by omega), cond_true, inner a ha, w64' (by omega) (by omega)]
      cases row1 (badS l) l.length a <;> rfl)
    (by unfold l_impl_fault_impl_SuperadditiveFault_1_0; rw [decide_eq_false (by omega)]; rfl)
  unfold m_impl_SuperadditiveFault m_impl_fault_impl_SuperadditiveFault_1
  rw [impl_valid _ l (by omega), hv, Option.bind_some, Bool.not_true, cond_false, outer]
  unfold faultF
  cases rows1 (badS l) l.length <;> rfl
theorem faultS_both (n : Int) (l : List Int) (hl : l.length ≤ 1048576) : ∃ a b c, m_spec_l10Fault n l 2 = some (a, b, c) ∧ m_impl_SuperadditiveFault n l = some (a, b, c) := by
  cases hv : validB n l with
  | false =>
    refine ⟨0, 0, false, spec_fault0 n l 2 hl hv, ?_⟩
    unfold m_impl_SuperadditiveFault m_impl_fault_impl_SuperadditiveFault_1
    rw [impl_valid n l hl, hv]
    rfl
  | true =>
    obtain ⟨N, rfl, _⟩ := valid_nat ((validB_eq n l).1 hv)
    exact ⟨_, _, _, spec_fault l N 2 (badS l) (.inr (.inl ⟨rfl, rfl⟩)) hv, impl_faultS l N hv⟩
theorem law_FnExactIsSuperadditive (n : Int) (l : List Int) (_ : I64 n) (hl : l.length ≤ maxLen ∧ ∀ n ∈ l, I64 n) : m_laws_FnExactIsSuperadditive n l = some true := by
  unfold m_laws_FnExactIsSuperadditive
  rw [sz_game n l _ (by decide) (by decide) hl.1]
  by_cases h : (1048576 : Int) < l.length
  · simp [h]
  · have h0 : ¬ (1048576 : Int) - (l.length : Int) < 0 := by omega
    have hl' : l.length ≤ 1048576 := by omega
    obtain ⟨a, b, c, h1, h2⟩ := faultS_both n l hl'
    cases hv : validB n l <;> simp [h, h0, to_game n l hl', m_spec_IsSuperadditive, m_impl_IsSuperadditive, m_spec_l10Has, h1, h2, spec_valid n l hl', impl_valid n l hl', hv, eq_game n l n l hl' hl']
end Go.Proofs.Ytdobcjgdhgfedaa
