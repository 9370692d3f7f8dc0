/- The plain laws: what the models of FnExactGameOfDividends compute. No condition beyond those that each theorem names. -/
import Derived.Test.YtdobcjgdhgfedaaGEGameOfDividends
import Derived.Test.YtdobcjgdhgfedaaAmC
namespace Go.Proofs.Ytdobcjgdhgfedaa
open Go.AM
theorem to_ints (l : List Int) (hl : l.length ≤ 1048576) : m_laws_toIntS l = some l := by
  unfold m_laws_toIntS
  rw [grd_pos ⟨by omega, rfl, by simp only [room]; omega⟩]
  have h := iter_up (step := l_laws_toIntS_0 l) (fun i => ((i : Int), l.take i ++ List.replicate (l.length - i) 0)) l.length (a := l) (fun i hi => ?_) ?_
  · simp only [List.take_zero, List.nil_append, Nat.sub_zero, Int.ofNat_eq_natCast] at h
    simp only [Int.toNat_natCast]
    rw [show ((0 : Int), List.replicate l.length (0 : Int)) = (((0 : Nat) : Int), List.replicate l.length (0 : Int)) from rfl, h]
    rfl
  · have hi' : (i : Int) < l.length := by omega
    have hlen : ((l.take i ++ List.replicate (l.length - i) (0 : Int)).length : Int) = l.length := by simp; omega
    simp only [l_laws_toIntS_0, hi', decide_true, cond_true]
    rw [grd_pos ⟨by omega, trivial⟩, grd_pos ⟨by omega, by rw [hlen]; exact hi'⟩]
    rw [w64' (by omega) (by omega), Int.toNat_natCast, set_copy l 0 0 i hi]
    rfl
  · simp [l_laws_toIntS_0]
theorem eq_ints (a b : List Int) (ha : a.length ≤ 1048576) (hb : b.length ≤ 1048576) : m_laws_eqIntS a b = some (decide (a = b)) := by
  unfold m_laws_eqIntS
  by_cases hl : a.length = b.length
  · have e : ((a.length : Int) != (b.length : Int)) = false := by simp [hl]
    have hit := iter_all (step := l_laws_eqIntS_0 a b) (fun i => (i : Int)) a.length (fun i => a.getD i 0 == b.getD i 0) (a := .inl ()) (b := .inr false)
      (fun i hi hp => by
        have hi' : (i : Int) < a.length := by omega
        have hi2 : (i : Int) < b.length := by omega
        unfold l_laws_eqIntS_0
        rw [decide_eq_true hi', cond_true, grd_pos ⟨by omega, hi'⟩, grd_pos ⟨by omega, hi2⟩]
        simp only [beq_iff_eq] at hp
        rw [Int.toNat_natCast, hp, w64' (by omega) (by omega), bne_self_eq_false, cond_false]
        rfl)
      (fun i hi hp => by
        have hi' : (i : Int) < a.length := by omega
        have hi2 : (i : Int) < b.length := by omega
        unfold l_laws_eqIntS_0
        rw [decide_eq_true hi', cond_true, grd_pos ⟨by omega, hi'⟩, grd_pos ⟨by omega, hi2⟩]
        rw [Int.toNat_natCast]
        have : (a.getD i 0 != b.getD i 0) = true := by
          simp only [bne, hp, Bool.not_false]
        rw [this]
        rfl)
      (by
        unfold l_laws_eqIntS_0
        rw [decide_eq_false (by omega)]
        rfl)
    rw [e, cond_false]
    simp only [Int.ofNat_eq_natCast, Int.natCast_zero] at hit
    rw [hit]
    by_cases hall : ∀ i, i < a.length → (a.getD i 0 == b.getD i 0) = true
    · have : a = b := eq_of_all 0 hl fun i hi => by simpa using hall i hi
      rw [if_pos hall]
      simp [this]
    · have : ¬ a = b := fun e => hall fun i hi => by rw [e]; simp
      rw [if_neg hall]
      simp [this]
  · have e : ((a.length : Int) != (b.length : Int)) = true := by
      simp only [bne_iff_ne, ne_eq]
      omega
    rw [e]
    have : ¬ a = b := fun e => hl (by rw [e])
    simp [this]
theorem eq_game (n : Int) (l : List Int) (m : Int) (k : List Int) (hl : l.length ≤ 1048576) (hk : k.length ≤ 1048576) : m_laws_eqGame n l m k = some (decide (n = m ∧ l = k)) := by
  unfold m_laws_eqGame
  rw [eq_ints l k hl hk]
  by_cases h1 : n = m
  · by_cases h2 : l = k
    · simp [h1, h2]
    · simp [h1, h2]
  · have : (n != m) = true := by simpa using h1
    simp [h1, this]
def Valid (n : Int) (l : List Int) : Prop := (1 ≤ n ∧ n ≤ 5) ∧ (l.length : Int) = 2 ^ n.toNat ∧ l.getD 0 0 = 0 ∧ ∀ i, i < l.length → -500 ≤ l.getD i 0 ∧ l.getD i 0 ≤ 500
open Classical in
noncomputable def validB (n : Int) (l : List Int) : Bool := decide (Valid n l)
theorem in_eq (a b c : Int) : m_spec_l1In a b c = some (decide (b ≤ a ∧ a ≤ c)) := by
  unfold m_spec_l1In
  by_cases h : a ≥ b
  · have h' : b ≤ a := h
    simp [h, h']
  · have h' : ¬ b ≤ a := h
    simp [h, h']
theorem within_eq (a b c : Int) : m_impl_within a b c = some (decide (b ≤ a ∧ a ≤ c)) := in_eq a b c
theorem count_eq (n : Int) (h1 : 1 ≤ n) (h2 : n ≤ 5) : m_spec_CountCoalitions n = some (2 ^ n.toNat) := by
  unfold m_spec_CountCoalitions
  rw [in_eq]
  have hb : decide ((0 : Int) ≤ n ∧ n ≤ 5) = true := by simp; omega
  rw [hb, Option.bind_some, Bool.not_true, cond_false]
  have hit := iter_up (step := l_spec_CountCoalitions_0 n) (fun i => ((2 : Int) ^ i, (i : Int))) n.toNat (a := 2 ^ n.toNat) (fun i hi => by
      have hlt : (i : Int) < n := by omega
      have hi5 : i < 5 := by omega
      unfold l_spec_CountCoalitions_0
      simp only [hlt, decide_true, cond_true]
      have hp : (2 : Int) ^ i ≤ 16 := by
        have : i = 0 ∨ i = 1 ∨ i = 2 ∨ i = 3 ∨ i = 4 := by omega
        rcases this with rfl | rfl | rfl | rfl | rfl <;> decide
      have hp0 : (0 : Int) < 2 ^ i := Int.pow_pos (by decide)
      rw [w64' (by omega) (by omega), w64' (by omega) (by omega)]
      simp [Int.pow_succ])
    (by
      unfold l_spec_CountCoalitions_0
      have : ¬ ((n.toNat : Int) < n) := by omega
      simp only [this, decide_false, cond_false])
  simp only [Int.pow_zero, Int.ofNat_eq_natCast, Int.natCast_zero] at hit
  rw [hit]
  rfl
theorem spec_valid (n : Int) (l : List Int) (hl : l.length ≤ 1048576) : m_spec_IsValidGame n l = some (validB n l) := by
  unfold m_spec_IsValidGame
  have hit := iter_first (step := l_spec_IsValidGame_0 l) (fun i => (i : Int)) l.length (fun i => decide (-500 ≤ l.getD i 0 ∧ l.getD i 0 ≤ 500)) (a := .inl ()) (fun _ => .inr false)
    (fun i hi hp => by
      have hi' : (i : Int) < l.length := by omega
      unfold l_spec_IsValidGame_0
      rw [decide_eq_true hi', cond_true, grd_pos ⟨by omega, hi'⟩, in_eq, Int.toNat_natCast, hp, Option.bind_some, Bool.not_true, cond_false, w64' (by omega) (by omega)]
      rfl)
    (fun i hi hp => by
      have hi' : (i : Int) < l.length := by omega
      unfold l_spec_IsValidGame_0
      rw [decide_eq_true hi', cond_true, grd_pos ⟨by omega, hi'⟩, in_eq, Int.toNat_natCast, hp]
      rfl)
    (by
      unfold l_spec_IsValidGame_0
      rw [decide_eq_false (by omega)]
      rfl)
  simp only [Int.ofNat_eq_natCast, Int.natCast_zero] at hit
  rcases hit with ⟨h1, h2⟩ | ⟨i, h1, h2, h3⟩
  · rw [h2]
    simp only [Option.bind_some]
    rw [in_eq]
    by_cases hn : 1 ≤ n ∧ n ≤ 5
    · rw [decide_eq_true hn, Option.bind_some, cond_true, count_eq n hn.1 hn.2, Option.bind_some]
      by_cases hlen : (l.length : Int) = 2 ^ n.toNat
      · have hpos : (0 : Int) < 2 ^ n.toNat := Int.pow_pos (by decide)
        have e1 : ((l.length : Int) == 2 ^ n.toNat) = true := by simpa using hlen
        rw [e1, cond_true, grd_pos ⟨by omega, by omega⟩]
        congr 1
        have h0 : (0 : Int).toNat = 0 := rfl
        rw [h0]
        by_cases hz : l.getD 0 0 = 0
        · have hv : Valid n l := ⟨hn, hlen, hz, fun i hi => by simpa using h1 i hi⟩
          rw [hz]
          simp [validB, hv]
        · have hv : ¬ Valid n l := fun h => hz h.2.2.1
          simp only [validB, hv, decide_false]
          simpa using hz
      · have e1 : ((l.length : Int) == 2 ^ n.toNat) = false := by simpa using hlen
        have hv : ¬ Valid n l := fun h => hlen h.2.1
        rw [e1, cond_false]
        simp [validB, hv]
    · have hv : ¬ Valid n l := fun h => hn h.1
      rw [decide_eq_false hn]
      simp [validB, hv]
  · rw [h3]
    have hv : ¬ Valid n l := fun h => by
      have := h.2.2.2 i h1
      simp only [decide_eq_false_iff_not] at h2
      exact h2 this
    simp [validB, hv]
theorem contains_eq (l : List Int) (hl : l.length ≤ 1048576) : ∃ r, m_slices_ContainsFunc_int_int_impl_IsValidGame_1 l = some r ∧ (r = false ↔ ∀ i, i < l.length → -500 ≤ l.getD i 0 ∧ l.getD i 0 ≤ 500) := by
  unfold m_slices_ContainsFunc_int_int_impl_IsValidGame_1 m_slices_IndexFunc_int_int_impl_IsValidGame_1
  have hm : ∀ x, m_impl_IsValidGame_1 x = some (!decide (-500 ≤ x ∧ x ≤ 500)) := fun x => by
    unfold m_impl_IsValidGame_1
    rw [within_eq]
    rfl
  have hit := iter_first (step := l_slices_IndexFunc_int_int_impl_IsValidGame_1_0 l) (fun i => (i : Int)) l.length (fun i => decide (-500 ≤ l.getD i 0 ∧ l.getD i 0 ≤ 500)) (a := .inl ()) (fun i => .inr (i : Int))
    (fun i hi hp => by
      have hi' : (i : Int) < l.length := by omega
      unfold l_slices_IndexFunc_int_int_impl_IsValidGame_1_0
      rw [decide_eq_true hi', cond_true, grd_pos ⟨by omega, hi'⟩, hm, Int.toNat_natCast, hp, Option.bind_some, Bool.not_true, cond_false, w64' (by omega) (by omega)]
      rfl)
    (fun i hi hp => by
      have hi' : (i : Int) < l.length := by omega
      unfold l_slices_IndexFunc_int_int_impl_IsValidGame_1_0
      rw [decide_eq_true hi', cond_true, grd_pos ⟨by omega, hi'⟩, hm, Int.toNat_natCast, hp]
      rfl)
    (by
      unfold l_slices_IndexFunc_int_int_impl_IsValidGame_1_0
      rw [decide_eq_false (by omega)]
      rfl)
  simp only [Int.ofNat_eq_natCast, Int.natCast_zero] at hit
  rcases hit with ⟨h1, h2⟩ | ⟨i, h1, h2, h3⟩
  · rw [h2]
    exact ⟨false, rfl, by simpa using h1⟩
  · rw [h3]
    refine ⟨true, by simp, ?_⟩
    simp only [reduceCtorEq, false_iff]
    intro h
    simp only [decide_eq_false_iff_not] at h2
    exact h2 (h i h1)
theorem impl_valid (n : Int) (l : List Int) (hl : l.length ≤ 1048576) : m_impl_IsValidGame n l = some (validB n l) := by
  unfold m_impl_IsValidGame
  rw [within_eq]
  by_cases hn : 1 ≤ n ∧ n ≤ 5
  · rw [decide_eq_true hn, Option.bind_some, Bool.not_true, cond_false, grd_pos (by omega)]
    have hw : IntKind.i64.wrap ((1 : Int) * 2 ^ (min n.toNat 64)) = 2 ^ n.toNat := by
      have : n = 1 ∨ n = 2 ∨ n = 3 ∨ n = 4 ∨ n = 5 := by omega
      rcases this with rfl | rfl | rfl | rfl | rfl <;> decide
    rw [hw]
    by_cases hlen : (l.length : Int) = 2 ^ n.toNat
    · have hpos : (0 : Int) < 2 ^ n.toNat := Int.pow_pos (by decide)
      have e1 : ((l.length : Int) != 2 ^ n.toNat) = false := by simpa using hlen
      rw [e1, cond_false, grd_pos ⟨by omega, by omega⟩]
      have h0 : (0 : Int).toNat = 0 := rfl
      rw [h0]
      by_cases hz : l.getD 0 0 = 0
      · have e2 : (l.getD 0 0 != 0) = false := by simpa using hz
        rw [e2, cond_false]
        obtain ⟨r, h1, h2⟩ := contains_eq l hl
        rw [h1, Option.bind_some]
        congr 1
        by_cases hr : r = false
        · have hv : Valid n l := ⟨hn, hlen, hz, h2.1 hr⟩
          simp [validB, hv, hr]
        · have hv : ¬ Valid n l := fun h => hr (h2.2 h.2.2.2)
          have hr' : r = true := by cases r <;> simp at hr ⊢
          simp [validB, hv, hr']
      · have e2 : (l.getD 0 0 != 0) = true := by simpa using hz
        have hv : ¬ Valid n l := fun h => hz h.2.2.1
        rw [e2]
        simp [validB, hv]
    · have e1 : ((l.length : Int) != 2 ^ n.toNat) = true := by simpa using hlen
      have hv : ¬ Valid n l := fun h => hlen h.2.1
      rw [e1]
      simp [validB, hv]
  · have hv : ¬ Valid n l := fun h => hn h.1
    rw [decide_eq_false hn]
    simp [validB, hv]
theorem iter_find {S A : Type} {step : S → Option (S ⊕ A)} (st : Nat → S) (n : Nat) (p : Nat → Bool) (a : A) (b : Nat → A)
    (hs : ∀ i, i < n → step (st i) = some (if p i = true then .inr (b i) else .inl (st (i + 1)))) (hd : step (st n) = some (.inr a)) :
    iter step (st 0) = some (match (List.range n).find? p with
      | some i => b i
      | none => a) := by
  have key : ∀ k, k ≤ n → iter step (st (n - k)) = some (match (List.range' (n - k) k).find? p with
      | some i => b i
      | none => a) := by
    intro k
    induction k with
    | zero => intro _; simpa using iter_done hd
    | succ k ih =>
      intro hk
      have h1 := hs (n - (k + 1)) (by omega)
      rw [List.range'_succ, List.find?_cons]
      cases hp : p (n - (k + 1)) with
      | true =>
        rw [if_pos hp] at h1
        exact iter_done h1
      | false =>
        rw [if_neg (by simp [hp])] at h1
        rw [iter_next h1, show n - (k + 1) + 1 = n - k by omega]
        exact ih (by omega)
  have := key n (Nat.le_refl _)
  rw [Nat.sub_self, ← List.range_eq_range'] at this
  exact this
def tab {α : Type} (f : Nat → α) (n : Nat) : List α := (List.range n).map f
theorem tab_succ {α : Type} (f : Nat → α) (n : Nat) : tab f (n + 1) = tab f n ++ [f n] := by simp [tab, List.range_succ]
theorem tab_length {α : Type} (f : Nat → α) (n : Nat) : (tab f n).length = n := by simp [tab]
theorem tab_getD {α : Type} (f : Nat → α) (n : Nat) (d : α) (i : Nat) (h : i < n) : (tab f n).getD i d = f i := by
  simp [tab, List.getD, List.getElem?_map, List.getElem?_range h]
theorem set_tab {α : Type} (f : Nat → α) (l : List α) (i : Nat) (h : i < l.length) : (tab f i ++ l.drop i).set i (f i) = tab f (i + 1) ++ l.drop (i + 1) := by
  rw [List.set_append]
  have h1 : ¬ i < (tab f i).length := by rw [tab_length]; omega
  rw [if_neg h1, tab_length, Nat.sub_self, tab_succ, List.drop_eq_getElem_cons h]
  simp only [List.set_cons_zero, List.append_assoc, List.singleton_append]
theorem getD_nat {α : Type} (l : List α) (i : Nat) (d : α) : l.getD (i : Int).toNat d = l.getD i d := by rw [Int.toNat_natCast]
theorem mark_ints (l : List Int) (k : Int) (h1 : 0 ≤ k) (h2 : k ≤ 1000000000000) (hl : l.length ≤ 1000000000000) : m_laws_markIntS_io1 l k = some (k + l.length, tab (fun i => k + (i : Int)) l.length) := by
  unfold m_laws_markIntS_io1
  have hit := iter_up (step := l_laws_markIntS_io1_0) (fun i => (k + (i : Int), (i : Int), tab (fun i => k + (i : Int)) i ++ l.drop i)) l.length (a := (k + l.length, tab (fun i => k + (i : Int)) l.length)) (fun i hi => by
      have hlen : (tab (fun i => k + (i : Int)) i ++ l.drop i).length = l.length := by simp [tab_length]; omega
      unfold l_laws_markIntS_io1_0
      simp only [hlen]
      rw [decide_eq_true (by omega), cond_true, grd_pos ⟨by omega, by omega⟩, w64' (by omega) (by omega), w64' (by omega) (by omega), Int.toNat_natCast, set_tab (fun i => k + (i : Int)) l i hi]
      simp [Int.add_assoc])
    (by
      unfold l_laws_markIntS_io1_0
      simp [tab_length])
  simp only [Int.natCast_zero, Int.add_zero, List.drop_zero, tab, List.range_zero, List.map_nil, List.nil_append] at hit
  rw [hit]
  rfl
theorem held_ints (k : Int) (n : Nat) (h1 : 0 ≤ k) (h2 : k ≤ 1000000000000) (hn : n ≤ 1000000000000) : m_laws_heldIntS (tab (fun i => k + (i : Int)) n) k = some (k + n) := by
  unfold m_laws_heldIntS
  have hit := iter_up (step := l_laws_heldIntS_0 (tab (fun i => k + (i : Int)) n)) (fun i => (k + (i : Int), (i : Int))) n (a := .inl (k + n)) (fun i hi => by
      unfold l_laws_heldIntS_0
      simp only [tab_length]
      rw [decide_eq_true (by omega), cond_true, grd_pos ⟨by omega, by omega⟩, w64' (by omega) (by omega), w64' (by omega) (by omega), getD_nat, tab_getD _ _ _ _ hi]
      simp [Int.add_assoc])
    (by
      unfold l_laws_heldIntS_0
      simp [tab_length])
  simp only [Int.natCast_zero, Int.add_zero] at hit
  rw [hit]
  rfl
theorem mark_game (n : Int) (l : List Int) (k : Int) (h1 : 0 ≤ k) (h2 : k ≤ 1000000000000) (hl : l.length ≤ 1000000000000) : m_laws_markGame_io1 n l k = some (k + l.length, tab (fun i => k + (i : Int)) l.length) := by
  unfold m_laws_markGame_io1
  rw [mark_ints l k h1 h2 hl]
  rfl
theorem held_game (n : Int) (k : Int) (m : Nat) (h1 : 0 ≤ k) (h2 : k ≤ 1000000000000) (hl : m ≤ 1000000000000) : m_laws_heldGame n (tab (fun i => k + (i : Int)) m) k = some (k + m) := by
  unfold m_laws_heldGame
  rw [held_ints k m h1 h2 hl, Option.bind_some, decide_eq_false (by omega), cond_false]
instance : DecidableEq Q := fun a b =>
  if h1 : a.num = b.num then
    if h2 : a.den = b.den then isTrue (by cases a; cases b; simp only at h1 h2; rw [h1, h2])
    else isFalse (fun h => h2 (by rw [h]))
  else isFalse (fun h => h1 (by rw [h]))
theorem count0 (n : Nat) (h : n ≤ 5) : m_spec_CountCoalitions (n : Int) = some (2 ^ n) := by
  rcases Nat.eq_zero_or_pos n with rfl | h1
  · unfold m_spec_CountCoalitions
    rw [in_eq, decide_eq_true (by omega), Option.bind_some, Bool.not_true, cond_false]
    rw [iter_done (a := (1 : Int)) (by simp [l_spec_CountCoalitions_0])]
    rfl
  · rw [count_eq (n : Int) (by omega) (by omega)]
    simp
theorem bit2 (k : Nat) (h : k < 5) : m_spec_l2Bit (k : Int) = some (2 ^ k) := by
  unfold m_spec_l2Bit
  rw [count0 k (by omega)]
  rfl
theorem has_tab : ∀ s : Fin 32, ∀ k : Fin 5, ((IntKind.i64.wrap (((s.val : Nat) : Int).tdiv (2 ^ k.val))).tmod 2 == 1) = s.val.testBit k.val := by decide +kernel
theorem shl_tab : ∀ k : Fin 6, IntKind.i64.wrap (1 * 2 ^ (min ((k.val : Nat) : Int).toNat 64)) = ((2 ^ k.val : Nat) : Int) := by decide +kernel
theorem andNot_tab : ∀ a : Fin 32, ∀ b : Fin 32, (bitsOf .andNot .i64 ((a.val : Nat) : Int) ((b.val : Nat) : Int) == 0) = decide (a.val &&& b.val = a.val) := by decide +kernel
theorem shl_eq (k : Nat) (hk : k < 6) : IntKind.i64.wrap (1 * 2 ^ (min (k : Int).toNat 64)) = ((2 ^ k : Nat) : Int) := shl_tab ⟨k, hk⟩
theorem andNot_eq (a b : Nat) (ha : a < 32) (hb : b < 32) : (bitsOf .andNot .i64 (a : Int) (b : Int) == 0) = decide (a &&& b = a) := andNot_tab ⟨a, ha⟩ ⟨b, hb⟩
theorem spec_has (s k : Nat) (hs : s < 32) (hk : k < 5) : m_spec_HasPlayer (s : Int) (k : Int) = some (s.testBit k) := by
  unfold m_spec_HasPlayer
  have hp : (0 : Int) < 2 ^ k := Int.pow_pos (by decide)
  rw [in_eq, decide_eq_true (by omega), Option.bind_some, cond_true, decide_eq_true (by omega), cond_true, bit2 k hk, Option.bind_some, grd_pos (by omega), grd_pos (by decide)]
  rw [← has_tab ⟨s, hs⟩ ⟨k, hk⟩]
theorem pow_le32 {N : Nat} (h : N ≤ 5) : 2 ^ N ≤ 32 := by
  have : N = 0 ∨ N = 1 ∨ N = 2 ∨ N = 3 ∨ N = 4 ∨ N = 5 := by omega
  rcases this with rfl | rfl | rfl | rfl | rfl | rfl <;> decide
theorem spec_subset (a b : Nat) (ha : a < 32) (hb : b < 32) : m_spec_IsSubset (a : Int) (b : Int) = some (decide (a &&& b = a)) := by
  unfold m_spec_IsSubset
  have hit := iter_find (step := l_spec_IsSubset_0 (a : Int) (b : Int)) (fun k => (k : Int)) 5 (fun k => a.testBit k && !b.testBit k) (.inl ()) (fun _ => .inr false)
    (fun k hk => by
      unfold l_spec_IsSubset_0
      rw [decide_eq_true (by omega), cond_true, spec_has a k ha hk, spec_has b k hb hk, w64' (by omega) (by omega)]
      simp only [Option.bind_some]
      cases a.testBit k <;> cases b.testBit k <;> simp)
    (by unfold l_spec_IsSubset_0; rw [decide_eq_false (by omega)]; rfl)
  simp only [Int.natCast_zero] at hit
  rw [hit]
  have key : ∀ a : Fin 32, ∀ b : Fin 32, ((List.range 5).find? (fun k => a.val.testBit k && !b.val.testBit k)).isNone = decide (a.val &&& b.val = a.val) := by decide +kernel
  have hk := key ⟨a, ha⟩ ⟨b, hb⟩
  simp only at hk
  rw [← hk]
  cases (List.range 5).find? (fun k => a.testBit k && !b.testBit k) with
  | some _ => rfl
  | none =>
    simp only [Option.bind_some, m_spec_l2Good, in_eq]
    rw [decide_eq_true (by omega), decide_eq_true (by omega)]
    rfl
theorem impl_count (n : Nat) (h : n ≤ 5) : m_impl_CountCoalitions (n : Int) = some ((2 ^ n : Nat) : Int) := by
  unfold m_impl_CountCoalitions
  rw [within_eq, decide_eq_true (by omega), Option.bind_some, Bool.not_true, cond_false, grd_pos (by omega), shl_eq n (by omega)]
theorem first_bad (n : Nat) (P : Nat → Prop) : (∀ i, i < n → P i) ∨ ∃ t, t < n ∧ ¬ P t ∧ ∀ i, i < t → P i := by
  by_cases h : ∀ i, i < n → P i
  · exact .inl h
  · have h' : ∃ t, t < n ∧ ¬ P t := by
      simp only [Classical.not_forall] at h
      obtain ⟨i, h1, h2⟩ := h
      exact ⟨i, h1, h2⟩
    obtain ⟨t, ⟨h1, h2⟩, h3⟩ := least h'
    refine .inr ⟨t, h1, h2, fun i hi => ?_⟩
    by_cases hp : P i
    · exact hp
    · have := h3 i ⟨by omega, hp⟩
      omega
theorem in_find (l : List Int) (lo hi : Int) {R : Type} (step : Int → Option (Int ⊕ (Unit ⊕ R))) (b : Nat → R)
    (hs : ∀ i : Nat, i < l.length → step (i : Int) = some (bif decide (lo ≤ l.getD i 0 ∧ l.getD i 0 ≤ hi) then .inl ((i + 1 : Nat) : Int) else .inr (.inr (b i)))) (hd : step (l.length : Int) = some (.inr (.inl ()))) :
    ((∀ i, i < l.length → lo ≤ l.getD i 0 ∧ l.getD i 0 ≤ hi) ∧ iter step 0 = some (.inl ())) ∨ ∃ t, t < l.length ∧ ¬ (lo ≤ l.getD t 0 ∧ l.getD t 0 ≤ hi) ∧ (∀ i, i < t → lo ≤ l.getD i 0 ∧ l.getD i 0 ≤ hi) ∧ iter step 0 = some (.inr (b t)) := by
  rcases first_bad l.length (fun i => lo ≤ l.getD i 0 ∧ l.getD i 0 ≤ hi) with h | ⟨t, h1, h2, h3⟩
  · refine .inl ⟨h, ?_⟩
    have := iter_up (step := step) (fun i => (i : Int)) l.length (a := .inl ()) (fun i hi => by rw [hs i hi, decide_eq_true (h i hi)]; rfl) hd
    simpa only [Int.natCast_zero] using this
  · refine .inr ⟨t, h1, h2, h3, ?_⟩
    have := iter_up (step := step) (fun i => (i : Int)) t (a := .inr (b t)) (fun i hi => by rw [hs i (by omega), decide_eq_true (h3 i hi)]; rfl) (by rw [hs t h1, decide_eq_false h2]; rfl)
    simpa only [Int.natCast_zero] using this
def gd (l : List Int) (s : Nat) : Nat → Int
  | 0 => 0
  | t + 1 => if t &&& s = t then IntKind.i64.wrap (gd l s t + l.getD t 0) else gd l s t
theorem gd_stop (l : List Int) (s : Nat) : ∀ k, gd l s (s + 1 + k) = gd l s (s + 1)
  | 0 => rfl
  | k + 1 => by
    have h : ¬ (s + 1 + k) &&& s = s + 1 + k := fun e => by
      have := Nat.and_le_right (n := s + 1 + k) (m := s)
      omega
    show (if (s + 1 + k) &&& s = s + 1 + k then _ else gd l s (s + 1 + k)) = _
    rw [if_neg h]
    exact gd_stop l s k
theorem len_pow {n : Int} {l : List Int} (h1 : 1 ≤ n) (h2 : n ≤ 5) (h : (l.length : Int) = 2 ^ n.toNat) : ∃ N : Nat, n = (N : Int) ∧ 1 ≤ N ∧ N ≤ 5 ∧ l.length = 2 ^ N ∧ l.length ≤ 32 := by
  have hn : n = 1 ∨ n = 2 ∨ n = 3 ∨ n = 4 ∨ n = 5 := by omega
  refine ⟨n.toNat, by omega, by omega, by omega, ?_, ?_⟩
  · rcases hn with rfl | rfl | rfl | rfl | rfl <;> simp at h ⊢ <;> omega
  · rcases hn with rfl | rfl | rfl | rfl | rfl <;> simp at h ⊢ <;> omega
theorem made_gd (N : Nat) (l : List Int) (h2 : N ≤ 5) (h3 : l.length = 2 ^ N) (hn : I64 (N : Int)) : m_impl_made_impl_GameOfDividends_1 (N : Int) l = some (if validB (N : Int) (tab (fun s => gd l s l.length) l.length) = true then ((N : Int), true, tab (fun s => gd l s l.length) l.length) else (0, false, [])) := by
  have h32 := pow_le32 h2
  have inner : ∀ s, s < l.length → m_impl_GameOfDividends_1 (s : Int) l = some (gd l s l.length) := by
    intro s hs
    unfold m_impl_GameOfDividends_1
    have hit := iter_up (step := l_impl_GameOfDividends_1_0 (s : Int) l) (fun t => (gd l s t, (t : Int))) l.length (a := gd l s l.length) (fun t ht => by
        unfold l_impl_GameOfDividends_1_0
        dsimp only
        rw [decide_eq_true (by omega), cond_true, andNot_eq t s (by omega) (by omega), grd_pos (by omega), w64' (n := (t : Int) + 1) (by omega) (by omega), getD_nat]
        simp only [gd]
        by_cases h : t &&& s = t <;> simp [h])
      (by unfold l_impl_GameOfDividends_1_0; dsimp only; rw [decide_eq_false (by omega)]; rfl)
    simp only [Int.natCast_zero, gd] at hit
    rw [hit]
    rfl
  unfold m_impl_made_impl_GameOfDividends_1
  have s2 := iter_up (step := l_impl_made_impl_GameOfDividends_1_0 l ((2 ^ N : Nat) : Int)) (fun i => ((i : Int), tab (fun s => gd l s l.length) i)) l.length (a := tab (fun s => gd l s l.length) l.length) (fun i hi => by
      unfold l_impl_made_impl_GameOfDividends_1_0
      dsimp only
      rw [decide_eq_true (by omega), cond_true, inner i hi, Option.bind_some, grd_pos (by simp only [tab_length, List.length_singleton, room]; omega), w64' (n := (i : Int) + 1) (by omega) (by omega), tab_succ]
      rfl)
    (by
      unfold l_impl_made_impl_GameOfDividends_1_0
      dsimp only
      rw [decide_eq_false (by omega)]
      rfl)
  have e0 : tab (fun s => gd l s l.length) 0 = [] := rfl
  simp only [Int.natCast_zero, e0] at s2
  have hb : (tab (fun s => gd l s l.length) l.length).length ≤ 1048576 := by rw [tab_length]; omega
  rw [impl_count N h2, Option.bind_some, s2, Option.bind_some]
  dsimp only
  rw [impl_valid _ _ hb]
  cases validB (N : Int) (tab (fun s => gd l s l.length) l.length) <;> rfl
theorem spec_gd (N : Nat) (l : List Int) (h1 : 1 ≤ N) (h2 : N ≤ 5) (h3 : l.length = 2 ^ N) (hok : ∀ i, i < l.length → -100000 ≤ l.getD i 0 ∧ l.getD i 0 ≤ 100000) :
    m_spec_GameOfDividends (N : Int) l = some (if validB (N : Int) (tab (fun s => gd l s l.length) l.length) = true then ((N : Int), true, tab (fun s => gd l s l.length) l.length) else (0, false, [])) := by
  have h32 := pow_le32 h2
  have inner : ∀ s, s < l.length → iter (l_spec_GameOfDividends_1 l (s : Int)) ((0 : Int), (0 : Int)) = some (.inl (gd l s l.length)) := by
    intro s hs
    have hit := iter_up (step := l_spec_GameOfDividends_1 l (s : Int)) (fun t => (gd l s t, (t : Int))) (s + 1) (a := .inl (gd l s (s + 1))) (fun t ht => by
        unfold l_spec_GameOfDividends_1
        dsimp only
        have hg : (0 : Int) ≤ (t : Int) ∧ (t : Int) < (l.length : Int) := by omega
        rw [decide_eq_true (by omega), cond_true, getD_nat, in_eq, decide_eq_true (hok t (by omega)), spec_subset t s (by omega) (by omega), w64' (n := (t : Int) + 1) (by omega) (by omega)]
        simp only [Option.bind_some, Bool.not_true, cond_false, gd, grd_pos hg]
        by_cases h : t &&& s = t <;> simp [h])
      (by unfold l_spec_GameOfDividends_1; dsimp only; rw [decide_eq_false (by omega)]; rfl)
    simp only [Int.natCast_zero, gd] at hit
    rw [hit]
    have e := gd_stop l s (l.length - (s + 1))
    rw [show s + 1 + (l.length - (s + 1)) = l.length by omega] at e
    rw [e]
    rfl
  have s1 := iter_up (step := l_spec_GameOfDividends_0 l) (fun i => ((i : Int), tab (fun s => gd l s l.length) i)) l.length (a := .inl (tab (fun s => gd l s l.length) l.length)) (fun i hi => by
      unfold l_spec_GameOfDividends_0
      dsimp only
      rw [decide_eq_true (by omega), cond_true, inner i hi, Option.bind_some]
      dsimp only
      rw [grd_pos (by simp only [tab_length, List.length_singleton, room]; omega), w64' (n := (i : Int) + 1) (by omega) (by omega), tab_succ]
      rfl)
    (by
      unfold l_spec_GameOfDividends_0
      dsimp only
      rw [decide_eq_false (by omega)]
      rfl)
  have e0 : tab (fun s => gd l s l.length) 0 = [] := rfl
  simp only [Int.natCast_zero, e0] at s1
  have hb : (tab (fun s => gd l s l.length) l.length).length ≤ 1048576 := by rw [tab_length]; omega
  have hne : ((l.length : Int) != 2 ^ N) = false := by
    rw [h3]
    simp
  unfold m_spec_GameOfDividends
  rw [in_eq, decide_eq_true (by omega), Option.bind_some, Bool.not_true, cond_false, count0 N h2, Option.bind_some, hne, cond_false, s1, Option.bind_some]
  dsimp only
  rw [spec_valid _ _ hb]
  cases validB (N : Int) (tab (fun s => gd l s l.length) l.length) <;> rfl
theorem spec_gd_bad (N : Nat) (l : List Int) (h1 : 1 ≤ N) (h2 : N ≤ 5) (h3 : l.length = 2 ^ N) (t0 : Nat) (ht0 : t0 < l.length) (hbad : ¬ (-100000 ≤ l.getD t0 0 ∧ l.getD t0 0 ≤ 100000)) (hok : ∀ i, i < t0 → -100000 ≤ l.getD i 0 ∧ l.getD i 0 ≤ 100000) :
    m_spec_GameOfDividends (N : Int) l = some (0, false, []) := by
  have h32 := pow_le32 h2
  have stp : ∀ s t, s < l.length → t < t0 → t ≤ s → l_spec_GameOfDividends_1 l (s : Int) (gd l s t, (t : Int)) = some (.inl (gd l s (t + 1), ((t + 1 : Nat) : Int))) := by
    intro s t hs ht hts
    unfold l_spec_GameOfDividends_1
    dsimp only
    have hg : (0 : Int) ≤ (t : Int) ∧ (t : Int) < (l.length : Int) := by omega
    rw [decide_eq_true (by omega), cond_true, getD_nat, in_eq, decide_eq_true (hok t (by omega)), spec_subset t s (by omega) (by omega), w64' (n := (t : Int) + 1) (by omega) (by omega)]
    simp only [Option.bind_some, Bool.not_true, cond_false, gd, grd_pos hg]
    by_cases h : t &&& s = t <;> simp [h]
  have inner : ∀ s, s < t0 → iter (l_spec_GameOfDividends_1 l (s : Int)) ((0 : Int), (0 : Int)) = some (.inl (gd l s (s + 1))) := by
    intro s hs
    have hit := iter_up (step := l_spec_GameOfDividends_1 l (s : Int)) (fun t => (gd l s t, (t : Int))) (s + 1) (a := .inl (gd l s (s + 1))) (fun t ht => stp s t (by omega) (by omega) (by omega))
      (by unfold l_spec_GameOfDividends_1; dsimp only; rw [decide_eq_false (by omega)]; rfl)
    simpa only [Int.natCast_zero, gd] using hit
  have innerb : iter (l_spec_GameOfDividends_1 l (t0 : Int)) ((0 : Int), (0 : Int)) = some (.inr (0, false, [])) := by
    have hit := iter_up (step := l_spec_GameOfDividends_1 l (t0 : Int)) (fun t => (gd l t0 t, (t : Int))) t0 (a := .inr (0, false, [])) (fun t ht => stp t0 t ht0 ht (by omega))
      (by
        unfold l_spec_GameOfDividends_1
        dsimp only
        rw [decide_eq_true (by omega), cond_true, grd_pos (by omega), getD_nat, in_eq, decide_eq_false hbad]
        rfl)
    simpa only [Int.natCast_zero, gd] using hit
  have s1 := iter_up (step := l_spec_GameOfDividends_0 l) (fun i => ((i : Int), tab (fun s => gd l s (s + 1)) i)) t0 (a := .inr (0, false, [])) (fun i hi => by
      unfold l_spec_GameOfDividends_0
      dsimp only
      rw [decide_eq_true (by omega), cond_true, inner i hi, Option.bind_some]
      dsimp only
      rw [grd_pos (by simp only [tab_length, List.length_singleton, room]; omega), w64' (n := (i : Int) + 1) (by omega) (by omega), tab_succ]
      rfl)
    (by
      unfold l_spec_GameOfDividends_0
      dsimp only
      rw [decide_eq_true (by omega), cond_true, innerb]
      rfl)
  have e0 : tab (fun s => gd l s (s + 1)) 0 = [] := rfl
  simp only [Int.natCast_zero, e0] at s1
  have hne : ((l.length : Int) != 2 ^ N) = false := by
    rw [h3]
    simp
  unfold m_spec_GameOfDividends
  rw [in_eq, decide_eq_true (by omega), Option.bind_some, Bool.not_true, cond_false, count0 N h2, Option.bind_some, hne, cond_false, s1]
  rfl
theorem gd_both (n : Int) (l : List Int) (hn : I64 n) (hl : l.length ≤ 1048576) : ∃ x b r, r.length ≤ 1048576 ∧ m_spec_GameOfDividends n l = some (x, b, r) ∧ m_impl_GameOfDividends n l = some (x, b, r) := by
  by_cases h : 1 ≤ n ∧ n ≤ 5
  · by_cases hlen : (l.length : Int) = 2 ^ n.toNat
    · obtain ⟨N, rfl, h1, h2, h3, h4⟩ := len_pow h.1 h.2 hlen
      have hck := in_find l (-100000) 100000 (l_impl_GameOfDividends_0 l) (fun _ => ((0 : Int), false, ([] : List Int)))
        (fun i hi => by
          unfold l_impl_GameOfDividends_0
          rw [decide_eq_true (by omega), cond_true, grd_pos (by omega), getD_nat, within_eq, Option.bind_some, w64' (by omega) (by omega)]
          cases decide (-100000 ≤ l.getD i 0 ∧ l.getD i 0 ≤ 100000) <;> rfl)
        (by unfold l_impl_GameOfDividends_0; rw [decide_eq_false (by omega)]; rfl)
      have hne : ((l.length : Int) != ((2 ^ N : Nat) : Int)) = false := by
        rw [h3]
        simp
      unfold m_impl_GameOfDividends
      rw [within_eq, decide_eq_true h, Option.bind_some, Bool.not_true, cond_false, impl_count N h2, Option.bind_some, hne, cond_false]
      rcases hck with ⟨hok, hit⟩ | ⟨t0, ht0, hbad, hok, hit⟩
      · rw [spec_gd N l h1 h2 h3 hok, hit, Option.bind_some, made_gd N l h2 h3 hn]
        cases validB (N : Int) (tab (fun s => gd l s l.length) l.length) with
        | false => exact ⟨0, false, [], by simp, rfl, rfl⟩
        | true => exact ⟨N, true, _, by rw [tab_length]; omega, rfl, rfl⟩
      · rw [spec_gd_bad N l h1 h2 h3 t0 ht0 hbad hok, hit]
        exact ⟨0, false, [], by simp, rfl, rfl⟩
    · obtain ⟨N, rfl⟩ := Int.eq_ofNat_of_zero_le (show 0 ≤ n by omega)
      have hne : ((l.length : Int) != 2 ^ N) = true := by simpa using hlen
      have hne' : ((l.length : Int) != ((2 ^ N : Nat) : Int)) = true := by
        rw [← hne]
        simp
      refine ⟨0, false, [], by simp, ?_, ?_⟩
      · unfold m_spec_GameOfDividends
        rw [in_eq, decide_eq_true h, Option.bind_some, Bool.not_true, cond_false, count0 N (by omega), Option.bind_some, hne]
        rfl
      · unfold m_impl_GameOfDividends
        rw [within_eq, decide_eq_true h, Option.bind_some, Bool.not_true, cond_false, impl_count N (by omega), Option.bind_some, hne']
        rfl
  · refine ⟨0, false, [], by simp, ?_, ?_⟩
    · unfold m_spec_GameOfDividends
      rw [in_eq, decide_eq_false h]
      rfl
    · unfold m_impl_GameOfDividends
      rw [within_eq, decide_eq_false h]
      rfl
theorem law_FnExactGameOfDividends (n : Int) (l : List Int) (hn : I64 n) (hl : l.length ≤ maxLen ∧ ∀ n ∈ l, I64 n) : m_laws_FnExactGameOfDividends n l = some true := by
  unfold m_laws_FnExactGameOfDividends
  by_cases h : (l.length : Int) > 1048576
  · simp [h]
  · have hl' : l.length ≤ 1048576 := by omega
    obtain ⟨x, b, r, hr, e1, e2⟩ := gd_both n l hn hl'
    have c1 : ¬ (1 : Int) + (l.length : Int) < 0 := by omega
    have c2 : ¬ (1 : Int) + (r.length : Int) < 0 := by omega
    rw [decide_eq_false h]
    simp [to_ints l hl', e1, e2, eq_ints l l hl' hl', eq_game x r x r hr hr, mark_ints l 1 (by decide) (by decide) (by omega), mark_game x r 1 (by decide) (by decide) (by omega), held_game x 1 r.length (by decide) (by decide) (by omega), c1, c2]
end Go.Proofs.Ytdobcjgdhgfedaa
