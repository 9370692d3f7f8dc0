/- The plain laws: what the models of FnExactScaleGame compute. No condition beyond those that each theorem names. -/
import Derived.Test.YtdobcjgdhgfedaaGEScaleGame
import Derived.Test.YtdobcjgdhgfedaaAmC
namespace Go.Proofs.Ytdobcjgdhgfedaa
open Go.AM
theorem sz_ints (l : List Int) (k : Int) (h1 : 0 ≤ k) (h2 : k ≤ 1048576) (hl : l.length ≤ maxLen) : m_laws_szIntS l k = some (if k < l.length then -1 else k - l.length) := by
  have hl' : (l.length : Int) ≤ 9223372036854775807 := by simp only [maxLen] at hl; omega
  have hw : IntKind.i64.wrap (k - (l.length : Int)) = k - l.length := w64' (by omega) (by omega)
  unfold m_laws_szIntS
  rw [hw]
  by_cases h : k < l.length
  · have : k - (l.length : Int) < 0 := by omega
    simp [h, this]
  · have : ¬ k - (l.length : Int) < 0 := by omega
    simp [h, this]
theorem sz_game (n : Int) (l : List Int) (k : Int) (h1 : 0 ≤ k) (h2 : k ≤ 1048576) (hl : l.length ≤ maxLen) : m_laws_szGame n l k = some (if k < l.length then -1 else k - l.length) := by
  unfold m_laws_szGame
  rw [sz_ints l k h1 h2 hl]
  by_cases h : k < l.length
  · simp [h]
  · have : ¬ k - (l.length : Int) < 0 := by omega
    simp [h, this]
theorem to_ints (l : List Int) (hl : l.length ≤ 1048576) : m_laws_toIntS l = some l := by
  unfold m_laws_toIntS
  rw [grd_pos ⟨by omega, rfl, by simp only [room]; omega⟩]
  have h := iter_up (step := l_laws_toIntS_0 l) (fun i => ((i : Int), l.take i ++ List.replicate (l.length - i) 0)) l.length (a := l) (fun i hi => ?_) ?_
  · simp only [List.take_zero, List.nil_append, Nat.sub_zero, Int.ofNat_eq_natCast] at h
    simp only [Int.toNat_natCast]
    rw [show ((0 : Int), List.replicate l.length (0 : Int)) = (((0 : Nat) : Int), List.replicate l.length (0 : Int)) from rfl, h]
    rfl
  · have hi' : (i : Int) < l.length := by omega
    have hlen : ((l.take i ++ List.replicate (l.length - i) (0 : Int)).length : Int) = l.length := by simp; omega
    simp only [l_laws_toIntS_0, hi', decide_true, cond_true]
    rw [grd_pos ⟨by omega, trivial⟩, grd_pos ⟨by omega, by rw [hlen]; exact hi'⟩]
    rw [w64' (by omega) (by omega), Int.toNat_natCast, set_copy l 0 0 i hi]
    rfl
  · simp [l_laws_toIntS_0]
theorem to_game (n : Int) (l : List Int) (hl : l.length ≤ 1048576) : m_laws_toGame n l = some (n, l) := by
  unfold m_laws_toGame
  rw [to_ints l hl]
  rfl
theorem eq_ints (a b : List Int) (ha : a.length ≤ 1048576) (hb : b.length ≤ 1048576) : m_laws_eqIntS a b = some (decide (a = b)) := by
  unfold m_laws_eqIntS
  by_cases hl : a.length = b.length
  · have e : ((a.length : Int) != (b.length : Int)) = false := by simp [hl]
    have hit := iter_all (step := l_laws_eqIntS_0 a b) (fun i => (i : Int)) a.length (fun i => a.getD i 0 == b.getD i 0) (a := .inl ()) (b := .inr false)
      (fun i hi hp => by
        have hi' : (i : Int) < a.length := by omega
        have hi2 : (i : Int) < b.length := by omega
        unfold l_laws_eqIntS_0
        rw [decide_eq_true hi', cond_true, grd_pos ⟨by omega, hi'⟩, grd_pos ⟨by omega, hi2⟩]
        simp only [beq_iff_eq] at hp
        rw [Int.toNat_natCast, hp, w64' (by omega) (by omega), bne_self_eq_false, cond_false]
        rfl)
      (fun i hi hp => by
        have hi' : (i : Int) < a.length := by omega
        have hi2 : (i : Int) < b.length := by omega
        unfold l_laws_eqIntS_0
        rw [decide_eq_true hi', cond_true, grd_pos ⟨by omega, hi'⟩, grd_pos ⟨by omega, hi2⟩]
        rw [Int.toNat_natCast]
        have : (a.getD i 0 != b.getD i 0) = true := by
          simp only [bne, hp, Bool.not_false]
        rw [this]
        rfl)
      (by
        unfold l_laws_eqIntS_0
        rw [decide_eq_false (by omega)]
        rfl)
    rw [e, cond_false]
    simp only [Int.ofNat_eq_natCast, Int.natCast_zero] at hit
    rw [hit]
    by_cases hall : ∀ i, i < a.length → (a.getD i 0 == b.getD i 0) = true
    · have : a = b := eq_of_all 0 hl fun i hi => by simpa using hall i hi
      rw [if_pos hall]
      simp [this]
    · have : ¬ a = b := fun e => hall fun i hi => by rw [e]; simp
      rw [if_neg hall]
      simp [this]
  · have e : ((a.length : Int) != (b.length : Int)) = true := by
      simp only [bne_iff_ne, ne_eq]
      omega
    rw [e]
    have : ¬ a = b := fun e => hl (by rw [e])
    simp [this]
theorem eq_game (n : Int) (l : List Int) (m : Int) (k : List Int) (hl : l.length ≤ 1048576) (hk : k.length ≤ 1048576) : m_laws_eqGame n l m k = some (decide (n = m ∧ l = k)) := by
  unfold m_laws_eqGame
  rw [eq_ints l k hl hk]
  by_cases h1 : n = m
  · by_cases h2 : l = k
    · simp [h1, h2]
    · simp [h1, h2]
  · have : (n != m) = true := by simpa using h1
    simp [h1, this]
def Valid (n : Int) (l : List Int) : Prop := (1 ≤ n ∧ n ≤ 5) ∧ (l.length : Int) = 2 ^ n.toNat ∧ l.getD 0 0 = 0 ∧ ∀ i, i < l.length → -500 ≤ l.getD i 0 ∧ l.getD i 0 ≤ 500
open Classical in
noncomputable def validB (n : Int) (l : List Int) : Bool := decide (Valid n l)
theorem in_eq (a b c : Int) : m_spec_l1In a b c = some (decide (b ≤ a ∧ a ≤ c)) := by
  unfold m_spec_l1In
  by_cases h : a ≥ b
  · have h' : b ≤ a := h
    simp [h, h']
  · have h' : ¬ b ≤ a := h
    simp [h, h']
theorem within_eq (a b c : Int) : m_impl_within a b c = some (decide (b ≤ a ∧ a ≤ c)) := in_eq a b c
theorem count_eq (n : Int) (h1 : 1 ≤ n) (h2 : n ≤ 5) : m_spec_CountCoalitions n = some (2 ^ n.toNat) := by
  unfold m_spec_CountCoalitions
  rw [in_eq]
  have hb : decide ((0 : Int) ≤ n ∧ n ≤ 5) = true := by simp; omega
  rw [hb, Option.bind_some, Bool.not_true, cond_false]
  have hit := iter_up (step := l_spec_CountCoalitions_0 n) (fun i => ((2 : Int) ^ i, (i : Int))) n.toNat (a := 2 ^ n.toNat) (fun i hi => by
      have hlt : (i : Int) < n := by omega
      have hi5 : i < 5 := by omega
      unfold l_spec_CountCoalitions_0
      simp only [hlt, decide_true, cond_true]
      have hp : (2 : Int) ^ i ≤ 16 := by
        have : i = 0 ∨ i = 1 ∨ i = 2 ∨ i = 3 ∨ i = 4 := by omega
        rcases this with rfl | rfl | rfl | rfl | rfl <;> decide
      have hp0 : (0 : Int) < 2 ^ i := Int.pow_pos (by decide)
      rw [w64' (by omega) (by omega), w64' (by omega) (by omega)]
      simp [Int.pow_succ])
    (by
      unfold l_spec_CountCoalitions_0
      have : ¬ ((n.toNat : Int) < n) := by omega
      simp only [this, decide_false, cond_false])
  simp only [Int.pow_zero, Int.ofNat_eq_natCast, Int.natCast_zero] at hit
  rw [hit]
  rfl
theorem spec_valid (n : Int) (l : List Int) (hl : l.length ≤ 1048576) : m_spec_IsValidGame n l = some (validB n l) := by
  unfold m_spec_IsValidGame
  have hit := iter_first (step := l_spec_IsValidGame_0 l) (fun i => (i : Int)) l.length (fun i => decide (-500 ≤ l.getD i 0 ∧ l.getD i 0 ≤ 500)) (a := .inl ()) (fun _ => .inr false)
    (fun i hi hp => by
      have hi' : (i : Int) < l.length := by omega
      unfold l_spec_IsValidGame_0
      rw [decide_eq_true hi', cond_true, grd_pos ⟨by omega, hi'⟩, in_eq, Int.toNat_natCast, hp, Option.bind_some, Bool.not_true, cond_false, w64' (by omega) (by omega)]
      rfl)
    (fun i hi hp => by
      have hi' : (i : Int) < l.length := by omega
      unfold l_spec_IsValidGame_0
      rw [decide_eq_true hi', cond_true, grd_pos ⟨by omega, hi'⟩, in_eq, Int.toNat_natCast, hp]
      rfl)
    (by
      unfold l_spec_IsValidGame_0
      rw [decide_eq_false (by omega)]
      rfl)
  simp only [Int.ofNat_eq_natCast, Int.natCast_zero] at hit
  rcases hit with ⟨h1, h2⟩ | ⟨i, h1, h2, h3⟩
  · rw [h2]
    simp only [Option.bind_some]
    rw [in_eq]
    by_cases hn : 1 ≤ n ∧ n ≤ 5
    · rw [decide_eq_true hn, Option.bind_some, cond_true, count_eq n hn.1 hn.2, Option.bind_some]
      by_cases hlen : (l.length : Int) = 2 ^ n.toNat
      · have hpos : (0 : Int) < 2 ^ n.toNat := Int.pow_pos (by decide)
        have e1 : ((l.length : Int) == 2 ^ n.toNat) = true := by simpa using hlen
        rw [e1, cond_true, grd_pos ⟨by omega, by omega⟩]
        congr 1
        have h0 : (0 : Int).toNat = 0 := rfl
        rw [h0]
        by_cases hz : l.getD 0 0 = 0
        · have hv : Valid n l := ⟨hn, hlen, hz, fun i hi => by simpa using h1 i hi⟩
          rw [hz]
          simp [validB, hv]
        · have hv : ¬ Valid n l := fun h => hz h.2.2.1
          simp only [validB, hv, decide_false]
          simpa using hz
      · have e1 : ((l.length : Int) == 2 ^ n.toNat) = false := by simpa using hlen
        have hv : ¬ Valid n l := fun h => hlen h.2.1
        rw [e1, cond_false]
        simp [validB, hv]
    · have hv : ¬ Valid n l := fun h => hn h.1
      rw [decide_eq_false hn]
      simp [validB, hv]
  · rw [h3]
    have hv : ¬ Valid n l := fun h => by
      have := h.2.2.2 i h1
      simp only [decide_eq_false_iff_not] at h2
      exact h2 this
    simp [validB, hv]
theorem contains_eq (l : List Int) (hl : l.length ≤ 1048576) : ∃ r, m_slices_ContainsFunc_int_int_impl_IsValidGame_1 l = some r ∧ (r = false ↔ ∀ i, i < l.length → -500 ≤ l.getD i 0 ∧ l.getD i 0 ≤ 500) := by
  unfold m_slices_ContainsFunc_int_int_impl_IsValidGame_1 m_slices_IndexFunc_int_int_impl_IsValidGame_1
  have hm : ∀ x, m_impl_IsValidGame_1 x = some (!decide (-500 ≤ x ∧ x ≤ 500)) := fun x => by
    unfold m_impl_IsValidGame_1
    rw [within_eq]
    rfl
  have hit := iter_first (step := l_slices_IndexFunc_int_int_impl_IsValidGame_1_0 l) (fun i => (i : Int)) l.length (fun i => decide (-500 ≤ l.getD i 0 ∧ l.getD i 0 ≤ 500)) (a := .inl ()) (fun i => .inr (i : Int))
    (fun i hi hp => by
      have hi' : (i : Int) < l.length := by omega
      unfold l_slices_IndexFunc_int_int_impl_IsValidGame_1_0
      rw [decide_eq_true hi', cond_true, grd_pos ⟨by omega, hi'⟩, hm, Int.toNat_natCast, hp, Option.bind_some, Bool.not_true, cond_false, w64' (by omega) (by omega)]
      rfl)
    (fun i hi hp => by
      have hi' : (i : Int) < l.length := by omega
      unfold l_slices_IndexFunc_int_int_impl_IsValidGame_1_0
      rw [decide_eq_true hi', cond_true, grd_pos ⟨by omega, hi'⟩, hm, Int.toNat_natCast, hp]
      rfl)
    (by
      unfold l_slices_IndexFunc_int_int_impl_IsValidGame_1_0
      rw [decide_eq_false (by omega)]
      rfl)
  simp only [Int.ofNat_eq_natCast, Int.natCast_zero] at hit
  rcases hit with ⟨h1, h2⟩ | ⟨i, h1, h2, h3⟩
  · rw [h2]
    exact ⟨false, rfl, by simpa using h1⟩
  · rw [h3]
    refine ⟨true, by simp, ?_⟩
    simp only [reduceCtorEq, false_iff]
    intro h
    simp only [decide_eq_false_iff_not] at h2
    exact h2 (h i h1)
theorem impl_valid (n : Int) (l : List Int) (hl : l.length ≤ 1048576) : m_impl_IsValidGame n l = some (validB n l) := by
  unfold m_impl_IsValidGame
  rw [within_eq]
  by_cases hn : 1 ≤ n ∧ n ≤ 5
  · rw [decide_eq_true hn, Option.bind_some, Bool.not_true, cond_false, grd_pos (by omega)]
    have hw : IntKind.i64.wrap ((1 : Int) * 2 ^ (min n.toNat 64)) = 2 ^ n.toNat := by
      have : n = 1 ∨ n = 2 ∨ n = 3 ∨ n = 4 ∨ n = 5 := by omega
      rcases this with rfl | rfl | rfl | rfl | rfl <;> decide
    rw [hw]
    by_cases hlen : (l.length : Int) = 2 ^ n.toNat
    · have hpos : (0 : Int) < 2 ^ n.toNat := Int.pow_pos (by decide)
      have e1 : ((l.length : Int) != 2 ^ n.toNat) = false := by simpa using hlen
      rw [e1, cond_false, grd_pos ⟨by omega, by omega⟩]
      have h0 : (0 : Int).toNat = 0 := rfl
      rw [h0]
      by_cases hz : l.getD 0 0 = 0
      · have e2 : (l.getD 0 0 != 0) = false := by simpa using hz
        rw [e2, cond_false]
        obtain ⟨r, h1, h2⟩ := contains_eq l hl
        rw [h1, Option.bind_some]
        congr 1
        by_cases hr : r = false
        · have hv : Valid n l := ⟨hn, hlen, hz, h2.1 hr⟩
          simp [validB, hv, hr]
        · have hv : ¬ Valid n l := fun h => hr (h2.2 h.2.2.2)
          have hr' : r = true := by cases r <;> simp at hr ⊢
          simp [validB, hv, hr']
      · have e2 : (l.getD 0 0 != 0) = true := by simpa using hz
        have hv : ¬ Valid n l := fun h => hz h.2.2.1
        rw [e2]
        simp [validB, hv]
    · have e1 : ((l.length : Int) != 2 ^ n.toNat) = true := by simpa using hlen
      have hv : ¬ Valid n l := fun h => hlen h.2.1
      rw [e1]
      simp [validB, hv]
  · have hv : ¬ Valid n l := fun h => hn h.1
    rw [decide_eq_false hn]
    simp [validB, hv]
def tab {α : Type} (f : Nat → α) (n : Nat) : List α := (List.range n).map f
theorem tab_succ {α : Type} (f : Nat → α) (n : Nat) : tab f (n + 1) = tab f n ++ [f n] := by simp [tab, List.range_succ]
theorem tab_length {α : Type} (f : Nat → α) (n : Nat) : (tab f n).length = n := by simp [tab]
theorem tab_getD {α : Type} (f : Nat → α) (n : Nat) (d : α) (i : Nat) (h : i < n) : (tab f n).getD i d = f i := by
  simp [tab, List.getD, List.getElem?_map, List.getElem?_range h]
def sm (f : Nat → Int) : Nat → Int
  | 0 => 0
  | n + 1 => sm f n + f n
theorem sm_bd {f : Nat → Int} {B : Int} : ∀ {n : Nat}, (∀ i, i < n → -B ≤ f i ∧ f i ≤ B) → -(B * n) ≤ sm f n ∧ sm f n ≤ B * n
  | 0, _ => by simp [sm]
  | n + 1, h => by
    have h1 := sm_bd (n := n) fun i hi => h i (by omega)
    have h2 := h n (by omega)
    have h3 : B * ((n + 1 : Nat) : Int) = B * n + B := by rw [Int.natCast_add, Int.mul_add]; simp
    simp only [sm]
    omega
theorem set_tab {α : Type} (f : Nat → α) (l : List α) (i : Nat) (h : i < l.length) : (tab f i ++ l.drop i).set i (f i) = tab f (i + 1) ++ l.drop (i + 1) := by
  rw [List.set_append]
  have h1 : ¬ i < (tab f i).length := by rw [tab_length]; omega
  rw [if_neg h1, tab_length, Nat.sub_self, tab_succ, List.drop_eq_getElem_cons h]
  simp only [List.set_cons_zero, List.append_assoc, List.singleton_append]
theorem getD_nat {α : Type} (l : List α) (i : Nat) (d : α) : l.getD (i : Int).toNat d = l.getD i d := by rw [Int.toNat_natCast]
theorem mark_ints (l : List Int) (k : Int) (h1 : 0 ≤ k) (h2 : k ≤ 1000000000000) (hl : l.length ≤ 1000000000000) : m_laws_markIntS_io1 l k = some (k + l.length, tab (fun i => k + (i : Int)) l.length) := by
  unfold m_laws_markIntS_io1
  have hit := iter_up (step := l_laws_markIntS_io1_0) (fun i => (k + (i : Int), (i : Int), tab (fun i => k + (i : Int)) i ++ l.drop i)) l.length (a := (k + l.length, tab (fun i => k + (i : Int)) l.length)) (fun i hi => by
      have hlen : (tab (fun i => k + (i : Int)) i ++ l.drop i).length = l.length := by simp [tab_length]; omega
      unfold l_laws_markIntS_io1_0
      simp only [hlen]
      rw [decide_eq_true (by omega), cond_true, grd_pos ⟨by omega, by omega⟩, w64' (by omega) (by omega), w64' (by omega) (by omega), Int.toNat_natCast, set_tab (fun i => k + (i : Int)) l i hi]
      simp [Int.add_assoc])
    (by
      unfold l_laws_markIntS_io1_0
      simp [tab_length])
  simp only [Int.natCast_zero, Int.add_zero, List.drop_zero, tab, List.range_zero, List.map_nil, List.nil_append] at hit
  rw [hit]
  rfl
theorem held_ints (k : Int) (n : Nat) (h1 : 0 ≤ k) (h2 : k ≤ 1000000000000) (hn : n ≤ 1000000000000) : m_laws_heldIntS (tab (fun i => k + (i : Int)) n) k = some (k + n) := by
  unfold m_laws_heldIntS
  have hit := iter_up (step := l_laws_heldIntS_0 (tab (fun i => k + (i : Int)) n)) (fun i => (k + (i : Int), (i : Int))) n (a := .inl (k + n)) (fun i hi => by
      unfold l_laws_heldIntS_0
      simp only [tab_length]
      rw [decide_eq_true (by omega), cond_true, grd_pos ⟨by omega, by omega⟩, w64' (by omega) (by omega), w64' (by omega) (by omega), getD_nat, tab_getD _ _ _ _ hi]
      simp [Int.add_assoc])
    (by
      unfold l_laws_heldIntS_0
      simp [tab_length])
  simp only [Int.natCast_zero, Int.add_zero] at hit
  rw [hit]
  rfl
theorem mark_game (n : Int) (l : List Int) (k : Int) (h1 : 0 ≤ k) (h2 : k ≤ 1000000000000) (hl : l.length ≤ 1000000000000) : m_laws_markGame_io1 n l k = some (k + l.length, tab (fun i => k + (i : Int)) l.length) := by
  unfold m_laws_markGame_io1
  rw [mark_ints l k h1 h2 hl]
  rfl
theorem held_game (n : Int) (k : Int) (m : Nat) (h1 : 0 ≤ k) (h2 : k ≤ 1000000000000) (hl : m ≤ 1000000000000) : m_laws_heldGame n (tab (fun i => k + (i : Int)) m) k = some (k + m) := by
  unfold m_laws_heldGame
  rw [held_ints k m h1 h2 hl, Option.bind_some, decide_eq_false (by omega), cond_false]
instance : DecidableEq Q := fun a b =>
  if h1 : a.num = b.num then
    if h2 : a.den = b.den then isTrue (by cases a; cases b; simp only at h1 h2; rw [h1, h2])
    else isFalse (fun h => h2 (by rw [h]))
  else isFalse (fun h => h1 (by rw [h]))
theorem count0 (n : Nat) (h : n ≤ 5) : m_spec_CountCoalitions (n : Int) = some (2 ^ n) := by
  rcases Nat.eq_zero_or_pos n with rfl | h1
  · unfold m_spec_CountCoalitions
    rw [in_eq, decide_eq_true (by omega), Option.bind_some, Bool.not_true, cond_false]
    rw [iter_done (a := (1 : Int)) (by simp [l_spec_CountCoalitions_0])]
    rfl
  · rw [count_eq (n : Int) (by omega) (by omega)]
    simp
theorem bit2 (k : Nat) (h : k < 5) : m_spec_l2Bit (k : Int) = some (2 ^ k) := by
  unfold m_spec_l2Bit
  rw [count0 k (by omega)]
  rfl
theorem and_tab : ∀ s : Fin 32, ∀ k : Fin 5, bitsOf .and .i64 (((s.val : Nat) : Int).fdiv (2 ^ (min ((k.val : Nat) : Int).toNat 64))) 1 = if s.val.testBit k.val then 1 else 0 := by decide +kernel
theorem has_tab : ∀ s : Fin 32, ∀ k : Fin 5, ((IntKind.i64.wrap (((s.val : Nat) : Int).tdiv (2 ^ k.val))).tmod 2 == 1) = s.val.testBit k.val := by decide +kernel
theorem shl_tab : ∀ k : Fin 6, IntKind.i64.wrap (1 * 2 ^ (min ((k.val : Nat) : Int).toNat 64)) = ((2 ^ k.val : Nat) : Int) := by decide +kernel
theorem and_eq (s k : Nat) (hs : s < 32) (hk : k < 5) : bitsOf .and .i64 ((s : Int).fdiv (2 ^ (min (k : Int).toNat 64))) 1 = if s.testBit k then 1 else 0 := and_tab ⟨s, hs⟩ ⟨k, hk⟩
theorem shl_eq (k : Nat) (hk : k < 6) : IntKind.i64.wrap (1 * 2 ^ (min (k : Int).toNat 64)) = ((2 ^ k : Nat) : Int) := shl_tab ⟨k, hk⟩
theorem spec_has (s k : Nat) (hs : s < 32) (hk : k < 5) : m_spec_HasPlayer (s : Int) (k : Int) = some (s.testBit k) := by
  unfold m_spec_HasPlayer
  have hp : (0 : Int) < 2 ^ k := Int.pow_pos (by decide)
  rw [in_eq, decide_eq_true (by omega), Option.bind_some, cond_true, decide_eq_true (by omega), cond_true, bit2 k hk, Option.bind_some, grd_pos (by omega), grd_pos (by decide)]
  rw [← has_tab ⟨s, hs⟩ ⟨k, hk⟩]
/-- a valid game, in natural numbers -/
theorem valid_nat {n : Int} {l : List Int} (h : Valid n l) : ∃ N : Nat, n = (N : Int) ∧ 1 ≤ N ∧ N ≤ 5 ∧ l.length = 2 ^ N ∧ l.length ≤ 32 := by
  obtain ⟨h1, h2, _⟩ := h
  have hn : n = 1 ∨ n = 2 ∨ n = 3 ∨ n = 4 ∨ n = 5 := by omega
  refine ⟨n.toNat, by omega, by omega, by omega, ?_, ?_⟩
  · rcases hn with rfl | rfl | rfl | rfl | rfl <;> simp at h2 ⊢ <;> omega
  · rcases hn with rfl | rfl | rfl | rfl | rfl <;> simp at h2 ⊢ <;> omega
theorem validB_eq (n : Int) (l : List Int) : validB n l = true ↔ Valid n l := by simp [validB]
theorem pow_le32 {N : Nat} (h : N ≤ 5) : 2 ^ N ≤ 32 := by
  have : N = 0 ∨ N = 1 ∨ N = 2 ∨ N = 3 ∨ N = 4 ∨ N = 5 := by omega
  rcases this with rfl | rfl | rfl | rfl | rfl | rfl <;> decide
theorem tab_set_loop {α : Type} (f : Nat → α) (l : List α) : tab f l.length ++ l.drop l.length = tab f l.length := by simp
theorem impl_count (n : Nat) (h : n ≤ 5) : m_impl_CountCoalitions (n : Int) = some ((2 ^ n : Nat) : Int) := by
  unfold m_impl_CountCoalitions
  rw [within_eq, decide_eq_true (by omega), Option.bind_some, Bool.not_true, cond_false, grd_pos (by omega), shl_eq n (by omega)]
theorem first_bad (n : Nat) (P : Nat → Prop) : (∀ i, i < n → P i) ∨ ∃ t, t < n ∧ ¬ P t ∧ ∀ i, i < t → P i := by
  by_cases h : ∀ i, i < n → P i
  · exact .inl h
  · have h' : ∃ t, t < n ∧ ¬ P t := by
      simp only [Classical.not_forall] at h
      obtain ⟨i, h1, h2⟩ := h
      exact ⟨i, h1, h2⟩
    obtain ⟨t, ⟨h1, h2⟩, h3⟩ := least h'
    refine .inr ⟨t, h1, h2, fun i hi => ?_⟩
    by_cases hp : P i
    · exact hp
    · have := h3 i ⟨by omega, hp⟩
      omega
theorem in_find (l : List Int) (lo hi : Int) {R : Type} (step : Int → Option (Int ⊕ (Unit ⊕ R))) (b : Nat → R)
    (hs : ∀ i : Nat, i < l.length → step (i : Int) = some (bif decide (lo ≤ l.getD i 0 ∧ l.getD i 0 ≤ hi) then .inl ((i + 1 : Nat) : Int) else .inr (.inr (b i)))) (hd : step (l.length : Int) = some (.inr (.inl ()))) :
    ((∀ i, i < l.length → lo ≤ l.getD i 0 ∧ l.getD i 0 ≤ hi) ∧ iter step 0 = some (.inl ())) ∨ ∃ t, t < l.length ∧ ¬ (lo ≤ l.getD t 0 ∧ l.getD t 0 ≤ hi) ∧ (∀ i, i < t → lo ≤ l.getD i 0 ∧ l.getD i 0 ≤ hi) ∧ iter step 0 = some (.inr (b t)) := by
  rcases first_bad l.length (fun i => lo ≤ l.getD i 0 ∧ l.getD i 0 ≤ hi) with h | ⟨t, h1, h2, h3⟩
  · refine .inl ⟨h, ?_⟩
    have := iter_up (step := step) (fun i => (i : Int)) l.length (a := .inl ()) (fun i hi => by rw [hs i hi, decide_eq_true (h i hi)]; rfl) hd
    simpa only [Int.natCast_zero] using this
  · refine .inr ⟨t, h1, h2, h3, ?_⟩
    have := iter_up (step := step) (fun i => (i : Int)) t (a := .inr (b t)) (fun i hi => by rw [hs i (by omega), decide_eq_true (h3 i hi)]; rfl) (by rw [hs t h1, decide_eq_false h2]; rfl)
    simpa only [Int.natCast_zero] using this
def mem (s : Nat) (x : List Int) (i : Nat) : Int := if s.testBit i = true then x.getD i 0 else 0
theorem mem_bd (s : Nat) (x : List Int) (m : Nat) (hm : m ≤ x.length) (hok : ∀ i, i < x.length → -500 ≤ x.getD i 0 ∧ x.getD i 0 ≤ 500) : -(500 * (m : Int)) ≤ sm (mem s x) m ∧ sm (mem s x) m ≤ 500 * m :=
  sm_bd fun i hi => by
    have := hok i (by omega)
    unfold mem
    split <;> omega
theorem mul_bd500 {x y : Int} (hx : -500 ≤ x ∧ x ≤ 500) (hy : -500 ≤ y ∧ y ≤ 500) : -250000 ≤ x * y ∧ x * y ≤ 250000 := by
  have h1 : (x * y).natAbs ≤ 500 * 500 := by
    rw [Int.natAbs_mul]
    exact Nat.mul_le_mul (by omega) (by omega)
  omega
theorem scale_both (n : Int) (l : List Int) (k : Int) (x : List Int) (hl : l.length ≤ 1048576) (hx : x.length ≤ 1048576) : ∃ a b r, r.length ≤ 1048576 ∧ m_spec_ScaleGame n l k x = some (a, b, r) ∧ m_impl_ScaleGame n l k x = some (a, b, r) := by
  unfold m_spec_ScaleGame m_impl_ScaleGame
  have hc1 : ∀ y, m_impl_ScaleGame_1 y = some (!decide (-500 ≤ y ∧ y ≤ 500)) := fun y => by
    unfold m_impl_ScaleGame_1
    rw [within_eq]
    rfl
  rw [spec_valid n l hl, impl_valid n l hl, in_eq, hc1]
  cases hv : validB n l with
  | false => exact ⟨0, false, [], by simp, rfl, rfl⟩
  | true =>
    have hV := (validB_eq n l).1 hv
    obtain ⟨N, rfl, h1, h2, h3, h4⟩ := valid_nat hV
    have h32 := pow_le32 h2
    have hpos : 0 < l.length := by rw [h3]; exact Nat.pow_pos (by decide)
    by_cases hlen : x.length = N
    · have hne : ((x.length : Int) != (N : Int)) = false := by simp [hlen]
      by_cases hk : -500 ≤ k ∧ k ≤ 500
      · simp only [Option.bind_some, Bool.not_true, cond_false, hne, decide_eq_true hk]
        have hck := in_find x (-500) 500 (l_slices_IndexFunc_int_int_impl_ScaleGame_1_0 x) (fun t => (t : Int))
          (fun i hi => by
            unfold l_slices_IndexFunc_int_int_impl_ScaleGame_1_0
            rw [decide_eq_true (by omega), cond_true, grd_pos (by omega), getD_nat, hc1, Option.bind_some, w64' (by omega) (by omega)]
            cases decide (-500 ≤ x.getD i 0 ∧ x.getD i 0 ≤ 500) <;> rfl)
          (by unfold l_slices_IndexFunc_int_int_impl_ScaleGame_1_0; rw [decide_eq_false (by omega)]; rfl)
        unfold m_spec_l8Copy m_slices_ContainsFunc_int_int_impl_ScaleGame_1 m_slices_IndexFunc_int_int_impl_ScaleGame_1
        rw [grd_pos (by simp only [List.length_nil, room]; omega)]
        simp only [Option.bind_some, List.nil_append]
        rcases hck with ⟨hok, hit⟩ | ⟨t0, ht0, hbad, hok, hit⟩
        · have hkl : ∀ s, s < l.length → -250000 ≤ k * l.getD s 0 ∧ k * l.getD s 0 ≤ 250000 := fun s hs => mul_bd500 hk (hV.2.2.2 s hs)
          let f : Nat → Int := fun s => k * l.getD s 0 + sm (mem s x) x.length
          have s1i : ∀ s, s < l.length → iter (l_spec_ScaleGame_1 x (s : Int)) (IntKind.i64.wrap (k * l.getD (s : Int).toNat 0), (0 : Int)) = some (.inl (f s)) := by
            intro s hs
            have b0 := hkl s hs
            rw [getD_nat, w64' (by omega) (by omega)]
            have hit := iter_up (step := l_spec_ScaleGame_1 x (s : Int)) (fun i => (k * l.getD s 0 + sm (mem s x) i, (i : Int))) x.length (a := .inl (f s)) (fun i hi => by
                have b1 := mem_bd s x i (by omega) hok
                have b2 := hok i hi
                have hg : (0 : Int) ≤ (i : Int) ∧ (i : Int) < (x.length : Int) := by omega
                unfold l_spec_ScaleGame_1
                dsimp only
                rw [decide_eq_true (by omega), cond_true, getD_nat, in_eq, decide_eq_true b2, spec_has s i (by omega) (by omega), w64' (n := (i : Int) + 1) (by omega) (by omega), w64' (by omega) (by omega)]
                simp only [Option.bind_some, Bool.not_true, cond_false, grd_pos hg, sm, mem]
                cases s.testBit i <;> simp [Int.add_assoc])
              (by unfold l_spec_ScaleGame_1; dsimp only; rw [decide_eq_false (by omega)]; rfl)
            simpa only [Int.natCast_zero, sm, Int.add_zero] using hit
          have s2i : ∀ s, s < l.length → m_impl_sumOver x (s : Int) = some (sm (mem s x) x.length) := by
            intro s hs
            unfold m_impl_sumOver
            have hit := iter_up (step := l_impl_sumOver_0 x (s : Int)) (fun i => (sm (mem s x) i, (i : Int))) x.length (a := sm (mem s x) x.length) (fun i hi => by
                have b1 := mem_bd s x i (by omega) hok
                have b2 := hok i hi
                have hg : (0 : Int) ≤ (i : Int) ∧ (i : Int) < (x.length : Int) := by omega
                have hg0 : (0 : Int) ≤ (i : Int) := by omega
                unfold l_impl_sumOver_0
                dsimp only
                rw [decide_eq_true (by omega), cond_true, getD_nat, and_eq s i (by omega) (by omega), w64' (n := (i : Int) + 1) (by omega) (by omega), w64' (by omega) (by omega)]
                simp only [grd_pos hg, grd_pos hg0, sm, mem]
                cases s.testBit i <;> simp)
              (by unfold l_impl_sumOver_0; dsimp only; rw [decide_eq_false (by omega)]; rfl)
            simp only [Int.natCast_zero, sm] at hit
            rw [hit]
            rfl
          have s1 := iter_up (step := l_spec_ScaleGame_0 l k x) (fun i => ((i : Int), tab f i ++ l.drop i)) l.length (a := .inl (tab f l.length)) (fun i hi => by
              have hlen' : (tab f i ++ l.drop i).length = l.length := by simp [tab_length]; omega
              unfold l_spec_ScaleGame_0
              dsimp only
              rw [hlen', decide_eq_true (by omega), cond_true, grd_pos (by omega), s1i i hi, Option.bind_some]
              dsimp only
              rw [grd_pos (by omega), w64' (n := (i : Int) + 1) (by omega) (by omega), Int.toNat_natCast, set_tab f l i hi]
              rfl)
            (by
              unfold l_spec_ScaleGame_0
              dsimp only
              rw [tab_set_loop, tab_length, decide_eq_false (by omega)]
              rfl)
          have s2 := iter_up (step := l_impl_made_impl_ScaleGame_2_0 k (N : Int) l x ((2 ^ N : Nat) : Int)) (fun i => ((i : Int), tab f i)) l.length (a := tab f l.length) (fun i hi => by
              have b0 := hkl i hi
              have b1 := mem_bd i x x.length (Nat.le_refl _) hok
              unfold l_impl_made_impl_ScaleGame_2_0 m_impl_ScaleGame_2
              dsimp only
              rw [decide_eq_true (by omega), cond_true, grd_pos (by omega), s2i i hi, Option.bind_some, getD_nat, w64' (n := k * l.getD i 0) (by omega) (by omega), w64' (n := k * l.getD i 0 + _) (by omega) (by omega), Option.bind_some, grd_pos (by simp only [tab_length, List.length_singleton, room]; omega), w64' (n := (i : Int) + 1) (by omega) (by omega), tab_succ]
              rfl)
            (by
              unfold l_impl_made_impl_ScaleGame_2_0
              dsimp only
              rw [decide_eq_false (by omega)]
              rfl)
          have e0 : tab f 0 = [] := rfl
          simp only [Int.natCast_zero, e0, List.nil_append, List.drop_zero] at s1 s2
          have hb : (tab f l.length).length ≤ 1048576 := by rw [tab_length]; omega
          rw [s1, hit]
          unfold m_impl_made_impl_ScaleGame_2
          rw [impl_count N h2]
          simp only [Option.bind_some]
          rw [s2]
          simp only [Option.bind_some]
          rw [spec_valid _ _ hb, impl_valid _ _ hb]
          cases validB (N : Int) (tab f l.length) with
          | false => exact ⟨0, false, [], by simp, rfl, rfl⟩
          | true => exact ⟨N, true, tab f l.length, hb, rfl, rfl⟩
        · have hf : iter (l_spec_ScaleGame_1 x ((0 : Nat) : Int)) (IntKind.i64.wrap (k * l.getD ((0 : Nat) : Int).toNat 0), (0 : Int)) = some (.inr (0, false, [])) := by
            have b0 := mul_bd500 hk (hV.2.2.2 0 hpos)
            rw [getD_nat, w64' (by omega) (by omega)]
            have hit := iter_up (step := l_spec_ScaleGame_1 x ((0 : Nat) : Int)) (fun i => (k * l.getD 0 0, (i : Int))) t0 (a := .inr (0, false, [])) (fun i hi => by
                have b2 := hok i hi
                have hg : (0 : Int) ≤ (i : Int) ∧ (i : Int) < (x.length : Int) := by omega
                unfold l_spec_ScaleGame_1
                dsimp only
                rw [decide_eq_true (by omega), cond_true, getD_nat, in_eq, decide_eq_true b2, spec_has 0 i (by omega) (by omega), w64' (n := (i : Int) + 1) (by omega) (by omega)]
                simp only [Option.bind_some, Bool.not_true, cond_false, grd_pos hg, Nat.zero_testBit]
                rfl)
              (by
                unfold l_spec_ScaleGame_1
                dsimp only
                rw [decide_eq_true (by omega), cond_true, grd_pos (by omega), getD_nat, in_eq, decide_eq_false hbad]
                rfl)
            simpa only [Int.natCast_zero] using hit
          have s1 : iter (l_spec_ScaleGame_0 l k x) ((0 : Int), l) = some (.inr (0, false, [])) := iter_done (by
            unfold l_spec_ScaleGame_0
            dsimp only
            simp only [Int.natCast_zero] at hf
            rw [decide_eq_true (by omega), cond_true, grd_pos (by omega), hf]
            rfl)
          rw [s1, hit]
          simp only [Option.bind_some, decide_eq_true (show ((t0 : Nat) : Int) ≥ 0 by omega), cond_true]
          exact ⟨0, false, [], by simp, rfl, rfl⟩
      · simp only [Option.bind_some, Bool.not_true, cond_false, hne, decide_eq_false hk]
        exact ⟨0, false, [], by simp, rfl, rfl⟩
    · have hne : ((x.length : Int) != (N : Int)) = true := by
        rw [bne_iff_ne]
        omega
      simp only [Option.bind_some, Bool.not_true, cond_false, hne, cond_true]
      cases decide (-500 ≤ k ∧ k ≤ 500) <;> exact ⟨0, false, [], by simp, rfl, rfl⟩
theorem law_FnExactScaleGame (n : Int) (l : List Int) (k : Int) (x : List Int) (_ : I64 n) (hl : l.length ≤ maxLen ∧ ∀ n ∈ l, I64 n) (_ : I64 k) (hx : x.length ≤ maxLen ∧ ∀ n ∈ x, I64 n) : m_laws_FnExactScaleGame n l k x = some true := by
  unfold m_laws_FnExactScaleGame
  by_cases h : (x.length : Int) > 1048576
  · simp [h]
  · have hx' : x.length ≤ 1048576 := by omega
    rw [decide_eq_false h, cond_false, sz_game n l _ (by decide) (by decide) hl.1]
    by_cases h2 : (1048576 : Int) < l.length
    · simp [h2]
    · have h3 : ¬ (1048576 : Int) - (l.length : Int) < 0 := by omega
      have hl' : l.length ≤ 1048576 := by omega
      obtain ⟨a, b, r, hr, e1, e2⟩ := scale_both n l k x hl' hx'
      have c1 : ¬ (1 : Int) + (l.length : Int) + (x.length : Int) < 0 := by omega
      have c2 : ¬ (1 : Int) + (r.length : Int) < 0 := by omega
      simp [h2, h3, to_game n l hl', to_ints x hx', e1, e2, eq_game n l n l hl' hl', eq_ints x x hx' hx', eq_game a r a r hr hr, mark_game n l 1 (by decide) (by decide) (by omega), mark_ints x (1 + l.length) (by omega) (by omega) (by omega),
        mark_game a r 1 (by decide) (by decide) (by omega), held_game a 1 r.length (by decide) (by decide) (by omega), c1, c2]
end Go.Proofs.Ytdobcjgdhgfedaa
