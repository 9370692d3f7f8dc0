/- The plain laws: what the models of FnExactRestrict compute. No condition beyond those that each theorem names. -/
import Derived.Test.YtdobcjgdhgfedaaGERestrict
import Derived.Test.YtdobcjgdhgfedaaAmC
namespace Go.Proofs.Ytdobcjgdhgfedaa
open Go.AM
theorem sz_ints (l : List Int) (k : Int) (h1 : 0 ≤ k) (h2 : k ≤ 1048576) (hl : l.length ≤ maxLen) : m_laws_szIntS l k = some (if k < l.length then -1 else k - l.length) := by
  have hl' : (l.length : Int) ≤ 9223372036854775807 := by simp only [maxLen] at hl; omega
  have hw : IntKind.i64.wrap (k - (l.length : Int)) = k - l.length := w64' (by omega) (by omega)
  unfold m_laws_szIntS
  rw [hw]
  by_cases h : k < l.length
  · have : k - (l.length : Int) < 0 := by omega
    simp [h, this]
  · have : ¬ k - (l.length : Int) < 0 := by omega
    simp [h, this]
theorem sz_game (n : Int) (l : List Int) (k : Int) (h1 : 0 ≤ k) (h2 : k ≤ 1048576) (hl : l.length ≤ maxLen) : m_laws_szGame n l k = some (if k < l.length then -1 else k - l.length) := by
  unfold m_laws_szGame
  rw [sz_ints l k h1 h2 hl]
  by_cases h : k < l.length
  · simp [h]
  · have : ¬ k - (l.length : Int) < 0 := by omega
    simp [h, this]
theorem to_ints (l : List Int) (hl : l.length ≤ 1048576) : m_laws_toIntS l = some l := by
  unfold m_laws_toIntS
  rw [grd_pos ⟨by omega, rfl, by simp only [room]; omega⟩]
  have h := iter_up (step := l_laws_toIntS_0 l) (fun i => ((i : Int), l.take i ++ List.replicate (l.length - i) 0)) l.length (a := l) (fun i hi => ?_) ?_
  · simp only [List.take_zero, List.nil_append, Nat.sub_zero, Int.ofNat_eq_natCast] at h
    simp only [Int.toNat_natCast]
    rw [show ((0 : Int), List.replicate l.length (0 : Int)) = (((0 : Nat) : Int), List.replicate l.length (0 : Int)) from rfl, h]
    rfl
  · have hi' : (i : Int) < l.length := by omega
    have hlen : ((l.take i ++ List.replicate (l.length - i) (0 : Int)).length : Int) = l.length := by simp; omega
    simp only [l_laws_toIntS_0, hi', decide_true, cond_true]
    rw [grd_pos ⟨by omega, trivial⟩, grd_pos ⟨by omega, by rw [hlen]; exact hi'⟩]
    rw [w64' (by omega) (by omega), Int.toNat_natCast, set_copy l 0 0 i hi]
    rfl
  · simp [l_laws_toIntS_0]
theorem to_game (n : Int) (l : List Int) (hl : l.length ≤ 1048576) : m_laws_toGame n l = some (n, l) := by
  unfold m_laws_toGame
  rw [to_ints l hl]
  rfl
theorem eq_ints (a b : List Int) (ha : a.length ≤ 1048576) (hb : b.length ≤ 1048576) : m_laws_eqIntS a b = some (decide (a = b)) := by
  unfold m_laws_eqIntS
  by_cases hl : a.length = b.length
  · have e : ((a.length : Int) != (b.length : Int)) = false := by simp [hl]
    have hit := iter_all (step := l_laws_eqIntS_0 a b) (fun i => (i : Int)) a.length (fun i => a.getD i 0 == b.getD i 0) (a := .inl ()) (b := .inr false)
      (fun i hi hp => by
        have hi' : (i : Int) < a.length := by omega
        have hi2 : (i : Int) < b.length := by omega
        unfold l_laws_eqIntS_0
        rw [decide_eq_true hi', cond_true, grd_pos ⟨by omega, hi'⟩, grd_pos ⟨by omega, hi2⟩]
        simp only [beq_iff_eq] at hp
        rw [Int.toNat_natCast, hp, w64' (by omega) (by omega), bne_self_eq_false, cond_false]
        rfl)
      (fun i hi hp => by
        have hi' : (i : Int) < a.length := by omega
        have hi2 : (i : Int) < b.length := by omega
        unfold l_laws_eqIntS_0
        rw [decide_eq_true hi', cond_true, grd_pos ⟨by omega, hi'⟩, grd_pos ⟨by omega, hi2⟩]
        rw [Int.toNat_natCast]
        have : (a.getD i 0 != b.getD i 0) = true := by
          simp only [bne, hp, Bool.not_false]
        rw [this]
        rfl)
      (by
        unfold l_laws_eqIntS_0
        rw [decide_eq_false (by omega)]
        rfl)
    rw [e, cond_false]
    simp only [Int.ofNat_eq_natCast, Int.natCast_zero] at hit
    rw [hit]
    by_cases hall : ∀ i, i < a.length → (a.getD i 0 == b.getD i 0) = true
    · have : a = b := eq_of_all 0 hl fun i hi => by simpa using hall i hi
      rw [if_pos hall]
      simp [this]
    · have : ¬ a = b := fun e => hall fun i hi => by rw [e]; simp
      rw [if_neg hall]
      simp [this]
  · have e : ((a.length : Int) != (b.length : Int)) = true := by
      simp only [bne_iff_ne, ne_eq]
      omega
    rw [e]
    have : ¬ a = b := fun e => hl (by rw [e])
    simp [this]
theorem eq_game (n : Int) (l : List Int) (m : Int) (k : List Int) (hl : l.length ≤ 1048576) (hk : k.length ≤ 1048576) : m_laws_eqGame n l m k = some (decide (n = m ∧ l = k)) := by
  unfold m_laws_eqGame
  rw [eq_ints l k hl hk]
  by_cases h1 : n = m
  · by_cases h2 : l = k
    · simp [h1, h2]
    · simp [h1, h2]
  · have : (n != m) = true := by simpa using h1
    simp [h1, this]
def Valid (n : Int) (l : List Int) : Prop := (1 ≤ n ∧ n ≤ 5) ∧ (l.length : Int) = 2 ^ n.toNat ∧ l.getD 0 0 = 0 ∧ ∀ i, i < l.length → -500 ≤ l.getD i 0 ∧ l.getD i 0 ≤ 500
open Classical in
noncomputable def validB (n : Int) (l : List Int) : Bool := decide (Valid n l)
theorem in_eq (a b c : Int) : m_spec_l1In a b c = some (decide (b ≤ a ∧ a ≤ c)) := by
  unfold m_spec_l1In
  by_cases h : a ≥ b
  · have h' : b ≤ a := h
    simp [h, h']
  · have h' : ¬ b ≤ a := h
    simp [h, h']
theorem within_eq (a b c : Int) : m_impl_within a b c = some (decide (b ≤ a ∧ a ≤ c)) := in_eq a b c
theorem count_eq (n : Int) (h1 : 1 ≤ n) (h2 : n ≤ 5) : m_spec_CountCoalitions n = some (2 ^ n.toNat) := by
  unfold m_spec_CountCoalitions
  rw [in_eq]
  have hb : decide ((0 : Int) ≤ n ∧ n ≤ 5) = true := by simp; omega
  rw [hb, Option.bind_some, Bool.not_true, cond_false]
  have hit := iter_up (step := l_spec_CountCoalitions_0 n) (fun i => ((2 : Int) ^ i, (i : Int))) n.toNat (a := 2 ^ n.toNat) (fun i hi => by
      have hlt : (i : Int) < n := by omega
      have hi5 : i < 5 := by omega
      unfold l_spec_CountCoalitions_0
      simp only [hlt, decide_true, cond_true]
      have hp : (2 : Int) ^ i ≤ 16 := by
        have : i = 0 ∨ i = 1 ∨ i = 2 ∨ i = 3 ∨ i = 4 := by omega
        rcases this with rfl | rfl | rfl | rfl | rfl <;> decide
      have hp0 : (0 : Int) < 2 ^ i := Int.pow_pos (by decide)
      rw [w64' (by omega) (by omega), w64' (by omega) (by omega)]
      simp [Int.pow_succ])
    (by
      unfold l_spec_CountCoalitions_0
      have : ¬ ((n.toNat : Int) < n) := by omega
      simp only [this, decide_false, cond_false])
  simp only [Int.pow_zero, Int.ofNat_eq_natCast, Int.natCast_zero] at hit
  rw [hit]
  rfl
theorem spec_valid (n : Int) (l : List Int) (hl : l.length ≤ 1048576) : m_spec_IsValidGame n l = some (validB n l) := by
  unfold m_spec_IsValidGame
  have hit := iter_first (step := l_spec_IsValidGame_0 l) (fun i => (i : Int)) l.length (fun i => decide (-500 ≤ l.getD i 0 ∧ l.getD i 0 ≤ 500)) (a := .inl ()) (fun _ => .inr false)
    (fun i hi hp => by
      have hi' : (i : Int) < l.length := by omega
      unfold l_spec_IsValidGame_0
      rw [decide_eq_true hi', cond_true, grd_pos ⟨by omega, hi'⟩, in_eq, Int.toNat_natCast, hp, Option.bind_some, Bool.not_true, cond_false, w64' (by omega) (by omega)]
      rfl)
    (fun i hi hp => by
      have hi' : (i : Int) < l.length := by omega
      unfold l_spec_IsValidGame_0
      rw [decide_eq_true hi', cond_true, grd_pos ⟨by omega, hi'⟩, in_eq, Int.toNat_natCast, hp]
      rfl)
    (by
      unfold l_spec_IsValidGame_0
      rw [decide_eq_false (by omega)]
      rfl)
  simp only [Int.ofNat_eq_natCast, Int.natCast_zero] at hit
  rcases hit with ⟨h1, h2⟩ | ⟨i, h1, h2, h3⟩
  · rw [h2]
    simp only [Option.bind_some]
    rw [in_eq]
    by_cases hn : 1 ≤ n ∧ n ≤ 5
    · rw [decide_eq_true hn, Option.bind_some, cond_true, count_eq n hn.1 hn.2, Option.bind_some]
      by_cases hlen : (l.length : Int) = 2 ^ n.toNat
      · have hpos : (0 : Int) < 2 ^ n.toNat := Int.pow_pos (by decide)
        have e1 : ((l.length : Int) == 2 ^ n.toNat) = true := by simpa using hlen
        rw [e1, cond_true, grd_pos ⟨by omega, by omega⟩]
        congr 1
        have h0 : (0 : Int).toNat = 0 := rfl
        rw [h0]
        by_cases hz : l.getD 0 0 = 0
        · have hv : Valid n l := ⟨hn, hlen, hz, fun i hi => by simpa using h1 i hi⟩
          rw [hz]
          simp [validB, hv]
        · have hv : ¬ Valid n l := fun h => hz h.2.2.1
          simp only [validB, hv, decide_false]
          simpa using hz
      · have e1 : ((l.length : Int) == 2 ^ n.toNat) = false := by simpa using hlen
        have hv : ¬ Valid n l := fun h => hlen h.2.1
        rw [e1, cond_false]
        simp [validB, hv]
    · have hv : ¬ Valid n l := fun h => hn h.1
      rw [decide_eq_false hn]
      simp [validB, hv]
  · rw [h3]
    have hv : ¬ Valid n l := fun h => by
      have := h.2.2.2 i h1
      simp only [decide_eq_false_iff_not] at h2
      exact h2 this
    simp [validB, hv]
theorem contains_eq (l : List Int) (hl : l.length ≤ 1048576) : ∃ r, m_slices_ContainsFunc_int_int_impl_IsValidGame_1 l = some r ∧ (r = false ↔ ∀ i, i < l.length → -500 ≤ l.getD i 0 ∧ l.getD i 0 ≤ 500) := by
  unfold m_slices_ContainsFunc_int_int_impl_IsValidGame_1 m_slices_IndexFunc_int_int_impl_IsValidGame_1
  have hm : ∀ x, m_impl_IsValidGame_1 x = some (!decide (-500 ≤ x ∧ x ≤ 500)) := fun x => by
    unfold m_impl_IsValidGame_1
    rw [within_eq]
    rfl
  have hit := iter_first (step := l_slices_IndexFunc_int_int_impl_IsValidGame_1_0 l) (fun i => (i : Int)) l.length (fun i => decide (-500 ≤ l.getD i 0 ∧ l.getD i 0 ≤ 500)) (a := .inl ()) (fun i => .inr (i : Int))
    (fun i hi hp => by
      have hi' : (i : Int) < l.length := by omega
      unfold l_slices_IndexFunc_int_int_impl_IsValidGame_1_0
      rw [decide_eq_true hi', cond_true, grd_pos ⟨by omega, hi'⟩, hm, Int.toNat_natCast, hp, Option.bind_some, Bool.not_true, cond_false, w64' (by omega) (by omega)]
      rfl)
    (fun i hi hp => by
      have hi' : (i : Int) < l.length := by omega
      unfold l_slices_IndexFunc_int_int_impl_IsValidGame_1_0
      rw [decide_eq_true hi', cond_true, grd_pos ⟨by omega, hi'⟩, hm, Int.toNat_natCast, hp]
      rfl)
    (by
      unfold l_slices_IndexFunc_int_int_impl_IsValidGame_1_0
      rw [decide_eq_false (by omega)]
      rfl)
  simp only [Int.ofNat_eq_natCast, Int.natCast_zero] at hit
  rcases hit with ⟨h1, h2⟩ | ⟨i, h1, h2, h3⟩
  · rw [h2]
    exact ⟨false, rfl, by simpa using h1⟩
  · rw [h3]
    refine ⟨true, by simp, ?_⟩
    simp only [reduceCtorEq, false_iff]
    intro h
    simp only [decide_eq_false_iff_not] at h2
    exact h2 (h i h1)
theorem impl_valid (n : Int) (l : List Int) (hl : l.length ≤ 1048576) : m_impl_IsValidGame n l = some (validB n l) := by
  unfold m_impl_IsValidGame
  rw [within_eq]
  by_cases hn : 1 ≤ n ∧ n ≤ 5
  · rw [decide_eq_true hn, Option.bind_some, Bool.not_true, cond_false, grd_pos (by omega)]
    have hw : IntKind.i64.wrap ((1 : Int) * 2 ^ (min n.toNat 64)) = 2 ^ n.toNat := by
      have : n = 1 ∨ n = 2 ∨ n = 3 ∨ n = 4 ∨ n = 5 := by omega
      rcases this with rfl | rfl | rfl | rfl | rfl <;> decide
    rw [hw]
    by_cases hlen : (l.length : Int) = 2 ^ n.toNat
    · have hpos : (0 : Int) < 2 ^ n.toNat := Int.pow_pos (by decide)
      have e1 : ((l.length : Int) != 2 ^ n.toNat) = false := by simpa using hlen
      rw [e1, cond_false, grd_pos ⟨by omega, by omega⟩]
      have h0 : (0 : Int).toNat = 0 := rfl
      rw [h0]
      by_cases hz : l.getD 0 0 = 0
      · have e2 : (l.getD 0 0 != 0) = false := by simpa using hz
        rw [e2, cond_false]
        obtain ⟨r, h1, h2⟩ := contains_eq l hl
        rw [h1, Option.bind_some]
        congr 1
        by_cases hr : r = false
        · have hv : Valid n l := ⟨hn, hlen, hz, h2.1 hr⟩
          simp [validB, hv, hr]
        · have hv : ¬ Valid n l := fun h => hr (h2.2 h.2.2.2)
          have hr' : r = true := by cases r <;> simp at hr ⊢
          simp [validB, hv, hr']
      · have e2 : (l.getD 0 0 != 0) = true := by simpa using hz
        have hv : ¬ Valid n l := fun h => hz h.2.2.1
        rw [e2]
        simp [validB, hv]
    · have e1 : ((l.length : Int) != 2 ^ n.toNat) = true := by simpa using hlen
      have hv : ¬ Valid n l := fun h => hlen h.2.1
      rw [e1]
      simp [validB, hv]
  · have hv : ¬ Valid n l := fun h => hn h.1
    rw [decide_eq_false hn]
    simp [validB, hv]
def tab {α : Type} (f : Nat → α) (n : Nat) : List α := (List.range n).map f
theorem tab_succ {α : Type} (f : Nat → α) (n : Nat) : tab f (n + 1) = tab f n ++ [f n] := by simp [tab, List.range_succ]
theorem tab_length {α : Type} (f : Nat → α) (n : Nat) : (tab f n).length = n := by simp [tab]
theorem tab_getD {α : Type} (f : Nat → α) (n : Nat) (d : α) (i : Nat) (h : i < n) : (tab f n).getD i d = f i := by
  simp [tab, List.getD, List.getElem?_map, List.getElem?_range h]
def fil {α : Type} (p : Nat → Bool) (f : Nat → α) (n : Nat) : List α := ((List.range n).filter p).map f
theorem fil_succ {α : Type} (p : Nat → Bool) (f : Nat → α) (n : Nat) : fil p f (n + 1) = if p n = true then fil p f n ++ [f n] else fil p f n := by
  simp only [fil, List.range_succ, List.filter_append]
  by_cases h : p n = true
  · simp [h]
  · simp [h]
theorem fil_length {α : Type} (p : Nat → Bool) (f : Nat → α) (n : Nat) : (fil p f n).length ≤ n := by
  simp only [fil, List.length_map]
  exact Nat.le_trans (List.length_filter_le _ _) (by simp)
def sm (f : Nat → Int) : Nat → Int
  | 0 => 0
  | n + 1 => sm f n + f n
theorem sm_bd {f : Nat → Int} {B : Int} : ∀ {n : Nat}, (∀ i, i < n → -B ≤ f i ∧ f i ≤ B) → -(B * n) ≤ sm f n ∧ sm f n ≤ B * n
  | 0, _ => by simp [sm]
  | n + 1, h => by
    have h1 := sm_bd (n := n) fun i hi => h i (by omega)
    have h2 := h n (by omega)
    have h3 : B * ((n + 1 : Nat) : Int) = B * n + B := by rw [Int.natCast_add, Int.mul_add]; simp
    simp only [sm]
    omega
theorem set_tab {α : Type} (f : Nat → α) (l : List α) (i : Nat) (h : i < l.length) : (tab f i ++ l.drop i).set i (f i) = tab f (i + 1) ++ l.drop (i + 1) := by
  rw [List.set_append]
  have h1 : ¬ i < (tab f i).length := by rw [tab_length]; omega
  rw [if_neg h1, tab_length, Nat.sub_self, tab_succ, List.drop_eq_getElem_cons h]
  simp only [List.set_cons_zero, List.append_assoc, List.singleton_append]
theorem getD_nat {α : Type} (l : List α) (i : Nat) (d : α) : l.getD (i : Int).toNat d = l.getD i d := by rw [Int.toNat_natCast]
theorem mark_ints (l : List Int) (k : Int) (h1 : 0 ≤ k) (h2 : k ≤ 1000000000000) (hl : l.length ≤ 1000000000000) : m_laws_markIntS_io1 l k = some (k + l.length, tab (fun i => k + (i : Int)) l.length) := by
  unfold m_laws_markIntS_io1
  have hit := iter_up (step := l_laws_markIntS_io1_0) (fun i => (k + (i : Int), (i : Int), tab (fun i => k + (i : Int)) i ++ l.drop i)) l.length (a := (k + l.length, tab (fun i => k + (i : Int)) l.length)) (fun i hi => by
      have hlen : (tab (fun i => k + (i : Int)) i ++ l.drop i).length = l.length := by simp [tab_length]; omega
      unfold l_laws_markIntS_io1_0
      simp only [hlen]
      rw [decide_eq_true (by omega), cond_true, grd_pos ⟨by omega, by omega⟩, w64' (by omega) (by omega), w64' (by omega) (by omega), Int.toNat_natCast, set_tab (fun i => k + (i : Int)) l i hi]
      simp [Int.add_assoc])
    (by
      unfold l_laws_markIntS_io1_0
      simp [tab_length])
  simp only [Int.natCast_zero, Int.add_zero, List.drop_zero, tab, List.range_zero, List.map_nil, List.nil_append] at hit
  rw [hit]
  rfl
theorem held_ints (k : Int) (n : Nat) (h1 : 0 ≤ k) (h2 : k ≤ 1000000000000) (hn : n ≤ 1000000000000) : m_laws_heldIntS (tab (fun i => k + (i : Int)) n) k = some (k + n) := by
  unfold m_laws_heldIntS
  have hit := iter_up (step := l_laws_heldIntS_0 (tab (fun i => k + (i : Int)) n)) (fun i => (k + (i : Int), (i : Int))) n (a := .inl (k + n)) (fun i hi => by
      unfold l_laws_heldIntS_0
      simp only [tab_length]
      rw [decide_eq_true (by omega), cond_true, grd_pos ⟨by omega, by omega⟩, w64' (by omega) (by omega), w64' (by omega) (by omega), getD_nat, tab_getD _ _ _ _ hi]
      simp [Int.add_assoc])
    (by
      unfold l_laws_heldIntS_0
      simp [tab_length])
  simp only [Int.natCast_zero, Int.add_zero] at hit
  rw [hit]
  rfl
theorem mark_game (n : Int) (l : List Int) (k : Int) (h1 : 0 ≤ k) (h2 : k ≤ 1000000000000) (hl : l.length ≤ 1000000000000) : m_laws_markGame_io1 n l k = some (k + l.length, tab (fun i => k + (i : Int)) l.length) := by
  unfold m_laws_markGame_io1
  rw [mark_ints l k h1 h2 hl]
  rfl
theorem held_game (n : Int) (k : Int) (m : Nat) (h1 : 0 ≤ k) (h2 : k ≤ 1000000000000) (hl : m ≤ 1000000000000) : m_laws_heldGame n (tab (fun i => k + (i : Int)) m) k = some (k + m) := by
  unfold m_laws_heldGame
  rw [held_ints k m h1 h2 hl, Option.bind_some, decide_eq_false (by omega), cond_false]
instance : DecidableEq Q := fun a b =>
  if h1 : a.num = b.num then
    if h2 : a.den = b.den then isTrue (by cases a; cases b; simp only at h1 h2; rw [h1, h2])
    else isFalse (fun h => h2 (by rw [h]))
  else isFalse (fun h => h1 (by rw [h]))
theorem count0 (n : Nat) (h : n ≤ 5) : m_spec_CountCoalitions (n : Int) = some (2 ^ n) := by
  rcases Nat.eq_zero_or_pos n with rfl | h1
  · unfold m_spec_CountCoalitions
    rw [in_eq, decide_eq_true (by omega), Option.bind_some, Bool.not_true, cond_false]
    rw [iter_done (a := (1 : Int)) (by simp [l_spec_CountCoalitions_0])]
    rfl
  · rw [count_eq (n : Int) (by omega) (by omega)]
    simp
theorem bit2 (k : Nat) (h : k < 5) : m_spec_l2Bit (k : Int) = some (2 ^ k) := by
  unfold m_spec_l2Bit
  rw [count0 k (by omega)]
  rfl
theorem and_tab : ∀ s : Fin 32, ∀ k : Fin 5, bitsOf .and .i64 (((s.val : Nat) : Int).fdiv (2 ^ (min ((k.val : Nat) : Int).toNat 64))) 1 = if s.val.testBit k.val then 1 else 0 := by decide +kernel
theorem has_tab : ∀ s : Fin 32, ∀ k : Fin 5, ((IntKind.i64.wrap (((s.val : Nat) : Int).tdiv (2 ^ k.val))).tmod 2 == 1) = s.val.testBit k.val := by decide +kernel
theorem shl_tab : ∀ k : Fin 6, IntKind.i64.wrap (1 * 2 ^ (min ((k.val : Nat) : Int).toNat 64)) = ((2 ^ k.val : Nat) : Int) := by decide +kernel
theorem or_tab : ∀ a : Fin 32, ∀ b : Fin 32, bitsOf .or .i64 ((a.val : Nat) : Int) ((b.val : Nat) : Int) = ((a.val ||| b.val : Nat) : Int) := by decide +kernel
theorem and_eq (s k : Nat) (hs : s < 32) (hk : k < 5) : bitsOf .and .i64 ((s : Int).fdiv (2 ^ (min (k : Int).toNat 64))) 1 = if s.testBit k then 1 else 0 := and_tab ⟨s, hs⟩ ⟨k, hk⟩
theorem shl_eq (k : Nat) (hk : k < 6) : IntKind.i64.wrap (1 * 2 ^ (min (k : Int).toNat 64)) = ((2 ^ k : Nat) : Int) := shl_tab ⟨k, hk⟩
theorem or_eq (a b : Nat) (ha : a < 32) (hb : b < 32) : bitsOf .or .i64 (a : Int) (b : Int) = ((a ||| b : Nat) : Int) := or_tab ⟨a, ha⟩ ⟨b, hb⟩
theorem pow_lt5 (k : Nat) (hk : k < 5) : 2 ^ k < 32 := by
  have : k = 0 ∨ k = 1 ∨ k = 2 ∨ k = 3 ∨ k = 4 := by omega
  rcases this with rfl | rfl | rfl | rfl | rfl <;> decide
theorem spec_has (s k : Nat) (hs : s < 32) (hk : k < 5) : m_spec_HasPlayer (s : Int) (k : Int) = some (s.testBit k) := by
  unfold m_spec_HasPlayer
  have hp : (0 : Int) < 2 ^ k := Int.pow_pos (by decide)
  rw [in_eq, decide_eq_true (by omega), Option.bind_some, cond_true, decide_eq_true (by omega), cond_true, bit2 k hk, Option.bind_some, grd_pos (by omega), grd_pos (by decide)]
  rw [← has_tab ⟨s, hs⟩ ⟨k, hk⟩]
/-- a valid game, in natural numbers -/
theorem valid_nat {n : Int} {l : List Int} (h : Valid n l) : ∃ N : Nat, n = (N : Int) ∧ 1 ≤ N ∧ N ≤ 5 ∧ l.length = 2 ^ N ∧ l.length ≤ 32 := by
  obtain ⟨h1, h2, _⟩ := h
  have hn : n = 1 ∨ n = 2 ∨ n = 3 ∨ n = 4 ∨ n = 5 := by omega
  refine ⟨n.toNat, by omega, by omega, by omega, ?_, ?_⟩
  · rcases hn with rfl | rfl | rfl | rfl | rfl <;> simp at h2 ⊢ <;> omega
  · rcases hn with rfl | rfl | rfl | rfl | rfl <;> simp at h2 ⊢ <;> omega
theorem validB_eq (n : Int) (l : List Int) : validB n l = true ↔ Valid n l := by simp [validB]
theorem pow_le32 {N : Nat} (h : N ≤ 5) : 2 ^ N ≤ 32 := by
  have : N = 0 ∨ N = 1 ∨ N = 2 ∨ N = 3 ∨ N = 4 ∨ N = 5 := by omega
  rcases this with rfl | rfl | rfl | rfl | rfl | rfl <;> decide
theorem impl_count (n : Nat) (h : n ≤ 5) : m_impl_CountCoalitions (n : Int) = some ((2 ^ n : Nat) : Int) := by
  unfold m_impl_CountCoalitions
  rw [within_eq, decide_eq_true (by omega), Option.bind_some, Bool.not_true, cond_false, grd_pos (by omega), shl_eq n (by omega)]
theorem pow_bd (i : Nat) (h : i < 5) : (0 : Int) < 2 ^ i ∧ (2 : Int) ^ i ≤ 16 := by
  have : i = 0 ∨ i = 1 ∨ i = 2 ∨ i = 3 ∨ i = 4 := by omega
  rcases this with rfl | rfl | rfl | rfl | rfl <;> decide
theorem good_eq (a : Nat) (ha : a < 32) : m_spec_l2Good (a : Int) = some true := by
  unfold m_spec_l2Good
  rw [in_eq, decide_eq_true (by omega)]
  rfl
theorem impl_has (s k : Nat) (hs : s < 32) (hk : k < 5) : m_impl_HasPlayer (s : Int) (k : Int) = some (s.testBit k) := by
  unfold m_impl_HasPlayer
  rw [decide_eq_true (by omega), cond_true, within_eq, decide_eq_true (by omega), Option.bind_some, cond_true, grd_pos (by omega), and_eq s k hs hk]
  cases s.testBit k <;> rfl
def mems (s : Nat) : List Int := fil s.testBit (fun k => (k : Int)) 5
theorem spec_members (s : Nat) (hs : s < 32) : m_spec_MembersOf (s : Int) = some (mems s) := by
  unfold m_spec_MembersOf
  have hit := iter_up (step := l_spec_MembersOf_0 (s : Int)) (fun k => ((k : Int), fil s.testBit (fun k => (k : Int)) k)) 5 (a := mems s) (fun k hk => by
      have hb := fil_length s.testBit (fun k => (k : Int)) k
      unfold l_spec_MembersOf_0
      dsimp only
      rw [decide_eq_true (by omega), cond_true, good_eq s hs, Option.bind_some, cond_true, spec_has s k hs hk, Option.bind_some, w64' (by omega) (by omega), fil_succ, grd_pos (by simp only [List.length_singleton, room]; omega)]
      cases s.testBit k <;> rfl)
    (by unfold l_spec_MembersOf_0; dsimp only; rw [decide_eq_false (by omega)]; rfl)
  have e : fil s.testBit (fun k => (k : Int)) 0 = [] := rfl
  simp only [Int.natCast_zero, e] at hit
  rw [hit]
  rfl
theorem impl_members (s : Nat) (hs : s < 32) : m_impl_MembersOf (s : Int) = some (mems s) := by
  unfold m_impl_MembersOf
  have hit := iter_up (step := l_impl_MembersOf_0 (s : Int)) (fun k => ((k : Int), fil s.testBit (fun k => (k : Int)) k)) 5 (a := mems s) (fun k hk => by
      have hb := fil_length s.testBit (fun k => (k : Int)) k
      unfold l_impl_MembersOf_0
      dsimp only
      rw [decide_eq_true (by omega), cond_true, impl_has s k hs hk, Option.bind_some, w64' (by omega) (by omega), fil_succ, grd_pos (by simp only [List.length_singleton, room]; omega)]
      cases s.testBit k <;> rfl)
    (by unfold l_impl_MembersOf_0; dsimp only; rw [decide_eq_false (by omega)]; rfl)
  have e : fil s.testBit (fun k => (k : Int)) 0 = [] := rfl
  simp only [Int.natCast_zero, e] at hit
  rw [within_eq, decide_eq_true (by omega), Option.bind_some, Bool.not_true, cond_false, hit]
  rfl
theorem mems_mem {s : Nat} {m : Int} (h : m ∈ mems s) : ∃ k : Nat, m = (k : Int) ∧ k < 5 ∧ s.testBit k = true := by
  simp only [mems, fil, List.mem_map, List.mem_filter, List.mem_range] at h
  obtain ⟨k, ⟨h1, h2⟩, h3⟩ := h
  exact ⟨k, h3.symm, h1, h2⟩
theorem mems_length (s : Nat) : (mems s).length ≤ 5 := fil_length _ _ _
def wt (ms : List Int) (t k : Nat) : Int := if t.testBit k = true then 2 ^ (ms.getD k 0).toNat else 0
def wO (ms : List Int) (t : Nat) : Nat → Nat
  | 0 => 0
  | k + 1 => wO ms t k ||| (if t.testBit k = true then 2 ^ (ms.getD k 0).toNat else 0)
theorem mems_get (s k : Nat) (h : k < (mems s).length) : ∃ m : Nat, (mems s).getD k 0 = (m : Int) ∧ m < 5 := by
  have hm : (mems s).getD k 0 ∈ mems s := by
    simp [List.getD, List.getElem?_eq_getElem h]
  obtain ⟨m, h1, h2, _⟩ := mems_mem hm
  exact ⟨m, h1, h2⟩
theorem wt_bd (s t k : Nat) (hk : k ≤ (mems s).length) : -(16 * (k : Int)) ≤ sm (wt (mems s) t) k ∧ sm (wt (mems s) t) k ≤ 16 * k :=
  sm_bd fun i hi => by
    obtain ⟨m, h1, h2⟩ := mems_get s i (by omega)
    have := pow_bd m h2
    unfold wt
    rw [h1, Int.toNat_natCast]
    split <;> omega
theorem wO_lt (s t : Nat) : ∀ k, k ≤ (mems s).length → wO (mems s) t k < 32
  | 0, _ => by simp [wO]
  | k + 1, h => by
    obtain ⟨m, h1, h2⟩ := mems_get s k (by omega)
    have h3 := wO_lt s t k (by omega)
    have h4 := pow_lt5 m h2
    unfold wO
    rw [h1, Int.toNat_natCast]
    refine Nat.or_lt_two_pow (n := 5) h3 ?_
    split
    · exact h4
    · decide
theorem wide_tab : ∀ s : Fin 32, ∀ t : Fin 32, sm (wt (mems s.val) t.val) (mems s.val).length = ((wO (mems s.val) t.val (mems s.val).length : Nat) : Int) ∧ wO (mems s.val) t.val (mems s.val).length ≤ s.val := by decide +kernel
theorem mems_ne : ∀ s : Fin 32, s.val ≠ 0 → 1 ≤ (mems s.val).length := by decide +kernel
theorem wO_zero (ms : List Int) : ∀ k, wO ms 0 k = 0
  | 0 => rfl
  | k + 1 => by simp [wO, wO_zero ms k]
theorem spec_wide (s t : Nat) (hs : s < 32) (ht : t < 32) : m_spec_l8Wide (mems s) (t : Int) = some ((wO (mems s) t (mems s).length : Nat) : Int) := by
  unfold m_spec_l8Wide
  have hml := mems_length s
  have hit := iter_up (step := l_spec_l8Wide_0 (mems s) (t : Int)) (fun k => (sm (wt (mems s) t) k, (k : Int))) (mems s).length (a := sm (wt (mems s) t) (mems s).length) (fun k hk => by
      obtain ⟨m, h1, h2⟩ := mems_get s k hk
      have hb := wt_bd s t k (by omega)
      have hp := pow_bd m h2
      unfold l_spec_l8Wide_0
      dsimp only
      rw [decide_eq_true (by omega), cond_true, spec_has t k ht (by omega), Option.bind_some, grd_pos (by omega), getD_nat, h1, bit2 m h2, Option.bind_some, w64' (n := (k : Int) + 1) (by omega) (by omega), w64' (by omega) (by omega)]
      simp only [sm, wt, h1, Int.toNat_natCast]
      cases t.testBit k <;> simp)
    (by unfold l_spec_l8Wide_0; dsimp only; rw [decide_eq_false (by omega)]; rfl)
  simp only [Int.natCast_zero, sm] at hit
  rw [hit, (wide_tab ⟨s, hs⟩ ⟨t, ht⟩).1]
  rfl
theorem impl_wide (s t : Nat) (ht : t < 32) (y : Int) (l : List Int) (hlt : wO (mems s) t (mems s).length < l.length) : m_impl_Restrict_1 (t : Int) (mems s) y l = some (l.getD (wO (mems s) t (mems s).length) 0) := by
  unfold m_impl_Restrict_1
  have hml := mems_length s
  have hit := iter_up (step := l_impl_Restrict_1_0 (t : Int) (mems s)) (fun k => (((wO (mems s) t k : Nat) : Int), (k : Int))) (mems s).length (a := ((wO (mems s) t (mems s).length : Nat) : Int)) (fun k hk => by
      obtain ⟨m, h1, h2⟩ := mems_get s k hk
      have hb := wO_lt s t k (by omega)
      have h4 := pow_lt5 m h2
      unfold l_impl_Restrict_1_0
      dsimp only
      rw [decide_eq_true (by omega), cond_true, grd_pos (by omega), grd_pos (by omega), getD_nat, h1, grd_pos (by omega), and_eq t k ht (by omega), w64' (n := (k : Int) + 1) (by omega) (by omega)]
      simp only [wO, h1, Int.toNat_natCast]
      cases htb : t.testBit k with
      | true =>
        have e := shl_eq m (by omega)
        rw [Int.toNat_natCast] at e
        simp only [if_true]
        rw [e, or_eq _ _ hb h4]
        rfl
      | false =>
        have e : IntKind.i64.wrap ((if false = true then 1 else 0) * 2 ^ (min m 64)) = ((0 : Nat) : Int) := by
          simp only [Bool.false_eq_true, if_false, Int.zero_mul]
          decide
        rw [e, or_eq _ _ hb (by decide)]
        rfl)
    (by unfold l_impl_Restrict_1_0; dsimp only; rw [decide_eq_false (by omega)]; rfl)
  simp only [Int.natCast_zero, wO] at hit
  rw [hit, Option.bind_some]
  dsimp only
  rw [grd_pos (by omega), getD_nat]
theorem restrict_both (n : Int) (l : List Int) (s : Int) (hl : l.length ≤ 1048576) : ∃ a b r, r.length ≤ 1048576 ∧ m_spec_Restrict n l s = some (a, b, r) ∧ m_impl_Restrict n l s = some (a, b, r) := by
  unfold m_spec_Restrict m_impl_Restrict
  rw [spec_valid n l hl, impl_valid n l hl]
  cases hv : validB n l with
  | false => exact ⟨0, false, [], by simp, rfl, rfl⟩
  | true =>
    have hV := (validB_eq n l).1 hv
    obtain ⟨N, rfl, h1, h2, h3, h4⟩ := valid_nat hV
    have h32 := pow_le32 h2
    simp only [Option.bind_some, Bool.not_true, cond_false, in_eq, within_eq, w64' (n := (l.length : Int) - 1) (by omega) (by omega)]
    by_cases hs : 1 ≤ s ∧ s ≤ (l.length : Int) - 1
    · obtain ⟨S, rfl⟩ := Int.eq_ofNat_of_zero_le (show 0 ≤ s by omega)
      have hS : S < 32 := by omega
      have hm1 := mems_ne ⟨S, hS⟩ (by show S ≠ 0; omega)
      have hm5 := mems_length S
      simp only at hm1
      have hM := pow_le32 hm5
      rw [decide_eq_true hs, Bool.not_true, cond_false, cond_false, spec_members S hS, impl_members S hS, Option.bind_some, Option.bind_some, count0 _ hm5, Option.bind_some]
      let f : Nat → Int := fun t => l.getD (wO (mems S) t (mems S).length) 0
      have hw : ∀ t, t < 32 → wO (mems S) t (mems S).length < l.length := fun t ht => by
        have := (wide_tab ⟨S, hS⟩ ⟨t, ht⟩).2
        simp only at this
        omega
      have s1 := iter_up (step := l_spec_Restrict_0 l (mems S) (2 ^ (mems S).length)) (fun i => ((i : Int), tab f i)) (2 ^ (mems S).length) (a := tab f (2 ^ (mems S).length)) (fun i hi => by
          have h5 := hw i (by omega)
          unfold l_spec_Restrict_0
          dsimp only
          have hlt : (i : Int) < 2 ^ (mems S).length := by
            have : ((2 ^ (mems S).length : Nat) : Int) = 2 ^ (mems S).length := by simp
            omega
          rw [decide_eq_true hlt, cond_true, spec_wide S i hS (by omega), Option.bind_some, grd_pos (by omega), getD_nat, grd_pos (by simp only [tab_length, List.length_singleton, room]; omega), w64' (by omega) (by omega), tab_succ]
          rfl)
        (by
          unfold l_spec_Restrict_0
          dsimp only
          have hlt : ¬ (((2 ^ (mems S).length : Nat) : Int) < 2 ^ (mems S).length) := by simp
          rw [decide_eq_false hlt]
          rfl)
      have s2 := iter_up (step := l_impl_made_impl_Restrict_1_0 (mems S) (N : Int) l ((2 ^ (mems S).length : Nat) : Int)) (fun i => ((i : Int), tab f i)) (2 ^ (mems S).length) (a := tab f (2 ^ (mems S).length)) (fun i hi => by
          have h5 := hw i (by omega)
          unfold l_impl_made_impl_Restrict_1_0
          dsimp only
          rw [decide_eq_true (by omega), cond_true, impl_wide S i (by omega) _ l h5, Option.bind_some, grd_pos (by simp only [tab_length, List.length_singleton, room]; omega), w64' (by omega) (by omega), tab_succ]
          rfl)
        (by unfold l_impl_made_impl_Restrict_1_0; dsimp only; rw [decide_eq_false (by omega)]; rfl)
      have e0 : tab f 0 = [] := rfl
      simp only [Int.natCast_zero, e0] at s1 s2
      have hb : (tab f (2 ^ (mems S).length)).length ≤ 1048576 := by rw [tab_length]; omega
      have hval : validB (((mems S).length : Nat) : Int) (tab f (2 ^ (mems S).length)) = true := by
        rw [validB_eq]
        have hp : 0 < 2 ^ (mems S).length := Nat.pow_pos (by decide)
        refine ⟨by omega, by rw [tab_length]; simp, ?_, fun i hi => ?_⟩
        · rw [tab_getD f _ 0 0 hp]
          show l.getD (wO (mems S) 0 (mems S).length) 0 = 0
          rw [wO_zero]
          exact hV.2.2.1
        · rw [tab_length] at hi
          rw [tab_getD f _ 0 i hi]
          exact hV.2.2.2 _ (hw i (by omega))
      unfold m_impl_made_impl_Restrict_1
      rw [impl_count _ hm5, Option.bind_some, s1, s2]
      simp only [Option.bind_some]
      rw [impl_valid _ _ hb, hval]
      exact ⟨_, _, _, hb, rfl, rfl⟩
    · rw [decide_eq_false hs]
      exact ⟨0, false, [], by simp, rfl, rfl⟩
theorem law_FnExactRestrict (n : Int) (l : List Int) (s : Int) (_ : I64 n) (hl : l.length ≤ maxLen ∧ ∀ n ∈ l, I64 n) (_ : I64 s) : m_laws_FnExactRestrict n l s = some true := by
  unfold m_laws_FnExactRestrict
  rw [sz_game n l _ (by decide) (by decide) hl.1]
  by_cases h2 : (1048576 : Int) < l.length
  · simp [h2]
  · have h3 : ¬ (1048576 : Int) - (l.length : Int) < 0 := by omega
    have hl' : l.length ≤ 1048576 := by omega
    obtain ⟨a, b, r, hr, e1, e2⟩ := restrict_both n l s hl'
    have c1 : ¬ (1 : Int) + (l.length : Int) < 0 := by omega
    have c2 : ¬ (1 : Int) + (r.length : Int) < 0 := by omega
    simp [h2, h3, to_game n l hl', e1, e2, eq_game n l n l hl' hl', eq_game a r a r hr hr, mark_game n l 1 (by decide) (by decide) (by omega),
      mark_game a r 1 (by decide) (by decide) (by omega), held_game a 1 r.length (by decide) (by decide) (by omega), c1, c2]
end Go.Proofs.Ytdobcjgdhgfedaa
