/- The plain laws: what the models of FnExactLeastLP compute. No condition beyond those that each theorem names. -/
import Derived.Test.YtoefgmmmcpikfaaGELeastLP
import Derived.Test.YtoefgmmmcpikfaaAmC
namespace Go.Proofs.Ytoefgmmmcpikfaa
open Go.AM
theorem sz_ints (l : List Int) (k : Int) (h1 : 0 ≤ k) (h2 : k ≤ 1048576) (hl : l.length ≤ maxLen) : m_laws_szIntS l k = some (if k < l.length then -1 else k - l.length) := by
  have hl' : (l.length : Int) ≤ 9223372036854775807 := by simp only [maxLen] at hl; omega
  have hw : IntKind.i64.wrap (k - (l.length : Int)) = k - l.length := w64' (by omega) (by omega)
  unfold m_laws_szIntS
  rw [hw]
  by_cases h : k < l.length
  · have : k - (l.length : Int) < 0 := by omega
    simp [h, this]
  · have : ¬ k - (l.length : Int) < 0 := by omega
    simp [h, this]
theorem sz_game (n : Int) (l : List Int) (k : Int) (h1 : 0 ≤ k) (h2 : k ≤ 1048576) (hl : l.length ≤ maxLen) : m_laws_szGame n l k = some (if k < l.length then -1 else k - l.length) := by
  unfold m_laws_szGame
  rw [sz_ints l k h1 h2 hl]
  by_cases h : k < l.length
  · simp [h]
  · have : ¬ k - (l.length : Int) < 0 := by omega
    simp [h, this]
theorem to_ints (l : List Int) (hl : l.length ≤ 1048576) : m_laws_toIntS l = some l := by
  unfold m_laws_toIntS
  rw [grd_pos ⟨by omega, rfl, by simp only [room]; omega⟩]
  have h := iter_up (step := l_laws_toIntS_0 l) (fun i => ((i : Int), l.take i ++ List.replicate (l.length - i) 0)) l.length (a := l) (fun i hi => ?_) ?_
  · simp only [List.take_zero, List.nil_append, Nat.sub_zero, Int.ofNat_eq_natCast] at h
    simp only [Int.toNat_natCast]
    rw [show ((0 : Int), List.replicate l.length (0 : Int)) = (((0 : Nat) : Int), List.replicate l.length (0 : Int)) from rfl, h]
    rfl
  · have hi' : (i : Int) < l.length := by omega
    have hlen : ((l.take i ++ List.replicate (l.length - i) (0 : Int)).length : Int) = l.length := by simp; omega
    simp only [l_laws_toIntS_0, hi', decide_true, cond_true]
    rw [grd_pos ⟨by omega, trivial⟩, grd_pos ⟨by omega, by rw [hlen]; exact hi'⟩]
    rw [w64' (by omega) (by omega), Int.toNat_natCast, set_copy l 0 0 i hi]
    rfl
  · simp [l_laws_toIntS_0]
theorem to_game (n : Int) (l : List Int) (hl : l.length ≤ 1048576) : m_laws_toGame n l = some (n, l) := by
  unfold m_laws_toGame
  rw [to_ints l hl]
  rfl
theorem eq_ints (a b : List Int) (ha : a.length ≤ 1048576) (hb : b.length ≤ 1048576) : m_laws_eqIntS a b = some (decide (a = b)) := by
  unfold m_laws_eqIntS
  by_cases hl : a.length = b.length
  · have e : ((a.length : Int) != (b.length : Int)) = false := by simp [hl]
    have hit := iter_all (step := l_laws_eqIntS_0 a b) (fun i => (i : Int)) a.length (fun i => a.getD i 0 == b.getD i 0) (a := .inl ()) (b := .inr false)
      (fun i hi hp => by
        have hi' : (i : Int) < a.length := by omega
        have hi2 : (i : Int) < b.length := by omega
        unfold l_laws_eqIntS_0
        rw [decide_eq_true hi', cond_true, grd_pos ⟨by omega, hi'⟩, grd_pos ⟨by omega, hi2⟩]
        simp only [beq_iff_eq] at hp
        rw [Int.toNat_natCast, hp, w64' (by omega) (by omega), bne_self_eq_false, cond_false]
        rfl)
      (fun i hi hp => by
        have hi' : (i : Int) < a.length := by omega
        have hi2 : (i : Int) < b.length := by omega
        unfold l_laws_eqIntS_0
        rw [decide_eq_true hi', cond_true, grd_pos ⟨by omega, hi'⟩, grd_pos ⟨by omega, hi2⟩]
        rw [Int.toNat_natCast]
        have : (a.getD i 0 != b.getD i 0) = true := by
          simp only [bne, hp, Bool.not_false]
        rw [this]
        rfl)
      (by
        unfold l_laws_eqIntS_0
        rw [decide_eq_false (by omega)]
        rfl)
    rw [e, cond_false]
    simp only [Int.ofNat_eq_natCast, Int.natCast_zero] at hit
    rw [hit]
    by_cases hall : ∀ i, i < a.length → (a.getD i 0 == b.getD i 0) = true
    · have : a = b := eq_of_all 0 hl fun i hi => by simpa using hall i hi
      rw [if_pos hall]
      simp [this]
    · have : ¬ a = b := fun e => hall fun i hi => by rw [e]; simp
      rw [if_neg hall]
      simp [this]
  · have e : ((a.length : Int) != (b.length : Int)) = true := by
      simp only [bne_iff_ne, ne_eq]
      omega
    rw [e]
    have : ¬ a = b := fun e => hl (by rw [e])
    simp [this]
theorem eq_game (n : Int) (l : List Int) (m : Int) (k : List Int) (hl : l.length ≤ 1048576) (hk : k.length ≤ 1048576) : m_laws_eqGame n l m k = some (decide (n = m ∧ l = k)) := by
  unfold m_laws_eqGame
  rw [eq_ints l k hl hk]
  by_cases h1 : n = m
  · by_cases h2 : l = k
    · simp [h1, h2]
    · simp [h1, h2]
  · have : (n != m) = true := by simpa using h1
    simp [h1, this]
def Valid (n : Int) (l : List Int) : Prop := (1 ≤ n ∧ n ≤ 5) ∧ (l.length : Int) = 2 ^ n.toNat ∧ l.getD 0 0 = 0 ∧ ∀ i, i < l.length → -500 ≤ l.getD i 0 ∧ l.getD i 0 ≤ 500
open Classical in
noncomputable def validB (n : Int) (l : List Int) : Bool := decide (Valid n l)
theorem in_eq (a b c : Int) : m_spec_l1In a b c = some (decide (b ≤ a ∧ a ≤ c)) := by
  unfold m_spec_l1In
  by_cases h : a ≥ b
  · have h' : b ≤ a := h
    simp [h, h']
  · have h' : ¬ b ≤ a := h
    simp [h, h']
theorem within_eq (a b c : Int) : m_impl_within a b c = some (decide (b ≤ a ∧ a ≤ c)) := in_eq a b c
theorem count_eq (n : Int) (h1 : 1 ≤ n) (h2 : n ≤ 5) : m_spec_CountCoalitions n = some (2 ^ n.toNat) := by
  unfold m_spec_CountCoalitions
  rw [in_eq]
  have hb : decide ((0 : Int) ≤ n ∧ n ≤ 5) = true := by simp; omega
  rw [hb, Option.bind_some, Bool.not_true, cond_false]
  have hit := iter_up (step := l_spec_CountCoalitions_0 n) (fun i => ((2 : Int) ^ i, (i : Int))) n.toNat (a := 2 ^ n.toNat) (fun i hi => by
      have hlt : (i : Int) < n := by omega
      have hi5 : i < 5 := by omega
      unfold l_spec_CountCoalitions_0
      simp only [hlt, decide_true, cond_true]
      have hp : (2 : Int) ^ i ≤ 16 := by
        have : i = 0 ∨ i = 1 ∨ i = 2 ∨ i = 3 ∨ i = 4 := by omega
        rcases this with rfl | rfl | rfl | rfl | rfl <;> decide
      have hp0 : (0 : Int) < 2 ^ i := Int.pow_pos (by decide)
      rw [w64' (by omega) (by omega), w64' (by omega) (by omega)]
      simp [Int.pow_succ])
    (by
      unfold l_spec_CountCoalitions_0
      have : ¬ ((n.toNat : Int) < n) := by omega
      simp only [this, decide_false, cond_false])
  simp only [Int.pow_zero, Int.ofNat_eq_natCast, Int.natCast_zero] at hit
  rw [hit]
  rfl
theorem spec_valid (n : Int) (l : List Int) (hl : l.length ≤ 1048576) : m_spec_IsValidGame n l = some (validB n l) := by
  unfold m_spec_IsValidGame
  have hit := iter_first (step := l_spec_IsValidGame_0 l) (fun i => (i : Int)) l.length (fun i => decide (-500 ≤ l.getD i 0 ∧ l.getD i 0 ≤ 500)) (a := .inl ()) (fun _ => .inr false)
    (fun i hi hp => by
      have hi' : (i : Int) < l.length := by omega
      unfold l_spec_IsValidGame_0
      rw [decide_eq_true hi', cond_true, grd_pos ⟨by omega, hi'⟩, in_eq, Int.toNat_natCast, hp, Option.bind_some, Bool.not_true, cond_false, w64' (by omega) (by omega)]
      rfl)
    (fun i hi hp => by
      have hi' : (i : Int) < l.length := by omega
      unfold l_spec_IsValidGame_0
      rw [decide_eq_true hi', cond_true, grd_pos ⟨by omega, hi'⟩, in_eq, Int.toNat_natCast, hp]
      rfl)
    (by
      unfold l_spec_IsValidGame_0
      rw [decide_eq_false (by omega)]
      rfl)
  simp only [Int.ofNat_eq_natCast, Int.natCast_zero] at hit
  rcases hit with ⟨h1, h2⟩ | ⟨i, h1, h2, h3⟩
  · rw [h2]
    simp only [Option.bind_some]
    rw [in_eq]
    by_cases hn : 1 ≤ n ∧ n ≤ 5
    · rw [decide_eq_true hn, Option.bind_some, cond_true, count_eq n hn.1 hn.2, Option.bind_some]
      by_cases hlen : (l.length : Int) = 2 ^ n.toNat
      · have hpos : (0 : Int) < 2 ^ n.toNat := Int.pow_pos (by decide)
        have e1 : ((l.length : Int) == 2 ^ n.toNat) = true := by simpa using hlen
        rw [e1, cond_true, grd_pos ⟨by omega, by omega⟩]
        congr 1
        have h0 : (0 : Int).toNat = 0 := rfl
        rw [h0]
        by_cases hz : l.getD 0 0 = 0
        · have hv : Valid n l := ⟨hn, hlen, hz, fun i hi => by simpa using h1 i hi⟩
          rw [hz]
          simp [validB, hv]
        · have hv : ¬ Valid n l := fun h => hz h.2.2.1
          simp only [validB, hv, decide_false]
          simpa using hz
      · have e1 : ((l.length : Int) == 2 ^ n.toNat) = false := by simpa using hlen
        have hv : ¬ Valid n l := fun h => hlen h.2.1
        rw [e1, cond_false]
        simp [validB, hv]
    · have hv : ¬ Valid n l := fun h => hn h.1
      rw [decide_eq_false hn]
      simp [validB, hv]
  · rw [h3]
    have hv : ¬ Valid n l := fun h => by
      have := h.2.2.2 i h1
      simp only [decide_eq_false_iff_not] at h2
      exact h2 this
    simp [validB, hv]
theorem contains_eq (l : List Int) (hl : l.length ≤ 1048576) : ∃ r, m_slices_ContainsFunc_int_int_impl_IsValidGame_1 l = some r ∧ (r = false ↔ ∀ i, i < l.length → -500 ≤ l.getD i 0 ∧ l.getD i 0 ≤ 500) := by
  unfold m_slices_ContainsFunc_int_int_impl_IsValidGame_1 m_slices_IndexFunc_int_int_impl_IsValidGame_1
  have hm : ∀ x, m_impl_IsValidGame_1 x = some (!decide (-500 ≤ x ∧ x ≤ 500)) := fun x => by
    unfold m_impl_IsValidGame_1
    rw [within_eq]
    rfl
  have hit := iter_first (step := l_slices_IndexFunc_int_int_impl_IsValidGame_1_0 l) (fun i => (i : Int)) l.length (fun i => decide (-500 ≤ l.getD i 0 ∧ l.getD i 0 ≤ 500)) (a := .inl ()) (fun i => .inr (i : Int))
    (fun i hi hp => by
      have hi' : (i : Int) < l.length := by omega
      unfold l_slices_IndexFunc_int_int_impl_IsValidGame_1_0
      rw [decide_eq_true hi', cond_true, grd_pos ⟨by omega, hi'⟩, hm, Int.toNat_natCast, hp, Option.bind_some, Bool.not_true, cond_false, w64' (by omega) (by omega)]
      rfl)
    (fun i hi hp => by
      have hi' : (i : Int) < l.length := by omega
      unfold l_slices_IndexFunc_int_int_impl_IsValidGame_1_0
      rw [decide_eq_true hi', cond_true, grd_pos ⟨by omega, hi'⟩, hm, Int.toNat_natCast, hp]
      rfl)
    (by
      unfold l_slices_IndexFunc_int_int_impl_IsValidGame_1_0
      rw [decide_eq_false (by omega)]
      rfl)
  simp only [Int.ofNat_eq_natCast, Int.natCast_zero] at hit
  rcases hit with ⟨h1, h2⟩ | ⟨i, h1, h2, h3⟩
  · rw [h2]
    exact ⟨false, rfl, by simpa using h1⟩
  · rw [h3]
    refine ⟨true, by simp, ?_⟩
    simp only [reduceCtorEq, false_iff]
    intro h
    simp only [decide_eq_false_iff_not] at h2
    exact h2 (h i h1)
theorem impl_valid (n : Int) (l : List Int) (hl : l.length ≤ 1048576) : m_impl_IsValidGame n l = some (validB n l) := by
  unfold m_impl_IsValidGame
  rw [within_eq]
  by_cases hn : 1 ≤ n ∧ n ≤ 5
  · rw [decide_eq_true hn, Option.bind_some, Bool.not_true, cond_false, grd_pos (by omega)]
    have hw : IntKind.i64.wrap ((1 : Int) * 2 ^ (min n.toNat 64)) = 2 ^ n.toNat := by
      have : n = 1 ∨ n = 2 ∨ n = 3 ∨ n = 4 ∨ n = 5 := by omega
      rcases this with rfl | rfl | rfl | rfl | rfl <;> decide
    rw [hw]
    by_cases hlen : (l.length : Int) = 2 ^ n.toNat
    · have hpos : (0 : Int) < 2 ^ n.toNat := Int.pow_pos (by decide)
      have e1 : ((l.length : Int) != 2 ^ n.toNat) = false := by simpa using hlen
      rw [e1, cond_false, grd_pos ⟨by omega, by omega⟩]
      have h0 : (0 : Int).toNat = 0 := rfl
      rw [h0]
      by_cases hz : l.getD 0 0 = 0
      · have e2 : (l.getD 0 0 != 0) = false := by simpa using hz
        rw [e2, cond_false]
        obtain ⟨r, h1, h2⟩ := contains_eq l hl
        rw [h1, Option.bind_some]
        congr 1
        by_cases hr : r = false
        · have hv : Valid n l := ⟨hn, hlen, hz, h2.1 hr⟩
          simp [validB, hv, hr]
        · have hv : ¬ Valid n l := fun h => hr (h2.2 h.2.2.2)
          have hr' : r = true := by cases r <;> simp at hr ⊢
          simp [validB, hv, hr']
      · have e2 : (l.getD 0 0 != 0) = true := by simpa using hz
        have hv : ¬ Valid n l := fun h => hz h.2.2.1
        rw [e2]
        simp [validB, hv]
    · have e1 : ((l.length : Int) != 2 ^ n.toNat) = true := by simpa using hlen
      have hv : ¬ Valid n l := fun h => hlen h.2.1
      rw [e1]
      simp [validB, hv]
  · have hv : ¬ Valid n l := fun h => hn h.1
    rw [decide_eq_false hn]
    simp [validB, hv]
theorem iter_find {S A : Type} {step : S → Option (S ⊕ A)} (st : Nat → S) (n : Nat) (p : Nat → Bool) (a : A) (b : Nat → A)
    (hs : ∀ i, i < n → step (st i) = some (if p i = true then .inr (b i) else .inl (st (i + 1)))) (hd : step (st n) = some (.inr a)) :
    iter step (st 0) = some (match (List.range n).find? p with
      | some i => b i
      | none => a) := by
  have key : ∀ k, k ≤ n → iter step (st (n - k)) = some (match (List.range' (n - k) k).find? p with
      | some i => b i
      | none => a) := by
    intro k
    induction k with
    | zero => intro _; simpa using iter_done hd
    | succ k ih =>
      intro hk
      have h1 := hs (n - (k + 1)) (by omega)
      rw [List.range'_succ, List.find?_cons]
      cases hp : p (n - (k + 1)) with
      | true =>
        rw [if_pos hp] at h1
        exact iter_done h1
      | false =>
        rw [if_neg (by simp [hp])] at h1
        rw [iter_next h1, show n - (k + 1) + 1 = n - k by omega]
        exact ih (by omega)
  have := key n (Nat.le_refl _)
  rw [Nat.sub_self, ← List.range_eq_range'] at this
  exact this
def tab {α : Type} (f : Nat → α) (n : Nat) : List α := (List.range n).map f
theorem tab_succ {α : Type} (f : Nat → α) (n : Nat) : tab f (n + 1) = tab f n ++ [f n] := by simp [tab, List.range_succ]
theorem tab_length {α : Type} (f : Nat → α) (n : Nat) : (tab f n).length = n := by simp [tab]
theorem tab_getD {α : Type} (f : Nat → α) (n : Nat) (d : α) (i : Nat) (h : i < n) : (tab f n).getD i d = f i := by
  simp [tab, List.getD, List.getElem?_map, List.getElem?_range h]
def sm (f : Nat → Int) : Nat → Int
  | 0 => 0
  | n + 1 => sm f n + f n
theorem sm_bd {f : Nat → Int} {B : Int} : ∀ {n : Nat}, (∀ i, i < n → -B ≤ f i ∧ f i ≤ B) → -(B * n) ≤ sm f n ∧ sm f n ≤ B * n
  | 0, _ => by simp [sm]
  | n + 1, h => by
    have h1 := sm_bd (n := n) fun i hi => h i (by omega)
    have h2 := h n (by omega)
    have h3 : B * ((n + 1 : Nat) : Int) = B * n + B := by rw [Int.natCast_add, Int.mul_add]; simp
    simp only [sm]
    omega
theorem set_tab {α : Type} (f : Nat → α) (l : List α) (i : Nat) (h : i < l.length) : (tab f i ++ l.drop i).set i (f i) = tab f (i + 1) ++ l.drop (i + 1) := by
  rw [List.set_append]
  have h1 : ¬ i < (tab f i).length := by rw [tab_length]; omega
  rw [if_neg h1, tab_length, Nat.sub_self, tab_succ, List.drop_eq_getElem_cons h]
  simp only [List.set_cons_zero, List.append_assoc, List.singleton_append]
theorem getD_nat {α : Type} (l : List α) (i : Nat) (d : α) : l.getD (i : Int).toNat d = l.getD i d := by rw [Int.toNat_natCast]
theorem mark_ints (l : List Int) (k : Int) (h1 : 0 ≤ k) (h2 : k ≤ 1000000000000) (hl : l.length ≤ 1000000000000) : m_laws_markIntS_io1 l k = some (k + l.length, tab (fun i => k + (i : Int)) l.length) := by
  unfold m_laws_markIntS_io1
  have hit := iter_up (step := l_laws_markIntS_io1_0) (fun i => (k + (i : Int), (i : Int), tab (fun i => k + (i : Int)) i ++ l.drop i)) l.length (a := (k + l.length, tab (fun i => k + (i : Int)) l.length)) (fun i hi => by
      have hlen : (tab (fun i => k + (i : Int)) i ++ l.drop i).length = l.length := by simp [tab_length]; omega
      unfold l_laws_markIntS_io1_0
      simp only [hlen]
      rw [decide_eq_true (by omega), cond_true, grd_pos ⟨by omega, by omega⟩, w64' (by omega) (by omega), w64' (by omega) (by omega), Int.toNat_natCast, set_tab (fun i => k + (i : Int)) l i hi]
      simp [Int.add_assoc])
    (by
      unfold l_laws_markIntS_io1_0
      simp [tab_length])
  simp only [Int.natCast_zero, Int.add_zero, List.drop_zero, tab, List.range_zero, List.map_nil, List.nil_append] at hit
  rw [hit]
  rfl
theorem held_ints (k : Int) (n : Nat) (h1 : 0 ≤ k) (h2 : k ≤ 1000000000000) (hn : n ≤ 1000000000000) : m_laws_heldIntS (tab (fun i => k + (i : Int)) n) k = some (k + n) := by
  unfold m_laws_heldIntS
  have hit := iter_up (step := l_laws_heldIntS_0 (tab (fun i => k + (i : Int)) n)) (fun i => (k + (i : Int), (i : Int))) n (a := .inl (k + n)) (fun i hi => by
      unfold l_laws_heldIntS_0
      simp only [tab_length]
      rw [decide_eq_true (by omega), cond_true, grd_pos ⟨by omega, by omega⟩, w64' (by omega) (by omega), w64' (by omega) (by omega), getD_nat, tab_getD _ _ _ _ hi]
      simp [Int.add_assoc])
    (by
      unfold l_laws_heldIntS_0
      simp [tab_length])
  simp only [Int.natCast_zero, Int.add_zero] at hit
  rw [hit]
  rfl
theorem mark_game (n : Int) (l : List Int) (k : Int) (h1 : 0 ≤ k) (h2 : k ≤ 1000000000000) (hl : l.length ≤ 1000000000000) : m_laws_markGame_io1 n l k = some (k + l.length, tab (fun i => k + (i : Int)) l.length) := by
  unfold m_laws_markGame_io1
  rw [mark_ints l k h1 h2 hl]
  rfl
instance : DecidableEq Q := fun a b =>
  if h1 : a.num = b.num then
    if h2 : a.den = b.den then isTrue (by cases a; cases b; simp only at h1 h2; rw [h1, h2])
    else isFalse (fun h => h2 (by rw [h]))
  else isFalse (fun h => h1 (by rw [h]))
theorem Q_ext {a b : Q} : a = b ↔ a.num = b.num ∧ a.den = b.den := ⟨fun h => by rw [h]; exact ⟨rfl, rfl⟩, fun h => by cases a; cases b; simp only at h; rw [h.1, h.2]⟩
theorem eq_find {α : Type} [DecidableEq α] (d : α) (a b : List α) (hl : a.length = b.length) : (match (List.range a.length).find? (fun i => !decide (a.getD i d = b.getD i d)) with
      | some _ => (.inr false : Unit ⊕ Bool)
      | none => .inl ()) = if a = b then .inl () else .inr false := by
  cases h : (List.range a.length).find? (fun i => !decide (a.getD i d = b.getD i d)) with
  | none =>
    rw [List.find?_eq_none] at h
    rw [if_pos (eq_of_all d hl fun i hi => by simpa using h i (List.mem_range.2 hi))]
  | some i =>
    have h1 := List.find?_some h
    simp only [Bool.not_eq_true', decide_eq_false_iff_not] at h1
    rw [if_neg fun e => h1 (by rw [e])]
theorem eq_rat (a b c d : Int) : m_laws_eqRat a b c d = some (decide (a = c ∧ b = d)) := by
  unfold m_laws_eqRat
  by_cases h1 : a = c
  · by_cases h2 : b = d
    · simp [h1, h2]
    · have e : (b != d) = true := by simpa using h2
      simp [h1, h2, e]
  · have e : (a != c) = true := by simpa using h1
    simp [h1, e]
theorem eq_rats (a b : List Q) (ha : a.length ≤ 1048576) : m_laws_eqRatS a b = some (decide (a = b)) := by
  unfold m_laws_eqRatS
  by_cases hl : a.length = b.length
  · have e : ((a.length : Int) != (b.length : Int)) = false := by simp [hl]
    have hit := iter_find (step := l_laws_eqRatS_0 a b) (fun i => (i : Int)) a.length (fun i => !decide (a.getD i ⟨0, 0⟩ = b.getD i ⟨0, 0⟩)) (.inl ()) (fun _ => .inr false)
      (fun i hi => by
        unfold l_laws_eqRatS_0
        rw [decide_eq_true (by omega), cond_true, grd_pos ⟨by omega, by omega⟩, grd_pos ⟨by omega, by omega⟩, getD_nat, getD_nat, eq_rat, Option.bind_some, w64' (by omega) (by omega)]
        by_cases hq : a.getD i ⟨0, 0⟩ = b.getD i ⟨0, 0⟩
        · rw [decide_eq_true (Q_ext.1 hq), decide_eq_true hq]
          rfl
        · rw [decide_eq_false fun h => hq (Q_ext.2 h), decide_eq_false hq]
          rfl)
      (by
        unfold l_laws_eqRatS_0
        rw [decide_eq_false (by omega)]
        rfl)
    rw [eq_find _ a b hl] at hit
    simp only [Int.natCast_zero] at hit
    rw [e, cond_false, hit]
    by_cases hab : a = b
    · simp [hab]
    · simp [hab]
  · have e : ((a.length : Int) != (b.length : Int)) = true := by
      simp only [bne_iff_ne, ne_eq]
      omega
    have : ¬ a = b := fun e => hl (by rw [e])
    rw [e]
    simp [this]
theorem count0 (n : Nat) (h : n ≤ 5) : m_spec_CountCoalitions (n : Int) = some (2 ^ n) := by
  rcases Nat.eq_zero_or_pos n with rfl | h1
  · unfold m_spec_CountCoalitions
    rw [in_eq, decide_eq_true (by omega), Option.bind_some, Bool.not_true, cond_false]
    rw [iter_done (a := (1 : Int)) (by simp [l_spec_CountCoalitions_0])]
    rfl
  · rw [count_eq (n : Int) (by omega) (by omega)]
    simp
theorem bit2 (k : Nat) (h : k < 5) : m_spec_l2Bit (k : Int) = some (2 ^ k) := by
  unfold m_spec_l2Bit
  rw [count0 k (by omega)]
  rfl
theorem and_tab : ∀ s : Fin 32, ∀ k : Fin 5, bitsOf .and .i64 (((s.val : Nat) : Int).fdiv (2 ^ (min ((k.val : Nat) : Int).toNat 64))) 1 = if s.val.testBit k.val then 1 else 0 := by decide +kernel
theorem has_tab : ∀ s : Fin 32, ∀ k : Fin 5, ((IntKind.i64.wrap (((s.val : Nat) : Int).tdiv (2 ^ k.val))).tmod 2 == 1) = s.val.testBit k.val := by decide +kernel
theorem and_eq (s k : Nat) (hs : s < 32) (hk : k < 5) : bitsOf .and .i64 ((s : Int).fdiv (2 ^ (min (k : Int).toNat 64))) 1 = if s.testBit k then 1 else 0 := and_tab ⟨s, hs⟩ ⟨k, hk⟩
theorem spec_has (s k : Nat) (hs : s < 32) (hk : k < 5) : m_spec_HasPlayer (s : Int) (k : Int) = some (s.testBit k) := by
  unfold m_spec_HasPlayer
  have hp : (0 : Int) < 2 ^ k := Int.pow_pos (by decide)
  rw [in_eq, decide_eq_true (by omega), Option.bind_some, cond_true, decide_eq_true (by omega), cond_true, bit2 k hk, Option.bind_some, grd_pos (by omega), grd_pos (by decide)]
  rw [← has_tab ⟨s, hs⟩ ⟨k, hk⟩]
/-- a valid game, in natural numbers -/
theorem valid_nat {n : Int} {l : List Int} (h : Valid n l) : ∃ N : Nat, n = (N : Int) ∧ 1 ≤ N ∧ N ≤ 5 ∧ l.length = 2 ^ N ∧ l.length ≤ 32 := by
  obtain ⟨h1, h2, _⟩ := h
  have hn : n = 1 ∨ n = 2 ∨ n = 3 ∨ n = 4 ∨ n = 5 := by omega
  refine ⟨n.toNat, by omega, by omega, by omega, ?_, ?_⟩
  · rcases hn with rfl | rfl | rfl | rfl | rfl <;> simp at h2 ⊢ <;> omega
  · rcases hn with rfl | rfl | rfl | rfl | rfl <;> simp at h2 ⊢ <;> omega
theorem validB_eq (n : Int) (l : List Int) : validB n l = true ↔ Valid n l := by simp [validB]
theorem pow_le32 {N : Nat} (h : N ≤ 5) : 2 ^ N ≤ 32 := by
  have : N = 0 ∨ N = 1 ∨ N = 2 ∨ N = 3 ∨ N = 4 ∨ N = 5 := by omega
  rcases this with rfl | rfl | rfl | rfl | rfl | rfl <;> decide
theorem iter_findc {S A : Type} {step : S → Option (S ⊕ A)} (st : Nat → S) (n : Nat) (p : Nat → Bool) (a : A) (b : Nat → A)
    (hs : ∀ i, i < n → step (st i) = some (bif p i then .inr (b i) else .inl (st (i + 1)))) (hd : step (st n) = some (.inr a)) :
    iter step (st 0) = some (match (List.range n).find? p with
      | some i => b i
      | none => a) := iter_find st n p a b (fun i hi => by rw [hs i hi]; cases p i <;> rfl) hd
theorem impl_has (s k : Nat) (hs : s < 32) (hk : k < 5) : m_impl_HasPlayer (s : Int) (k : Int) = some (s.testBit k) := by
  unfold m_impl_HasPlayer
  rw [decide_eq_true (by omega), cond_true, within_eq, decide_eq_true (by omega), Option.bind_some, cond_true, grd_pos (by omega), and_eq s k hs hk]
  cases s.testBit k <;> rfl
def rowK (m k : Nat) : List Int := tab (fun i => if (i + 1).testBit k = true then 1 else 0) m
theorem rowK_length (m k : Nat) : (rowK m k).length = m := tab_length _ _
theorem impl_coals (m : Nat) (hm : m ≤ 31) : m_impl_coalitions 1 (m : Int) = some (tab (fun i => ((i + 1 : Nat) : Int)) m) := by
  unfold m_impl_coalitions
  have hit := iter_up (step := l_impl_coalitions_0 (m : Int)) (fun i => (((i + 1 : Nat) : Int), tab (fun i => ((i + 1 : Nat) : Int)) i)) m (a := tab (fun i => ((i + 1 : Nat) : Int)) m) (fun i hi => by
      unfold l_impl_coalitions_0
      dsimp only
      rw [decide_eq_true (by omega), cond_true, grd_pos (by simp only [tab_length, List.length_singleton, room]; omega), w64' (by omega) (by omega), tab_succ]
      rfl)
    (by unfold l_impl_coalitions_0; dsimp only; rw [decide_eq_false (by omega)]; rfl)
  have e0 : tab (fun i => ((i + 1 : Nat) : Int)) 0 = [] := rfl
  simp only [e0, Nat.zero_add, Int.natCast_one] at hit
  rw [hit]
  rfl
theorem impl_memrows (N m : Nat) (hN : N ≤ 5) (hm : m ≤ 31) : m_impl_members (N : Int) (tab (fun i => ((i + 1 : Nat) : Int)) m) = some (tab (rowK m) N) := by
  unfold m_impl_members
  have inner : ∀ k, k < N → iter (l_impl_members_1 (tab (fun i => ((i + 1 : Nat) : Int)) m) (k : Int)) ((0 : Int), []) = some (rowK m k) := by
    intro k hk
    have hit := iter_up (step := l_impl_members_1 (tab (fun i => ((i + 1 : Nat) : Int)) m) (k : Int)) (fun i => ((i : Int), rowK i k)) m (a := rowK m k) (fun i hi => by
        unfold l_impl_members_1
        dsimp only
        rw [tab_length, decide_eq_true (by omega), cond_true, grd_pos (by omega), getD_nat, tab_getD _ _ _ _ hi, impl_has (i + 1) k (by omega) (by omega), Option.bind_some, grd_pos (by simp only [rowK_length, List.length_singleton, room]; omega), grd_pos (by simp only [rowK_length, List.length_singleton, room]; omega), w64' (by omega) (by omega)]
        unfold rowK
        rw [tab_succ]
        cases (i + 1).testBit k <;> simp)
      (by unfold l_impl_members_1; dsimp only; rw [tab_length, decide_eq_false (by omega)]; rfl)
    have e0 : rowK 0 k = [] := rfl
    simpa only [Int.natCast_zero, e0] using hit
  have hit := iter_up (step := l_impl_members_0 (N : Int) (tab (fun i => ((i + 1 : Nat) : Int)) m)) (fun k => ((k : Int), tab (rowK m) k)) N (a := tab (rowK m) N) (fun k hk => by
      unfold l_impl_members_0
      dsimp only
      rw [decide_eq_true (by omega), cond_true, inner k hk, Option.bind_some, grd_pos (by simp only [tab_length, List.length_singleton, room]; omega), w64' (by omega) (by omega), tab_succ]
      rfl)
    (by unfold l_impl_members_0; dsimp only; rw [decide_eq_false (by omega)]; rfl)
  have e0 : tab (rowK m) 0 = [] := rfl
  simp only [Int.natCast_zero, e0] at hit
  rw [hit]
  rfl
theorem grand_val (N : Nat) (l : List Int) (hv : validB (N : Int) l = true) : m_spec_GrandValue (N : Int) l = some (l.getD (l.length - 1) 0) ∧ m_impl_GrandValue (N : Int) l = some (l.getD (l.length - 1) 0) := by
  obtain ⟨N', hN', _, h2, h3, h4⟩ := valid_nat ((validB_eq _ l).1 hv)
  have hp : 0 < l.length := by rw [h3]; exact Nat.pow_pos (by decide)
  have e : ((l.length : Int) - 1).toNat = l.length - 1 := by omega
  constructor
  · unfold m_spec_GrandValue
    rw [spec_valid _ l (by omega), hv, Option.bind_some, Bool.not_true, cond_false, w64' (by omega) (by omega), grd_pos (by omega), e]
  · unfold m_impl_GrandValue
    rw [impl_valid _ l (by omega), hv, Option.bind_some, Bool.not_true, cond_false, w64' (by omega) (by omega), grd_pos (by omega), e]
def mkQ (k : Int) (i : Nat) : Q := ⟨k + 2 * (i : Int), k + 2 * (i : Int) + 1⟩
theorem mark_rats (l : List Q) (k : Int) (h1 : 0 ≤ k) (h2 : k ≤ 1000000000000) (hl : l.length ≤ 1000000000000) : m_laws_markRatS_io1 l k = some (k + 2 * (l.length : Int), tab (mkQ k) l.length) := by
  unfold m_laws_markRatS_io1
  have hit := iter_up (step := l_laws_markRatS_io1_0) (fun i => (k + 2 * (i : Int), (i : Int), tab (mkQ k) i ++ l.drop i)) l.length (a := (k + 2 * (l.length : Int), tab (mkQ k) l.length)) (fun i hi => by
      have hlen : (tab (mkQ k) i ++ l.drop i).length = l.length := by simp [tab_length]; omega
      unfold l_laws_markRatS_io1_0
      dsimp only
      rw [List.length_set, hlen, decide_eq_true (by omega), cond_true, grd_pos (by omega), grd_pos (by omega), w64' (n := k + 2 * (i : Int) + 1) (by omega) (by omega), w64' (n := k + 2 * (i : Int) + 1 + 1) (by omega) (by omega), w64' (n := (i : Int) + 1) (by omega) (by omega)]
      simp only [Int.toNat_natCast]
      have hg : ∀ q : Q, ((tab (mkQ k) i ++ l.drop i).set i q).getD i ⟨0, 0⟩ = q := fun q => by
        simp only [List.getD, List.getElem?_set, hlen, hi, if_true, Option.getD_some]
      rw [hg, List.set_set]
      have := set_tab (mkQ k) l i hi
      simp only [mkQ] at this
      rw [this]
      have e : k + 2 * (i : Int) + 1 + 1 = k + 2 * ((i + 1 : Nat) : Int) := by omega
      rw [e]
      rfl)
    (by
      unfold l_laws_markRatS_io1_0
      simp [tab_length])
  have e0 : tab (mkQ k) 0 = [] := rfl
  simp only [Int.natCast_zero, Int.mul_zero, Int.add_zero, List.drop_zero, e0, List.nil_append] at hit
  rw [hit]
  rfl
theorem held_rats (k : Int) (n : Nat) (h1 : 0 ≤ k) (h2 : k ≤ 1000000000000) (hn : n ≤ 1000000000000) : m_laws_heldRatS (tab (mkQ k) n) k = some (k + 2 * (n : Int)) := by
  unfold m_laws_heldRatS
  have hit := iter_up (step := l_laws_heldRatS_0 (tab (mkQ k) n)) (fun i => (k + 2 * (i : Int), (i : Int))) n (a := .inl (k + 2 * (n : Int))) (fun i hi => by
      unfold l_laws_heldRatS_0
      dsimp only
      rw [tab_length, decide_eq_true (by omega), cond_true, grd_pos (by omega), getD_nat, tab_getD _ _ _ _ hi, w64' (n := k + 2 * (i : Int) + 1) (by omega) (by omega), w64' (n := k + 2 * (i : Int) + 1 + 1) (by omega) (by omega), w64' (n := (i : Int) + 1) (by omega) (by omega), grd_pos (by omega)]
      simp only [mkQ, bne_self_eq_false, cond_false]
      have e : k + 2 * (i : Int) + 1 + 1 = k + 2 * ((i + 1 : Nat) : Int) := by omega
      rw [e]
      rfl)
    (by
      unfold l_laws_heldRatS_0
      simp [tab_length])
  simp only [Int.natCast_zero, Int.mul_zero, Int.add_zero] at hit
  rw [hit]
  rfl
theorem impl_times (n : Nat) (x : Int) (hn : n ≤ 1000) : m_impl_times (n : Int) x = some (tab (fun _ => x) n) := by
  unfold m_impl_times
  have hl : (List.replicate n (0 : Int)).length = n := List.length_replicate
  have hit := iter_up (step := l_impl_times_0 (n : Int) x) (fun i => ((i : Int), tab (fun _ => x) i ++ (List.replicate n (0 : Int)).drop i)) n (a := tab (fun _ => x) n) (fun i hi => by
      have hlen : (tab (fun _ => x) i ++ (List.replicate n (0 : Int)).drop i).length = n := by simp [tab_length]; omega
      unfold l_impl_times_0
      dsimp only
      rw [Int.toNat_natCast, hl, hlen, decide_eq_true (by omega), cond_true, grd_pos (by omega), w64' (by omega) (by omega), Int.toNat_natCast, set_tab (fun _ => x) (List.replicate n (0 : Int)) i (by rw [hl]; exact hi)]
      rfl)
    (by
      unfold l_impl_times_0
      dsimp only
      rw [Int.toNat_natCast, hl, decide_eq_false (by omega)]
      simp)
  have e0 : tab (fun _ => x) 0 = [] := rfl
  simp only [Int.natCast_zero, e0, List.nil_append, List.drop_zero] at hit
  rw [grd_pos ⟨by omega, rfl, by simp only [room]; omega⟩, Int.toNat_natCast, hit]
  rfl
def negV (l : List Int) (i : Nat) : Q := ⟨-(l.getD (i + 1) 0), 1⟩
theorem impl_minusV (n : Int) (l : List Int) (m : Nat) (hi : Int) (hhi : hi = (m : Int)) (hm : m + 1 ≤ l.length) (hl : l.length ≤ 32) (hv : ∀ i, i < l.length → -500 ≤ l.getD i 0 ∧ l.getD i 0 ≤ 500) : m_impl_minusValues n l 1 hi = some (tab (negV l) m) := by
  subst hhi
  unfold m_impl_minusValues
  have hit := iter_up (step := l_impl_minusValues_0 l (m : Int)) (fun i => (((i + 1 : Nat) : Int), tab (negV l) i)) m (a := tab (negV l) m) (fun i hi => by
      have hb := hv (i + 1) (by omega)
      unfold l_impl_minusValues_0 m_impl_whole
      dsimp only
      rw [decide_eq_true (by omega), cond_true, grd_pos (by omega), getD_nat, Option.bind_some]
      dsimp only
      rw [grd_pos (by simp only [tab_length, List.length_singleton, room]; omega), w64' (n := ((i + 1 : Nat) : Int) + 1) (by omega) (by omega), w64' (n := 0 - l.getD (i + 1) 0) (by omega) (by omega), tab_succ]
      have e : 0 - l.getD (i + 1) 0 = -(l.getD (i + 1) 0) := by omega
      rw [e]
      rfl)
    (by unfold l_impl_minusValues_0; dsimp only; rw [decide_eq_false (by omega)]; rfl)
  have e0 : tab (negV l) 0 = [] := rfl
  simp only [Nat.zero_add, Int.natCast_one, e0] at hit
  rw [hit]
  rfl
theorem set_last {α : Type} (f : Nat → α) (m : Nat) (x : α) : (tab f (m + 1)).set m x = tab f m ++ [x] := by
  rw [tab_succ, List.set_append, tab_length, if_neg (Nat.lt_irrefl m), Nat.sub_self]
  rfl
def leastA (N m : Nat) : List (List Int) := tab (fun k => rowK m k ++ [-1]) N ++ [tab (fun _ => (1 : Int)) m ++ [0]]
def leastB (N : Nat) : List Int := tab (fun _ => (0 : Int)) N ++ [1]
def leastC (l : List Int) (m : Nat) : List Q := tab (negV l) m ++ [⟨l.getD (m + 1) 0, 1⟩]
theorem spec_least (N m : Nat) (l : List Int) (hv : validB (N : Int) l = true) (h2N : 2 ≤ N) (hm : l.length = m + 2) : m_spec_LeastLP (N : Int) l = some (true, leastA N m, leastB N, leastC l m) := by
  have hV := (validB_eq _ l).1 hv
  obtain ⟨N', hN', h1, h2, h3, h4⟩ := valid_nat hV
  have hNN : N' = N := by omega
  subst hNN
  have h32 := pow_le32 h2
  have s1 := iter_up (step := l_spec_LeastLP_0 l) (fun i => (((i + 1 : Nat) : Int), tab (fun _ => (1 : Int)) i, tab (negV l) i)) m (a := (tab (fun _ => (1 : Int)) m, tab (negV l) m)) (fun i hi => by
      have hb := hV.2.2.2 (i + 1) (by omega)
      unfold l_spec_LeastLP_0 m_spec_l3Int
      dsimp only
      rw [w64' (n := (l.length : Int) - 1) (by omega) (by omega), decide_eq_true (by omega), cond_true, grd_pos (by omega), getD_nat, Option.bind_some]
      dsimp only
      rw [grd_pos (by simp only [tab_length, List.length_singleton, room]; omega), grd_pos (by simp only [tab_length, List.length_singleton, room]; omega), w64' (n := ((i + 1 : Nat) : Int) + 1) (by omega) (by omega), w64' (n := 0 - l.getD (i + 1) 0) (by omega) (by omega), tab_succ, tab_succ]
      have e : 0 - l.getD (i + 1) 0 = -(l.getD (i + 1) 0) := by omega
      rw [e]
      rfl)
    (by unfold l_spec_LeastLP_0; dsimp only; rw [w64' (by omega) (by omega), decide_eq_false (by omega)]; rfl)
  have inner : ∀ k, k < N' → iter (l_spec_LeastLP_2 l (k : Int)) ((1 : Int), []) = some (rowK m k) := by
    intro k hk
    have hit := iter_up (step := l_spec_LeastLP_2 l (k : Int)) (fun i => (((i + 1 : Nat) : Int), rowK i k)) m (a := rowK m k) (fun i hi => by
        unfold l_spec_LeastLP_2 m_spec_l1Bit
        dsimp only
        rw [w64' (n := (l.length : Int) - 1) (by omega) (by omega), decide_eq_true (by omega), cond_true, spec_has (i + 1) k (by omega) (by omega), Option.bind_some, w64' (by omega) (by omega)]
        unfold rowK
        rw [tab_succ]
        cases (i + 1).testBit k <;> simp [tab_length, room] <;> rw [grd_pos (by omega)])
      (by unfold l_spec_LeastLP_2; dsimp only; rw [w64' (by omega) (by omega), decide_eq_false (by omega)]; rfl)
    have e0 : rowK 0 k = [] := rfl
    simpa only [Nat.zero_add, Int.natCast_one, e0] using hit
  have s2 := iter_up (step := l_spec_LeastLP_1 (N' : Int) l) (fun k => ((k : Int), tab (fun k => rowK m k ++ [-1]) k, tab (fun _ => (0 : Int)) k)) N' (a := (tab (fun k => rowK m k ++ [-1]) N', tab (fun _ => (0 : Int)) N')) (fun k hk => by
      unfold l_spec_LeastLP_1
      dsimp only
      rw [decide_eq_true (by omega), cond_true, inner k hk, Option.bind_some]
      rw [grd_pos (by simp only [rowK_length, List.length_singleton, room]; omega), grd_pos (by simp only [tab_length, List.length_singleton, room]; omega), grd_pos (by simp only [tab_length, List.length_singleton, room]; omega), w64' (by omega) (by omega), tab_succ, tab_succ]
      rfl)
    (by unfold l_spec_LeastLP_1; dsimp only; rw [decide_eq_false (by omega)]; rfl)
  have e0 : tab (fun _ => (1 : Int)) 0 = [] := rfl
  have e1 : tab (negV l) 0 = [] := rfl
  have e2 : tab (fun k => rowK m k ++ [-1]) 0 = [] := rfl
  have e3 : tab (fun _ => (0 : Int)) 0 = [] := rfl
  simp only [Nat.zero_add, Int.natCast_one, Int.natCast_zero, e0, e1, e2, e3] at s1 s2
  unfold m_spec_LeastLP
  rw [spec_valid _ l (by omega), hv, Option.bind_some, Bool.not_true, cond_false, decide_eq_false (by omega), cond_false, s1, Option.bind_some]
  dsimp only
  rw [(grand_val N' l hv).1, Option.bind_some]
  unfold m_spec_l3Int
  rw [Option.bind_some]
  dsimp only
  rw [grd_pos (by simp only [tab_length, List.length_singleton, room]; omega), s2, Option.bind_some]
  dsimp only
  rw [grd_pos (by simp only [tab_length, List.length_singleton, room]; omega), grd_pos (by simp only [tab_length, List.length_singleton, room]; omega), grd_pos (by simp only [tab_length, List.length_singleton, room]; omega), show l.length - 1 = m + 1 by omega]
  rfl
theorem impl_least (N m : Nat) (l : List Int) (hv : validB (N : Int) l = true) (h2N : 2 ≤ N) (hm : l.length = m + 2) : m_impl_LeastLP (N : Int) l = some (true, leastA N m, leastB N, leastC l m) := by
  have hV := (validB_eq _ l).1 hv
  obtain ⟨N', hN', h1, h2, h3, h4⟩ := valid_nat hV
  have hNN : N' = N := by omega
  subst hNN
  have h32 := pow_le32 h2
  have ea : IntKind.i64.wrap ((l.length : Int) - 1) = ((m + 1 : Nat) : Int) := by rw [w64' (by omega) (by omega)]; omega
  have eb : IntKind.i64.wrap (((m + 1 : Nat) : Int) - 1) = (m : Int) := by rw [w64' (by omega) (by omega)]; omega
  have s1 := iter_up (step := l_impl_LeastLP_0 l (tab (rowK (m + 1)) N')) (fun k => ((k : Int), tab (fun k => rowK m k ++ [-1]) k ++ (tab (rowK (m + 1)) N').drop k)) N' (a := tab (fun k => rowK m k ++ [-1]) N') (fun k hk => by
      have hlen : (tab (fun k => rowK m k ++ [-1]) k ++ (tab (rowK (m + 1)) N').drop k).length = N' := by simp [tab_length]; omega
      have hg : (tab (fun k => rowK m k ++ [-1]) k ++ (tab (rowK (m + 1)) N').drop k).getD k [] = rowK (m + 1) k := by
        have hd : (tab (rowK (m + 1)) N').getD k [] = rowK (m + 1) k := tab_getD _ _ _ _ hk
        simp only [List.getD] at hd ⊢
        rw [List.getElem?_append_right (by rw [tab_length]; exact Nat.le_refl k), tab_length, Nat.sub_self, List.getElem?_drop, Nat.add_zero]
        exact hd
      unfold l_impl_LeastLP_0
      dsimp only
      rw [tab_length, ea, eb, hlen, decide_eq_true (by omega), cond_true, grd_pos (by omega), getD_nat, hg, grd_pos (by rw [rowK_length]; omega), w64' (by omega) (by omega), Int.toNat_natCast, Int.toNat_natCast]
      have e : (rowK (m + 1) k).set m (-1) = rowK m k ++ [-1] := set_last _ m _
      rw [e, set_tab (fun k => rowK m k ++ [-1]) (tab (rowK (m + 1)) N') k (by rw [tab_length]; exact hk)]
      rfl)
    (by
      unfold l_impl_LeastLP_0
      dsimp only
      rw [tab_length, decide_eq_false (by omega)]
      have : (tab (rowK (m + 1)) N').drop N' = [] := List.drop_eq_nil_of_le (by rw [tab_length]; exact Nat.le_refl _)
      rw [this, List.append_nil]
      rfl)
  have e2 : tab (fun k => rowK m k ++ [-1]) 0 = [] := rfl
  simp only [Int.natCast_zero, e2, List.nil_append, List.drop_zero] at s1
  unfold m_impl_LeastLP
  rw [impl_valid _ l (by omega), hv, Option.bind_some, Bool.not_true, cond_false, decide_eq_false (by omega), cond_false, ea, eb, impl_coals (m + 1) (by omega), Option.bind_some, impl_memrows N' (m + 1) h2 (by omega), Option.bind_some, s1, Option.bind_some]
  dsimp only
  rw [impl_times (m + 1) 1 (by omega), Option.bind_some, grd_pos (by rw [tab_length]; omega), impl_minusV _ l (m + 1) _ rfl (by omega) h4 hV.2.2.2, Option.bind_some, (grand_val N' l hv).2, Option.bind_some]
  unfold m_impl_whole
  rw [Option.bind_some]
  dsimp only
  rw [grd_pos (by rw [tab_length]; omega), grd_pos (by simp only [tab_length, List.length_singleton, room]; omega), impl_times N' 0 (by omega), Option.bind_some, grd_pos (by simp only [tab_length, List.length_singleton, room]; omega), Int.toNat_natCast, set_last, set_last, show l.length - 1 = m + 1 by omega]
  rfl
theorem least0 (n : Int) (l : List Int) (hl : l.length ≤ 1048576) (h : validB n l = false ∨ n < 2) : m_spec_LeastLP n l = some (false, [], [], []) ∧ m_impl_LeastLP n l = some (false, [], [], []) := by
  unfold m_spec_LeastLP m_impl_LeastLP
  rw [spec_valid n l hl, impl_valid n l hl]
  rcases h with h | h
  · rw [h]
    exact ⟨rfl, rfl⟩
  · cases validB n l with
    | false => exact ⟨rfl, rfl⟩
    | true =>
      rw [decide_eq_true h]
      exact ⟨rfl, rfl⟩
theorem eq_intss (a b : List (List Int)) (hl : a.length ≤ 1048576) (hr : ∀ i, i < a.length → (a.getD i []).length ≤ 1048576) (hrb : ∀ i, i < b.length → (b.getD i []).length ≤ 1048576) : m_laws_eqIntSS a b = some (decide (a = b)) := by
  unfold m_laws_eqIntSS
  by_cases hlen : a.length = b.length
  · have e : ((a.length : Int) != (b.length : Int)) = false := by simp [hlen]
    have hit := iter_findc (step := l_laws_eqIntSS_0 a b) (fun i => (i : Int)) a.length (fun i => !decide (a.getD i [] = b.getD i [])) (.inl ()) (fun _ => .inr false)
      (fun i hi => by
        unfold l_laws_eqIntSS_0
        rw [decide_eq_true (by omega), cond_true, grd_pos (by omega), grd_pos (by omega), getD_nat, getD_nat, eq_ints _ _ (hr i hi) (hrb i (by omega)), Option.bind_some, w64' (by omega) (by omega)]
        cases decide (a.getD i [] = b.getD i []) <;> rfl)
      (by
        unfold l_laws_eqIntSS_0
        rw [decide_eq_false (by omega)]
        rfl)
    rw [eq_find _ a b hlen] at hit
    simp only [Int.natCast_zero] at hit
    rw [e, cond_false, hit]
    by_cases hab : a = b
    · simp [hab]
    · simp [hab]
  · have e : ((a.length : Int) != (b.length : Int)) = true := by
      simp only [bne_iff_ne, ne_eq]
      omega
    have : ¬ a = b := fun e => hlen (by rw [e])
    rw [e]
    simp [this]
theorem getD_set_same {α : Type} (l : List α) (i : Nat) (x d : α) (h : i < l.length) : (l.set i x).getD i d = x := by
  simp only [List.getD, List.getElem?_set, h, if_true, Option.getD_some]
theorem mark_row (l : List (List Int)) (j : Nat) (row : List Int) (k : Int) (hrow : l.getD j [] = row) (hj : j < l.length) (h1 : 0 ≤ k) (h2 : k ≤ 1000000000000) (hl : row.length ≤ 1000000) : m_laws_markIntS_io1_b l j k = some (k + row.length, l.set j (tab (fun i => k + (i : Int)) row.length)) := by
  unfold m_laws_markIntS_io1_b
  have hit := iter_up (step := l_laws_markIntS_io1_b_0 j) (fun i => (k + (i : Int), (i : Int), l.set j (tab (fun i => k + (i : Int)) i ++ row.drop i))) row.length (a := (k + row.length, l.set j (tab (fun i => k + (i : Int)) row.length))) (fun i hi => by
      have hlen : (tab (fun i => k + (i : Int)) i ++ row.drop i).length = row.length := by simp [tab_length]; omega
      unfold l_laws_markIntS_io1_b_0
      dsimp only
      rw [getD_set_same _ _ _ _ hj, hlen, decide_eq_true (by omega), cond_true, grd_pos (by omega), w64' (by omega) (by omega), w64' (by omega) (by omega), Int.toNat_natCast, set_tab (fun i => k + (i : Int)) row i hi, List.set_set]
      simp [Int.add_assoc])
    (by
      unfold l_laws_markIntS_io1_b_0
      dsimp only
      rw [getD_set_same _ _ _ _ hj]
      have hlen : (tab (fun i => k + (i : Int)) row.length ++ row.drop row.length).length = row.length := by simp [tab_length]
      rw [hlen, decide_eq_false (by omega)]
      simp)
  have e0 : tab (fun i => k + (i : Int)) 0 = [] := rfl
  have e1 : l.set j row = l := by
    have e2 : l.getD j [] = l[j] := by simp [List.getD, List.getElem?_eq_getElem hj]
    rw [← hrow, e2, List.set_getElem_self]
  simp only [Int.natCast_zero, Int.add_zero, e0, List.nil_append, List.drop_zero, e1] at hit
  rw [hit]
  rfl
def lenF (A : List (List Int)) (i : Nat) : Int := ((A.getD i []).length : Int)
def mkRow (A : List (List Int)) (k : Int) (i : Nat) : List Int := tab (fun t => (k + sm (lenF A) i) + (t : Int)) (A.getD i []).length
theorem lenF_bd (A : List (List Int)) (hr : ∀ i, i < A.length → (A.getD i []).length ≤ 1000) (i : Nat) (hi : i ≤ A.length) : 0 ≤ sm (lenF A) i ∧ sm (lenF A) i ≤ 1000 * i := by
  have h := sm_bd (f := lenF A) (B := 1000) (n := i) fun j hj => by
    have := hr j (by omega)
    unfold lenF
    omega
  refine ⟨?_, h.2⟩
  clear h
  induction i with
  | zero => simp [sm]
  | succ n ih =>
    have := ih (by omega)
    simp only [sm]
    unfold lenF at this ⊢
    omega
theorem mark_intss (A : List (List Int)) (k : Int) (h1 : 0 ≤ k) (h2 : k ≤ 1000000) (hl : A.length ≤ 1000) (hr : ∀ i, i < A.length → (A.getD i []).length ≤ 1000) : m_laws_markIntSS_io1 A k = some (k + sm (lenF A) A.length, tab (mkRow A k) A.length) := by
  unfold m_laws_markIntSS_io1
  have hit := iter_up (step := l_laws_markIntSS_io1_0) (fun i => (k + sm (lenF A) i, (i : Int), tab (mkRow A k) i ++ A.drop i)) A.length (a := (k + sm (lenF A) A.length, tab (mkRow A k) A.length)) (fun i hi => by
      have hlen : (tab (mkRow A k) i ++ A.drop i).length = A.length := by simp [tab_length]; omega
      have hb := lenF_bd A hr i (by omega)
      have hg : (tab (mkRow A k) i ++ A.drop i).getD i [] = A.getD i [] := by
        simp only [List.getD]
        rw [List.getElem?_append_right (by rw [tab_length]; exact Nat.le_refl i), tab_length, Nat.sub_self, List.getElem?_drop, Nat.add_zero]
      have hri := hr i hi
      unfold l_laws_markIntSS_io1_0
      dsimp only
      rw [hlen, decide_eq_true (by omega), cond_true, grd_pos (by omega), Int.toNat_natCast, mark_row _ i _ _ hg (by rw [hlen]; exact hi) (by omega) (by omega) (by omega), Option.bind_some, w64' (by omega) (by omega)]
      have hst := set_tab (mkRow A k) A i hi
      have hm : tab (fun t => (k + sm (lenF A) i) + (t : Int)) (A.getD i []).length = mkRow A k i := rfl
      rw [hm, hst]
      simp only [sm, lenF, Int.add_assoc]
      rfl)
    (by
      unfold l_laws_markIntSS_io1_0
      dsimp only
      have hlen : (tab (mkRow A k) A.length ++ A.drop A.length).length = A.length := by simp [tab_length]
      rw [hlen, decide_eq_false (by omega)]
      simp)
  have e0 : tab (mkRow A k) 0 = [] := rfl
  simp only [sm, Int.natCast_zero, Int.add_zero, e0, List.nil_append, List.drop_zero] at hit
  rw [hit]
  rfl
theorem held_intss (A : List (List Int)) (k : Int) (h1 : 0 ≤ k) (h2 : k ≤ 1000000) (hl : A.length ≤ 1000) (hr : ∀ i, i < A.length → (A.getD i []).length ≤ 1000) : m_laws_heldIntSS (tab (mkRow A k) A.length) k = some (k + sm (lenF A) A.length) := by
  unfold m_laws_heldIntSS
  have hit := iter_up (step := l_laws_heldIntSS_0 (tab (mkRow A k) A.length)) (fun i => (k + sm (lenF A) i, (i : Int))) A.length (a := .inl (k + sm (lenF A) A.length)) (fun i hi => by
      have hb := lenF_bd A hr i (by omega)
      have hri := hr i hi
      unfold l_laws_heldIntSS_0
      dsimp only
      rw [tab_length, decide_eq_true (by omega), cond_true, grd_pos (by omega), getD_nat, tab_getD _ _ _ _ hi]
      have hm : mkRow A k i = tab (fun t => (k + sm (lenF A) i) + (t : Int)) (A.getD i []).length := rfl
      rw [hm, held_ints (k + sm (lenF A) i) (A.getD i []).length (by omega) (by omega) (by omega), Option.bind_some, decide_eq_false (by omega), cond_false, w64' (by omega) (by omega)]
      simp only [sm, lenF, Int.add_assoc]
      rfl)
    (by
      unfold l_laws_heldIntSS_0
      dsimp only
      rw [tab_length, decide_eq_false (by omega)]
      rfl)
  simp only [sm, Int.natCast_zero, Int.add_zero] at hit
  rw [hit]
  rfl
def mkTot (A : List (List Int)) (B : List Int) (C : List Q) : Int := 1 + sm (lenF A) A.length + B.length + 2 * C.length
theorem frame_lp (A : List (List Int)) (B : List Int) (C : List Q) (hl : A.length ≤ 1000) (hr : ∀ i, i < A.length → (A.getD i []).length ≤ 1000) (hB : B.length ≤ 1000) (hC : C.length ≤ 1000) :
    m_laws_eqLP A B C A B C = some true ∧ 0 ≤ mkTot A B C ∧ m_laws_markLP_io3 A B C 1 = some (mkTot A B C, tab (mkRow A 1) A.length, tab (fun i => (1 + sm (lenF A) A.length) + (i : Int)) B.length, tab (mkQ (1 + sm (lenF A) A.length + B.length)) C.length) ∧
      m_laws_heldLP (tab (mkRow A 1) A.length) (tab (fun i => (1 + sm (lenF A) A.length) + (i : Int)) B.length) (tab (mkQ (1 + sm (lenF A) A.length + B.length)) C.length) 1 = some (mkTot A B C) := by
  have hb := lenF_bd A hr A.length (Nat.le_refl _)
  refine ⟨?_, by unfold mkTot; omega, ?_, ?_⟩
  · unfold m_laws_eqLP
    rw [eq_intss A A (by omega) (fun i hi => by have := hr i hi; omega) (fun i hi => by have := hr i hi; omega), eq_ints B B (by omega) (by omega), eq_rats C C (by omega)]
    simp
  · unfold m_laws_markLP_io3 mkTot
    rw [mark_intss A 1 (by decide) (by decide) hl hr, Option.bind_some]
    dsimp only
    rw [mark_ints B _ (by omega) (by omega) (by omega), Option.bind_some]
    dsimp only
    rw [mark_rats C _ (by omega) (by omega) (by omega), Option.bind_some]
  · unfold m_laws_heldLP mkTot
    rw [held_intss A 1 (by decide) (by decide) hl hr, Option.bind_some, decide_eq_false (by omega), cond_false, held_ints (1 + sm (lenF A) A.length) B.length (by omega) (by omega) (by omega), Option.bind_some, decide_eq_false (by omega), cond_false, held_rats (1 + sm (lenF A) A.length + B.length) C.length (by omega) (by omega) (by omega), Option.bind_some, decide_eq_false (by omega), cond_false]
theorem least_both (n : Int) (l : List Int) (hl : l.length ≤ 1048576) : ∃ b A B C, (A.length ≤ 1000 ∧ (∀ i, i < A.length → (A.getD i []).length ≤ 1000) ∧ B.length ≤ 1000 ∧ C.length ≤ 1000) ∧ m_spec_LeastLP n l = some (b, A, B, C) ∧ m_impl_LeastLP n l = some (b, A, B, C) := by
  by_cases hlow : validB n l = false ∨ n < 2
  · obtain ⟨e1, e2⟩ := least0 n l hl hlow
    exact ⟨false, [], [], [], by simp, e1, e2⟩
  · have hv : validB n l = true := by
      cases h : validB n l with
      | true => rfl
      | false => exact absurd (.inl h) hlow
    obtain ⟨N, rfl, h1, h2, h3, h4⟩ := valid_nat ((validB_eq n l).1 hv)
    have h2N : 2 ≤ N := by
      have : ¬ (N : Int) < 2 := fun h => hlow (.inr h)
      omega
    have h5 : 4 ≤ l.length := by
      rw [h3]
      exact Nat.le_trans (by decide) (Nat.pow_le_pow_right (n := 2) (by decide) h2N)
    obtain ⟨m, hm⟩ : ∃ m, l.length = m + 2 := ⟨l.length - 2, by omega⟩
    refine ⟨true, _, _, _, ⟨by simp [leastA, tab_length]; omega, fun i hi => ?_, by simp [leastB, tab_length]; omega, by simp [leastC, tab_length]; omega⟩, spec_least N m l hv h2N hm, impl_least N m l hv h2N hm⟩
    have hi' : i < N + 1 := by simpa [leastA, tab_length] using hi
    unfold leastA
    by_cases h : i < N
    · have e : (tab (fun k => rowK m k ++ [-1]) N ++ [tab (fun _ => (1 : Int)) m ++ [0]]).getD i [] = rowK m i ++ [-1] := by
        have := tab_getD (fun k => rowK m k ++ [-1]) N [] i h
        simp only [List.getD] at this ⊢
        rw [List.getElem?_append_left (by rw [tab_length]; exact h)]
        exact this
      rw [e]
      simp [rowK_length]
      omega
    · have e : (tab (fun k => rowK m k ++ [-1]) N ++ [tab (fun _ => (1 : Int)) m ++ [0]]).getD i [] = tab (fun _ => (1 : Int)) m ++ [0] := by
        have hi2 : i = N := by omega
        subst hi2
        simp only [List.getD]
        rw [List.getElem?_append_right (by rw [tab_length]; exact Nat.le_refl _), tab_length, Nat.sub_self]
        rfl
      rw [e]
      simp [tab_length]
      omega
theorem law_FnExactLeastLP (n : Int) (l : List Int) (_ : I64 n) (hl : l.length ≤ maxLen ∧ ∀ n ∈ l, I64 n) : m_laws_FnExactLeastLP n l = some true := by
  unfold m_laws_FnExactLeastLP
  rw [sz_game n l _ (by decide) (by decide) hl.1]
  by_cases h : (1048576 : Int) < l.length
  · simp [h]
  · have h0 : ¬ (1048576 : Int) - (l.length : Int) < 0 := by omega
    have hl' : l.length ≤ 1048576 := by omega
    obtain ⟨b, A, B, C, ⟨l1, l2, l3, l4⟩, e1, e2⟩ := least_both n l hl'
    obtain ⟨f1, f0, f2, f3⟩ := frame_lp A B C l1 l2 l3 l4
    have c1 : ¬ (1 : Int) + (l.length : Int) < 0 := by omega
    have c2 : ¬ mkTot A B C < 0 := by omega
    simp [h, h0, to_game n l hl', e1, e2, eq_game n l n l hl' hl', mark_game n l 1 (by decide) (by decide) (by omega), f1, f2, f3, c1, c2]
end Go.Proofs.Ytoefgmmmcpikfaa
