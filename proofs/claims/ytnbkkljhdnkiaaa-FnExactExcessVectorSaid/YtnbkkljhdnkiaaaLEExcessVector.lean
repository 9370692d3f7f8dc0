/- The plain laws: what the models of FnExactExcessVector compute. No condition beyond those that each theorem names. -/
import Derived.Test.YtnbkkljhdnkiaaaGEExcessVector
import Derived.Test.YtnbkkljhdnkiaaaAmC
namespace Go.Proofs.Ytnbkkljhdnkiaaa
open Go.AM
theorem sz_ints (l : List Int) (k : Int) (h1 : 0 ≤ k) (h2 : k ≤ 1048576) (hl : l.length ≤ maxLen) : m_laws_szIntS l k = some (if k < l.length then -1 else k - l.length) := by
  have hl' : (l.length : Int) ≤ 9223372036854775807 := by simp only [maxLen] at hl; omega
  have hw : IntKind.i64.wrap (k - (l.length : Int)) = k - l.length := w64' (by omega) (by omega)
  unfold m_laws_szIntS
  rw [hw]
  by_cases h : k < l.length
  · have : k - (l.length : Int) < 0 := by omega
    simp [h, this]
  · have : ¬ k - (l.length : Int) < 0 := by omega
    simp [h, this]
theorem sz_game (n : Int) (l : List Int) (k : Int) (h1 : 0 ≤ k) (h2 : k ≤ 1048576) (hl : l.length ≤ maxLen) : m_laws_szGame n l k = some (if k < l.length then -1 else k - l.length) := by
  unfold m_laws_szGame
  rw [sz_ints l k h1 h2 hl]
  by_cases h : k < l.length
  · simp [h]
  · have : ¬ k - (l.length : Int) < 0 := by omega
    simp [h, this]
theorem to_ints (l : List Int) (hl : l.length ≤ 1048576) : m_laws_toIntS l = some l := by
  unfold m_laws_toIntS
  rw [grd_pos ⟨by omega, rfl, by simp only [room]; omega⟩]
  have h := iter_up (step := l_laws_toIntS_0 l) (fun i => ((i : Int), l.take i ++ List.replicate (l.length - i) 0)) l.length (a := l) (fun i hi => ?_) ?_
  · simp only [List.take_zero, List.nil_append, Nat.sub_zero, Int.ofNat_eq_natCast] at h
    simp only [Int.toNat_natCast]
    rw [show ((0 : Int), List.replicate l.length (0 : Int)) = (((0 : Nat) : Int), List.replicate l.length (0 : Int)) from rfl, h]
    rfl
  · have hi' : (i : Int) < l.length := by omega
    have hlen : ((l.take i ++ List.replicate (l.length - i) (0 : Int)).length : Int) = l.length := by simp; omega
    simp only [l_laws_toIntS_0, hi', decide_true, cond_true]
    rw [grd_pos ⟨by omega, trivial⟩, grd_pos ⟨by omega, by rw [hlen]; exact hi'⟩]
    rw [w64' (by omega) (by omega), Int.toNat_natCast, set_copy l 0 0 i hi]
    rfl
  · simp [l_laws_toIntS_0]
theorem to_game (n : Int) (l : List Int) (hl : l.length ≤ 1048576) : m_laws_toGame n l = some (n, l) := by
  unfold m_laws_toGame
  rw [to_ints l hl]
  rfl
theorem eq_ints (a b : List Int) (ha : a.length ≤ 1048576) (hb : b.length ≤ 1048576) : m_laws_eqIntS a b = some (decide (a = b)) := by
  unfold m_laws_eqIntS
  by_cases hl : a.length = b.length
  · have e : ((a.length : Int) != (b.length : Int)) = false := by simp [hl]
    have hit := iter_all (step := l_laws_eqIntS_0 a b) (fun i => (i : Int)) a.length (fun i => a.getD i 0 == b.getD i 0) (a := .inl ()) (b := .inr false)
      (fun i hi hp => by
        have hi' : (i : Int) < a.length := by omega
        have hi2 : (i : Int) < b.length := by omega
        unfold l_laws_eqIntS_0
        rw [decide_eq_true hi', cond_true, grd_pos ⟨by omega, hi'⟩, grd_pos ⟨by omega, hi2⟩]
        simp only [beq_iff_eq] at hp
        rw [Int.toNat_natCast, hp, w64' (by omega) (by omega), bne_self_eq_false, cond_false]
        rfl)
      (fun i hi hp => by
        have hi' : (i : Int) < a.length := by omega
        have hi2 : (i : Int) < b.length := by omega
        unfold l_laws_eqIntS_0
        rw [decide_eq_true hi', cond_true, grd_pos ⟨by omega, hi'⟩, grd_pos ⟨by omega, hi2⟩]
        rw [Int.toNat_natCast]
        have : (a.getD i 0 != b.getD i 0) = true := by
          simp only [bne, hp, Bool.not_false]
        rw [this]
        rfl)
      (by
        unfold l_laws_eqIntS_0
        rw [decide_eq_false (by omega)]
        rfl)
    rw [e, cond_false]
    simp only [Int.ofNat_eq_natCast, Int.natCast_zero] at hit
    rw [hit]
    by_cases hall : ∀ i, i < a.length → (a.getD i 0 == b.getD i 0) = true
    · have : a = b := eq_of_all 0 hl fun i hi => by simpa using hall i hi
      rw [if_pos hall]
      simp [this]
    · have : ¬ a = b := fun e => hall fun i hi => by rw [e]; simp
      rw [if_neg hall]
      simp [this]
  · have e : ((a.length : Int) != (b.length : Int)) = true := by
      simp only [bne_iff_ne, ne_eq]
      omega
    rw [e]
    have : ¬ a = b := fun e => hl (by rw [e])
    simp [this]
theorem eq_game (n : Int) (l : List Int) (m : Int) (k : List Int) (hl : l.length ≤ 1048576) (hk : k.length ≤ 1048576) : m_laws_eqGame n l m k = some (decide (n = m ∧ l = k)) := by
  unfold m_laws_eqGame
  rw [eq_ints l k hl hk]
  by_cases h1 : n = m
  · by_cases h2 : l = k
    · simp [h1, h2]
    · simp [h1, h2]
  · have : (n != m) = true := by simpa using h1
    simp [h1, this]
def Valid (n : Int) (l : List Int) : Prop := (1 ≤ n ∧ n ≤ 5) ∧ (l.length : Int) = 2 ^ n.toNat ∧ l.getD 0 0 = 0 ∧ ∀ i, i < l.length → -500 ≤ l.getD i 0 ∧ l.getD i 0 ≤ 500
open Classical in
noncomputable def validB (n : Int) (l : List Int) : Bool := decide (Valid n l)
theorem in_eq (a b c : Int) : m_spec_l1In a b c = some (decide (b ≤ a ∧ a ≤ c)) := by
  unfold m_spec_l1In
  by_cases h : a ≥ b
  · have h' : b ≤ a := h
    simp [h, h']
  · have h' : ¬ b ≤ a := h
    simp [h, h']
theorem within_eq (a b c : Int) : m_impl_within a b c = some (decide (b ≤ a ∧ a ≤ c)) := in_eq a b c
theorem count_eq (n : Int) (h1 : 1 ≤ n) (h2 : n ≤ 5) : m_spec_CountCoalitions n = some (2 ^ n.toNat) := by
  unfold m_spec_CountCoalitions
  rw [in_eq]
  have hb : decide ((0 : Int) ≤ n ∧ n ≤ 5) = true := by simp; omega
  rw [hb, Option.bind_some, Bool.not_true, cond_false]
  have hit := iter_up (step := l_spec_CountCoalitions_0 n) (fun i => ((2 : Int) ^ i, (i : Int))) n.toNat (a := 2 ^ n.toNat) (fun i hi => by
      have hlt : (i : Int) < n := by omega
      have hi5 : i < 5 := by omega
      unfold l_spec_CountCoalitions_0
      simp only [hlt, decide_true, cond_true]
      have hp : (2 : Int) ^ i ≤ 16 := by
        have : i = 0 ∨ i = 1 ∨ i = 2 ∨ i = 3 ∨ i = 4 := by omega
        rcases this with rfl | rfl | rfl | rfl | rfl <;> decide
      have hp0 : (0 : Int) < 2 ^ i := Int.pow_pos (by decide)
      rw [w64' (by omega) (by omega), w64' (by omega) (by omega)]
      simp [Int.pow_succ])
    (by
      unfold l_spec_CountCoalitions_0
      have : ¬ ((n.toNat : Int) < n) := by omega
      simp only [this, decide_false, cond_false])
  simp only [Int.pow_zero, Int.ofNat_eq_natCast, Int.natCast_zero] at hit
  rw [hit]
  rfl
theorem spec_valid (n : Int) (l : List Int) (hl : l.length ≤ 1048576) : m_spec_IsValidGame n l = some (validB n l) := by
  unfold m_spec_IsValidGame
  have hit := iter_first (step := l_spec_IsValidGame_0 l) (fun i => (i : Int)) l.length (fun i => decide (-500 ≤ l.getD i 0 ∧ l.getD i 0 ≤ 500)) (a := .inl ()) (fun _ => .inr false)
    (fun i hi hp => by
      have hi' : (i : Int) < l.length := by omega
      unfold l_spec_IsValidGame_0
      rw [decide_eq_true hi', cond_true, grd_pos ⟨by omega, hi'⟩, in_eq, Int.toNat_natCast, hp, Option.bind_some, Bool.not_true, cond_false, w64' (by omega) (by omega)]
      rfl)
    (fun i hi hp => by
      have hi' : (i : Int) < l.length := by omega
      unfold l_spec_IsValidGame_0
      rw [decide_eq_true hi', cond_true, grd_pos ⟨by omega, hi'⟩, in_eq, Int.toNat_natCast, hp]
      rfl)
    (by
      unfold l_spec_IsValidGame_0
      rw [decide_eq_false (by omega)]
      rfl)
  simp only [Int.ofNat_eq_natCast, Int.natCast_zero] at hit
  rcases hit with ⟨h1, h2⟩ | ⟨i, h1, h2, h3⟩
  · rw [h2]
    simp only [Option.bind_some]
    rw [in_eq]
    by_cases hn : 1 ≤ n ∧ n ≤ 5
    · rw [decide_eq_true hn, Option.bind_some, cond_true, count_eq n hn.1 hn.2, Option.bind_some]
      by_cases hlen : (l.length : Int) = 2 ^ n.toNat
      · have hpos : (0 : Int) < 2 ^ n.toNat := Int.pow_pos (by decide)
        have e1 : ((l.length : Int) == 2 ^ n.toNat) = true := by simpa using hlen
        rw [e1, cond_true, grd_pos ⟨by omega, by omega⟩]
        congr 1
        have h0 : (0 : Int).toNat = 0 := rfl
        rw [h0]
        by_cases hz : l.getD 0 0 = 0
        · have hv : Valid n l := ⟨hn, hlen, hz, fun i hi => by simpa using h1 i hi⟩
          rw [hz]
          simp [validB, hv]
        · have hv : ¬ Valid n l := fun h => hz h.2.2.1
          simp only [validB, hv, decide_false]
          simpa using hz
      · have e1 : ((l.length : Int) == 2 ^ n.toNat) = false := by simpa using hlen
        have hv : ¬ Valid n l := fun h => hlen h.2.1
        rw [e1, cond_false]
        simp [validB, hv]
    · have hv : ¬ Valid n l := fun h => hn h.1
      rw [decide_eq_false hn]
      simp [validB, hv]
  · rw [h3]
    have hv : ¬ Valid n l := fun h => by
      have := h.2.2.2 i h1
      simp only [decide_eq_false_iff_not] at h2
      exact h2 this
    simp [validB, hv]
theorem contains_eq (l : List Int) (hl : l.length ≤ 1048576) : ∃ r, m_slices_ContainsFunc_int_int_impl_IsValidGame_1 l = some r ∧ (r = false ↔ ∀ i, i < l.length → -500 ≤ l.getD i 0 ∧ l.getD i 0 ≤ 500) := by
  unfold m_slices_ContainsFunc_int_int_impl_IsValidGame_1 m_slices_IndexFunc_int_int_impl_IsValidGame_1
  have hm : ∀ x, m_impl_IsValidGame_1 x = some (!decide (-500 ≤ x ∧ x ≤ 500)) := fun x => by
    unfold m_impl_IsValidGame_1
    rw [within_eq]
    rfl
  have hit := iter_first (step := l_slices_IndexFunc_int_int_impl_IsValidGame_1_0 l) (fun i => (i : Int)) l.length (fun i => decide (-500 ≤ l.getD i 0 ∧ l.getD i 0 ≤ 500)) (a := .inl ()) (fun i => .inr (i : Int))
    (fun i hi hp => by
      have hi' : (i : Int) < l.length := by omega
      unfold l_slices_IndexFunc_int_int_impl_IsValidGame_1_0
      rw [decide_eq_true hi', cond_true, grd_pos ⟨by omega, hi'⟩, hm, Int.toNat_natCast, hp, Option.bind_some, Bool.not_true, cond_false, w64' (by omega) (by omega)]
      rfl)
    (fun i hi hp => by
      have hi' : (i : Int) < l.length := by omega
      unfold l_slices_IndexFunc_int_int_impl_IsValidGame_1_0
      rw [decide_eq_true hi', cond_true, grd_pos ⟨by omega, hi'⟩, hm, Int.toNat_natCast, hp]
      rfl)
    (by
      unfold l_slices_IndexFunc_int_int_impl_IsValidGame_1_0
      rw [decide_eq_false (by omega)]
      rfl)
  simp only [Int.ofNat_eq_natCast, Int.natCast_zero] at hit
  rcases hit with ⟨h1, h2⟩ | ⟨i, h1, h2, h3⟩
  · rw [h2]
    exact ⟨false, rfl, by simpa using h1⟩
  · rw [h3]
    refine ⟨true, by simp, ?_⟩
    simp only [reduceCtorEq, false_iff]
    intro h
    simp only [decide_eq_false_iff_not] at h2
    exact h2 (h i h1)
theorem impl_valid (n : Int) (l : List Int) (hl : l.length ≤ 1048576) : m_impl_IsValidGame n l = some (validB n l) := by
  unfold m_impl_IsValidGame
  rw [within_eq]
  by_cases hn : 1 ≤ n ∧ n ≤ 5
  · rw [decide_eq_true hn, Option.bind_some, Bool.not_true, cond_false, grd_pos (by omega)]
    have hw : IntKind.i64.wrap ((1 : Int) * 2 ^ (min n.toNat 64)) = 2 ^ n.toNat := by
      have : n = 1 ∨ n = 2 ∨ n = 3 ∨ n = 4 ∨ n = 5 := by omega
      rcases this with rfl | rfl | rfl | rfl | rfl <;> decide
    rw [hw]
    by_cases hlen : (l.length : Int) = 2 ^ n.toNat
    · have hpos : (0 : Int) < 2 ^ n.toNat := Int.pow_pos (by decide)
      have e1 : ((l.length : Int) != 2 ^ n.toNat) = false := by simpa using hlen
      rw [e1, cond_false, grd_pos ⟨by omega, by omega⟩]
      have h0 : (0 : Int).toNat = 0 := rfl
      rw [h0]
      by_cases hz : l.getD 0 0 = 0
      · have e2 : (l.getD 0 0 != 0) = false := by simpa using hz
        rw [e2, cond_false]
        obtain ⟨r, h1, h2⟩ := contains_eq l hl
        rw [h1, Option.bind_some]
        congr 1
        by_cases hr : r = false
        · have hv : Valid n l := ⟨hn, hlen, hz, h2.1 hr⟩
          simp [validB, hv, hr]
        · have hv : ¬ Valid n l := fun h => hr (h2.2 h.2.2.2)
          have hr' : r = true := by cases r <;> simp at hr ⊢
          simp [validB, hv, hr']
      · have e2 : (l.getD 0 0 != 0) = true := by simpa using hz
        have hv : ¬ Valid n l := fun h => hz h.2.2.1
        rw [e2]
        simp [validB, hv]
    · have e1 : ((l.length : Int) != 2 ^ n.toNat) = true := by simpa using hlen
      have hv : ¬ Valid n l := fun h => hlen h.2.1
      rw [e1]
      simp [validB, hv]
  · have hv : ¬ Valid n l := fun h => hn h.1
    rw [decide_eq_false hn]
    simp [validB, hv]
theorem iter_find {S A : Type} {step : S → Option (S ⊕ A)} (st : Nat → S) (n : Nat) (p : Nat → Bool) (a : A) (b : Nat → A)
    (hs : ∀ i, i < n → step (st i) = some (if p i = true then .inr (b i) else .inl (st (i + 1)))) (hd : step (st n) = some (.inr a)) :
    iter step (st 0) = some (match (List.range n).find? p with
      | some i => b i
      | none => a) := by
  have key : ∀ k, k ≤ n → iter step (st (n - k)) = some (match (List.range' (n - k) k).find? p with
      | some i => b i
      | none => a) := by
    intro k
    induction k with
    | zero => intro _; simpa using iter_done hd
    | succ k ih =>
      intro hk
      have h1 := hs (n - (k + 1)) (by omega)
      rw [List.range'_succ, List.find?_cons]
      cases hp : p (n - (k + 1)) with
      | true =>
        rw [if_pos hp] at h1
        exact iter_done h1
      | false =>
        rw [if_neg (by simp [hp])] at h1
        rw [iter_next h1, show n - (k + 1) + 1 = n - k by omega]
        exact ih (by omega)
  have := key n (Nat.le_refl _)
  rw [Nat.sub_self, ← List.range_eq_range'] at this
  exact this
def tab {α : Type} (f : Nat → α) (n : Nat) : List α := (List.range n).map f
theorem tab_succ {α : Type} (f : Nat → α) (n : Nat) : tab f (n + 1) = tab f n ++ [f n] := by simp [tab, List.range_succ]
theorem tab_length {α : Type} (f : Nat → α) (n : Nat) : (tab f n).length = n := by simp [tab]
theorem tab_getD {α : Type} (f : Nat → α) (n : Nat) (d : α) (i : Nat) (h : i < n) : (tab f n).getD i d = f i := by
  simp [tab, List.getD, List.getElem?_map, List.getElem?_range h]
def fil {α : Type} (p : Nat → Bool) (f : Nat → α) (n : Nat) : List α := ((List.range n).filter p).map f
theorem fil_succ {α : Type} (p : Nat → Bool) (f : Nat → α) (n : Nat) : fil p f (n + 1) = if p n = true then fil p f n ++ [f n] else fil p f n := by
  simp only [fil, List.range_succ, List.filter_append]
  by_cases h : p n = true
  · simp [h]
  · simp [h]
theorem fil_length {α : Type} (p : Nat → Bool) (f : Nat → α) (n : Nat) : (fil p f n).length ≤ n := by
  simp only [fil, List.length_map]
  exact Nat.le_trans (List.length_filter_le _ _) (by simp)
theorem set_tab {α : Type} (f : Nat → α) (l : List α) (i : Nat) (h : i < l.length) : (tab f i ++ l.drop i).set i (f i) = tab f (i + 1) ++ l.drop (i + 1) := by
  rw [List.set_append]
  have h1 : ¬ i < (tab f i).length := by rw [tab_length]; omega
  rw [if_neg h1, tab_length, Nat.sub_self, tab_succ, List.drop_eq_getElem_cons h]
  simp only [List.set_cons_zero, List.append_assoc, List.singleton_append]
theorem getD_nat {α : Type} (l : List α) (i : Nat) (d : α) : l.getD (i : Int).toNat d = l.getD i d := by rw [Int.toNat_natCast]
theorem mark_ints (l : List Int) (k : Int) (h1 : 0 ≤ k) (h2 : k ≤ 1000000000000) (hl : l.length ≤ 1000000000000) : m_laws_markIntS_io1 l k = some (k + l.length, tab (fun i => k + (i : Int)) l.length) := by
  unfold m_laws_markIntS_io1
  have hit := iter_up (step := l_laws_markIntS_io1_0) (fun i => (k + (i : Int), (i : Int), tab (fun i => k + (i : Int)) i ++ l.drop i)) l.length (a := (k + l.length, tab (fun i => k + (i : Int)) l.length)) (fun i hi => by
      have hlen : (tab (fun i => k + (i : Int)) i ++ l.drop i).length = l.length := by simp [tab_length]; omega
      unfold l_laws_markIntS_io1_0
      simp only [hlen]
      rw [decide_eq_true (by omega), cond_true, grd_pos ⟨by omega, by omega⟩, w64' (by omega) (by omega), w64' (by omega) (by omega), Int.toNat_natCast, set_tab (fun i => k + (i : Int)) l i hi]
      simp [Int.add_assoc])
    (by
      unfold l_laws_markIntS_io1_0
      simp [tab_length])
  simp only [Int.natCast_zero, Int.add_zero, List.drop_zero, tab, List.range_zero, List.map_nil, List.nil_append] at hit
  rw [hit]
  rfl
theorem mark_game (n : Int) (l : List Int) (k : Int) (h1 : 0 ≤ k) (h2 : k ≤ 1000000000000) (hl : l.length ≤ 1000000000000) : m_laws_markGame_io1 n l k = some (k + l.length, tab (fun i => k + (i : Int)) l.length) := by
  unfold m_laws_markGame_io1
  rw [mark_ints l k h1 h2 hl]
  rfl
def validQ (a b : Int) : Bool := decide (1 ≤ b ∧ b ≤ 1000000000 ∧ -1000000000 ≤ a ∧ a ≤ 1000000000 ∧ Int.gcd a b = 1)
theorem gcd_loop (m n : Nat) : iter l_spec_l3Gcd_0 ((m : Int), (n : Int)) = some ((Nat.gcd m n : Nat) : Int) := by
  induction n using Nat.strongRecOn generalizing m with
  | _ n ih =>
    by_cases h : n = 0
    · subst h
      rw [iter_done (a := (m : Int))]
      · simp
      · simp [l_spec_l3Gcd_0]
    · have hs : l_spec_l3Gcd_0 ((m : Int), (n : Int)) = some (.inl ((n : Int), ((m % n : Nat) : Int))) := by
        unfold l_spec_l3Gcd_0
        dsimp only
        rw [decide_eq_true (by omega), cond_true, grd_pos (by omega)]
        rfl
      rw [iter_next hs, ih (m % n) (Nat.mod_lt _ (by omega)) n, Nat.gcd_comm n (m % n), ← Nat.gcd_rec n m, Nat.gcd_comm n m]
theorem spec_gcd (a b : Int) (ha : -9223372036854775807 ≤ a ∧ a ≤ 9223372036854775807) (hb : -9223372036854775807 ≤ b ∧ b ≤ 9223372036854775807) : m_spec_l3Gcd a b = some ((Int.gcd a b : Nat) : Int) := by
  unfold m_spec_l3Gcd
  have e1 : l_spec_l3Gcd_1 = l_spec_l3Gcd_0 := rfl
  have e2 : l_spec_l3Gcd_2 = l_spec_l3Gcd_0 := rfl
  have e3 : l_spec_l3Gcd_3 = l_spec_l3Gcd_0 := rfl
  rw [e1, e2, e3]
  have ea : (if a < 0 then IntKind.i64.wrap (0 - a) else a) = (a.natAbs : Int) := by
    by_cases h : a < 0
    · rw [if_pos h, w64' (by omega) (by omega)]; omega
    · rw [if_neg h]; omega
  have eb : (if b < 0 then IntKind.i64.wrap (0 - b) else b) = (b.natAbs : Int) := by
    by_cases h : b < 0
    · rw [if_pos h, w64' (by omega) (by omega)]; omega
    · rw [if_neg h]; omega
  have key := gcd_loop a.natAbs b.natAbs
  rw [← ea, ← eb] at key
  have hg : Nat.gcd a.natAbs b.natAbs = Int.gcd a b := rfl
  rw [hg] at key
  by_cases h1 : a < 0 <;> by_cases h2 : b < 0 <;> simp only [h1, h2, if_true, if_false, decide_true, decide_false, cond_true, cond_false] at key ⊢ <;> rw [key] <;> rfl
theorem common_loop : ∀ (N : Nat) (a b : Int), b.natAbs ≤ N → ∃ x, iter l_impl_common_0 (a, b) = some x ∧ x.natAbs = Int.gcd a b := by
  intro N
  induction N with
  | zero =>
    intro a b h
    have hb : b = 0 := by omega
    subst hb
    exact ⟨a, iter_done (by simp [l_impl_common_0]), by simp⟩
  | succ N ih =>
    intro a b h
    by_cases hb : b = 0
    · subst hb
      exact ⟨a, iter_done (by simp [l_impl_common_0]), by simp⟩
    · have hs : l_impl_common_0 (a, b) = some (.inl (b, a.tmod b)) := by
        unfold l_impl_common_0
        have : (b != 0) = true := by simpa using hb
        dsimp only
        rw [this, cond_true, grd_pos hb]
      have hlt : (a.tmod b).natAbs < b.natAbs := by
        rw [Int.natAbs_tmod]
        exact Nat.mod_lt _ (by omega)
      obtain ⟨x, h1, h2⟩ := ih b (a.tmod b) (by omega)
      refine ⟨x, by rw [iter_next hs, h1], ?_⟩
      rw [h2]
      show Nat.gcd b.natAbs (a.tmod b).natAbs = Nat.gcd a.natAbs b.natAbs
      rw [Int.natAbs_tmod, Nat.gcd_comm b.natAbs, ← Nat.gcd_rec, Nat.gcd_comm]
theorem gcd_le (a b : Int) : Int.gcd a b ≤ a.natAbs ∨ Int.gcd a b ≤ b.natAbs := by
  by_cases hb : b = 0
  · subst hb; left; simp
  · right
    exact Nat.le_of_dvd (by omega) (Int.gcd_dvd_natAbs_right a b)
theorem impl_common (a b : Int) (ha : -9223372036854775807 ≤ a ∧ a ≤ 9223372036854775807) (hb : -9223372036854775807 ≤ b ∧ b ≤ 9223372036854775807) : m_impl_common a b = some ((Int.gcd a b : Nat) : Int) := by
  unfold m_impl_common
  obtain ⟨x, h1, h2⟩ := common_loop _ a b (Nat.le_refl _)
  have h3 := gcd_le a b
  rw [h1, Option.bind_some]
  dsimp only
  rw [w64' (by omega) (by omega)]
  congr 1
  split <;> omega
theorem spec_validRat (a b : Int) : m_spec_IsValidRat a b = some (validQ a b) := by
  unfold m_spec_IsValidRat
  rw [in_eq, Option.bind_some]
  by_cases hb : 1 ≤ b ∧ b ≤ 1000000000
  · rw [decide_eq_true hb, cond_true, in_eq, Option.bind_some]
    by_cases ha : -1000000000 ≤ a ∧ a ≤ 1000000000
    · rw [decide_eq_true ha, cond_true, spec_gcd a b (by omega) (by omega), Option.bind_some]
      congr 1
      by_cases hg : Int.gcd a b = 1
      · simp [validQ, hg, ha, hb]
      · have : ¬ ((Int.gcd a b : Nat) : Int) = 1 := by omega
        simp [validQ, hg, this]
    · rw [decide_eq_false ha, cond_false]
      have : ¬ (1 ≤ b ∧ b ≤ 1000000000 ∧ -1000000000 ≤ a ∧ a ≤ 1000000000 ∧ Int.gcd a b = 1) := fun h => ha ⟨h.2.2.1, h.2.2.2.1⟩
      rw [validQ, decide_eq_false this]
  · rw [decide_eq_false hb, cond_false]
    have : ¬ (1 ≤ b ∧ b ≤ 1000000000 ∧ -1000000000 ≤ a ∧ a ≤ 1000000000 ∧ Int.gcd a b = 1) := fun h => hb ⟨h.1, h.2.1⟩
    rw [validQ, decide_eq_false this]
theorem impl_validRat (a b : Int) : m_impl_IsValidRat a b = some (validQ a b) := by
  rw [← spec_validRat]
  unfold m_impl_IsValidRat m_spec_IsValidRat
  rw [in_eq, within_eq, Option.bind_some, Option.bind_some]
  by_cases hb : 1 ≤ b ∧ b ≤ 1000000000
  · rw [decide_eq_true hb, cond_true, cond_true, in_eq, within_eq, Option.bind_some, Option.bind_some]
    by_cases ha : -1000000000 ≤ a ∧ a ≤ 1000000000
    · rw [decide_eq_true ha, cond_true, cond_true, spec_gcd a b (by omega) (by omega), impl_common a b (by omega) (by omega)]
    · rw [decide_eq_false ha]
      rfl
  · rw [decide_eq_false hb]
    rfl
theorem validQ_bd {a b : Int} (h : validQ a b = true) : 1 ≤ b ∧ b ≤ 1000000000 ∧ -1000000000 ≤ a ∧ a ≤ 1000000000 ∧ Int.gcd a b = 1 := by simpa [validQ] using h
theorem cmp_eq (a b c d : Int) : m_impl_CompareRat a b c d = m_spec_CompareRat a b c d := by
  unfold m_impl_CompareRat m_spec_CompareRat
  rw [spec_validRat, spec_validRat, impl_validRat, impl_validRat]
theorem mul_bd {x y : Int} (hx : -1000000000 ≤ x ∧ x ≤ 1000000000) (hy : -1000000000 ≤ y ∧ y ≤ 1000000000) : -1000000000000000000 ≤ x * y ∧ x * y ≤ 1000000000000000000 := by
  have h1 : (x * y).natAbs ≤ 1000000000 * 1000000000 := by
    rw [Int.natAbs_mul]
    exact Nat.mul_le_mul (by omega) (by omega)
  omega
def cmpQ (a b c d : Int) : Int := if validQ a b = true ∧ validQ c d = true then (if a * d < c * b then -1 else if a * d > c * b then 1 else 0) else 0
theorem spec_cmp (a b c d : Int) : m_spec_CompareRat a b c d = some (cmpQ a b c d) := by
  unfold m_spec_CompareRat cmpQ
  rw [spec_validRat, spec_validRat]
  cases h1 : validQ a b with
  | false => simp
  | true =>
    cases h2 : validQ c d with
    | false => simp
    | true =>
      have v1 := validQ_bd h1
      have v2 := validQ_bd h2
      have b1 := mul_bd (x := a) (y := d) (by omega) (by omega)
      have b2 := mul_bd (x := c) (y := b) (by omega) (by omega)
      rw [w64' (by omega) (by omega), w64' (by omega) (by omega)]
      by_cases h3 : a * d < c * b
      · simp [h3]
      · by_cases h4 : c * b < a * d
        · simp [h3, h4]
        · simp [h3, h4]
theorem impl_cmp (a b c d : Int) : m_impl_CompareRat a b c d = some (cmpQ a b c d) := by rw [cmp_eq, spec_cmp]
instance : DecidableEq Q := fun a b =>
  if h1 : a.num = b.num then
    if h2 : a.den = b.den then isTrue (by cases a; cases b; simp only at h1 h2; rw [h1, h2])
    else isFalse (fun h => h2 (by rw [h]))
  else isFalse (fun h => h1 (by rw [h]))
theorem Q_ext {a b : Q} : a = b ↔ a.num = b.num ∧ a.den = b.den := ⟨fun h => by rw [h]; exact ⟨rfl, rfl⟩, fun h => by cases a; cases b; simp only at h; rw [h.1, h.2]⟩
theorem sz_rats (l : List Q) (k : Int) (h1 : 0 ≤ k) (h2 : k ≤ 1048576) (hl : l.length ≤ maxLen) : m_laws_szRatS l k = some (if k < l.length then -1 else k - l.length) := by
  have hl' : (l.length : Int) ≤ 9223372036854775807 := by simp only [maxLen] at hl; omega
  have hw : IntKind.i64.wrap (k - (l.length : Int)) = k - l.length := w64' (by omega) (by omega)
  unfold m_laws_szRatS
  rw [hw]
  by_cases h : k < l.length
  · have : k - (l.length : Int) < 0 := by omega
    simp [h, this]
  · have : ¬ k - (l.length : Int) < 0 := by omega
    simp [h, this]
theorem to_rats (l : List Q) (hl : l.length ≤ 1048576) : m_laws_toRatS l = some l := by
  unfold m_laws_toRatS
  rw [grd_pos ⟨by omega, rfl, by simp only [room]; omega⟩]
  have h := iter_up (step := l_laws_toRatS_0 l) (fun i => ((i : Int), l.take i ++ List.replicate (l.length - i) (⟨0, 0⟩ : Q))) l.length (a := l) (fun i hi => ?_) ?_
  · simp only [List.take_zero, List.nil_append, Nat.sub_zero, Int.ofNat_eq_natCast] at h
    simp only [Int.toNat_natCast]
    rw [show ((0 : Int), List.replicate l.length (⟨0, 0⟩ : Q)) = (((0 : Nat) : Int), List.replicate l.length (⟨0, 0⟩ : Q)) from rfl, h]
    rfl
  · have hi' : (i : Int) < l.length := by omega
    have hlen : ((l.take i ++ List.replicate (l.length - i) (⟨0, 0⟩ : Q)).length : Int) = l.length := by simp; omega
    simp only [l_laws_toRatS_0, m_laws_toRat, Option.bind_some, hi', decide_true, cond_true]
    rw [grd_pos ⟨by omega, trivial⟩, grd_pos ⟨by omega, by rw [hlen]; exact hi'⟩]
    have e : (⟨(l.getD (i : Int).toNat ⟨0, 0⟩).num, (l.getD (i : Int).toNat ⟨0, 0⟩).den⟩ : Q) = l.getD i ⟨0, 0⟩ := by rw [Int.toNat_natCast]
    rw [w64' (by omega) (by omega), e, Int.toNat_natCast, set_copy l ⟨0, 0⟩ ⟨0, 0⟩ i hi]
    rfl
  · simp [l_laws_toRatS_0]
theorem eq_find {α : Type} [DecidableEq α] (d : α) (a b : List α) (hl : a.length = b.length) : (match (List.range a.length).find? (fun i => !decide (a.getD i d = b.getD i d)) with
      | some _ => (.inr false : Unit ⊕ Bool)
      | none => .inl ()) = if a = b then .inl () else .inr false := by
  cases h : (List.range a.length).find? (fun i => !decide (a.getD i d = b.getD i d)) with
  | none =>
    rw [List.find?_eq_none] at h
    rw [if_pos (eq_of_all d hl fun i hi => by simpa using h i (List.mem_range.2 hi))]
  | some i =>
    have h1 := List.find?_some h
    simp only [Bool.not_eq_true', decide_eq_false_iff_not] at h1
    rw [if_neg fun e => h1 (by rw [e])]
theorem eq_rat (a b c d : Int) : m_laws_eqRat a b c d = some (decide (a = c ∧ b = d)) := by
  unfold m_laws_eqRat
  by_cases h1 : a = c
  · by_cases h2 : b = d
    · simp [h1, h2]
    · have e : (b != d) = true := by simpa using h2
      simp [h1, h2, e]
  · have e : (a != c) = true := by simpa using h1
    simp [h1, e]
theorem eq_rats (a b : List Q) (ha : a.length ≤ 1048576) : m_laws_eqRatS a b = some (decide (a = b)) := by
  unfold m_laws_eqRatS
  by_cases hl : a.length = b.length
  · have e : ((a.length : Int) != (b.length : Int)) = false := by simp [hl]
    have hit := iter_find (step := l_laws_eqRatS_0 a b) (fun i => (i : Int)) a.length (fun i => !decide (a.getD i ⟨0, 0⟩ = b.getD i ⟨0, 0⟩)) (.inl ()) (fun _ => .inr false)
      (fun i hi => by
        unfold l_laws_eqRatS_0
        rw [decide_eq_true (by omega), cond_true, grd_pos ⟨by omega, by omega⟩, grd_pos ⟨by omega, by omega⟩, getD_nat, getD_nat, eq_rat, Option.bind_some, w64' (by omega) (by omega)]
        by_cases hq : a.getD i ⟨0, 0⟩ = b.getD i ⟨0, 0⟩
        · rw [decide_eq_true (Q_ext.1 hq), decide_eq_true hq]
          rfl
        · rw [decide_eq_false fun h => hq (Q_ext.2 h), decide_eq_false hq]
          rfl)
      (by
        unfold l_laws_eqRatS_0
        rw [decide_eq_false (by omega)]
        rfl)
    rw [eq_find _ a b hl] at hit
    simp only [Int.natCast_zero] at hit
    rw [e, cond_false, hit]
    by_cases hab : a = b
    · simp [hab]
    · simp [hab]
  · have e : ((a.length : Int) != (b.length : Int)) = true := by
      simp only [bne_iff_ne, ne_eq]
      omega
    have : ¬ a = b := fun e => hl (by rw [e])
    rw [e]
    simp [this]
theorem count0 (n : Nat) (h : n ≤ 5) : m_spec_CountCoalitions (n : Int) = some (2 ^ n) := by
  rcases Nat.eq_zero_or_pos n with rfl | h1
  · unfold m_spec_CountCoalitions
    rw [in_eq, decide_eq_true (by omega), Option.bind_some, Bool.not_true, cond_false]
    rw [iter_done (a := (1 : Int)) (by simp [l_spec_CountCoalitions_0])]
    rfl
  · rw [count_eq (n : Int) (by omega) (by omega)]
    simp
theorem bit2 (k : Nat) (h : k < 5) : m_spec_l2Bit (k : Int) = some (2 ^ k) := by
  unfold m_spec_l2Bit
  rw [count0 k (by omega)]
  rfl
theorem and_tab : ∀ s : Fin 32, ∀ k : Fin 5, bitsOf .and .i64 (((s.val : Nat) : Int).fdiv (2 ^ (min ((k.val : Nat) : Int).toNat 64))) 1 = if s.val.testBit k.val then 1 else 0 := by decide +kernel
theorem has_tab : ∀ s : Fin 32, ∀ k : Fin 5, ((IntKind.i64.wrap (((s.val : Nat) : Int).tdiv (2 ^ k.val))).tmod 2 == 1) = s.val.testBit k.val := by decide +kernel
theorem and_eq (s k : Nat) (hs : s < 32) (hk : k < 5) : bitsOf .and .i64 ((s : Int).fdiv (2 ^ (min (k : Int).toNat 64))) 1 = if s.testBit k then 1 else 0 := and_tab ⟨s, hs⟩ ⟨k, hk⟩
theorem spec_has (s k : Nat) (hs : s < 32) (hk : k < 5) : m_spec_HasPlayer (s : Int) (k : Int) = some (s.testBit k) := by
  unfold m_spec_HasPlayer
  have hp : (0 : Int) < 2 ^ k := Int.pow_pos (by decide)
  rw [in_eq, decide_eq_true (by omega), Option.bind_some, cond_true, decide_eq_true (by omega), cond_true, bit2 k hk, Option.bind_some, grd_pos (by omega), grd_pos (by decide)]
  rw [← has_tab ⟨s, hs⟩ ⟨k, hk⟩]
/-- a valid game, in natural numbers -/
theorem valid_nat {n : Int} {l : List Int} (h : Valid n l) : ∃ N : Nat, n = (N : Int) ∧ 1 ≤ N ∧ N ≤ 5 ∧ l.length = 2 ^ N ∧ l.length ≤ 32 := by
  obtain ⟨h1, h2, _⟩ := h
  have hn : n = 1 ∨ n = 2 ∨ n = 3 ∨ n = 4 ∨ n = 5 := by omega
  refine ⟨n.toNat, by omega, by omega, by omega, ?_, ?_⟩
  · rcases hn with rfl | rfl | rfl | rfl | rfl <;> simp at h2 ⊢ <;> omega
  · rcases hn with rfl | rfl | rfl | rfl | rfl <;> simp at h2 ⊢ <;> omega
theorem validB_eq (n : Int) (l : List Int) : validB n l = true ↔ Valid n l := by simp [validB]
theorem iter_findc {S A : Type} {step : S → Option (S ⊕ A)} (st : Nat → S) (n : Nat) (p : Nat → Bool) (a : A) (b : Nat → A)
    (hs : ∀ i, i < n → step (st i) = some (bif p i then .inr (b i) else .inl (st (i + 1)))) (hd : step (st n) = some (.inr a)) :
    iter step (st 0) = some (match (List.range n).find? p with
      | some i => b i
      | none => a) := iter_find st n p a b (fun i hi => by rw [hs i hi]; cases p i <;> rfl) hd
theorem good_eq (a : Nat) (ha : a < 32) : m_spec_l2Good (a : Int) = some true := by
  unfold m_spec_l2Good
  rw [in_eq, decide_eq_true (by omega)]
  rfl
theorem first_bad (n : Nat) (P : Nat → Prop) : (∀ i, i < n → P i) ∨ ∃ t, t < n ∧ ¬ P t ∧ ∀ i, i < t → P i := by
  by_cases h : ∀ i, i < n → P i
  · exact .inl h
  · have h' : ∃ t, t < n ∧ ¬ P t := by
      simp only [Classical.not_forall] at h
      obtain ⟨i, h1, h2⟩ := h
      exact ⟨i, h1, h2⟩
    obtain ⟨t, ⟨h1, h2⟩, h3⟩ := least h'
    refine .inr ⟨t, h1, h2, fun i hi => ?_⟩
    by_cases hp : P i
    · exact hp
    · have := h3 i ⟨by omega, hp⟩
      omega
def ratOf (n d : Int) : Int × Int × Bool :=
  if d = 0 ∨ ¬ (-1000000000000000000 ≤ n ∧ n ≤ 1000000000000000000) ∨ ¬ (-1000000000000000000 ≤ d ∧ d ≤ 1000000000000000000) then (0, 0, false)
  else if validQ ((if d < 0 then -n else n).tdiv (Int.gcd n d : Nat)) ((if d < 0 then -d else d).tdiv (Int.gcd n d : Nat)) = true then ((if d < 0 then -n else n).tdiv (Int.gcd n d : Nat), (if d < 0 then -d else d).tdiv (Int.gcd n d : Nat), true) else (0, 0, false)
theorem tdiv_bd (n : Int) (g : Nat) : -(n.natAbs : Int) ≤ n.tdiv g ∧ n.tdiv g ≤ n.natAbs := by
  have h : (n.tdiv g).natAbs ≤ n.natAbs := by
    rw [Int.natAbs_tdiv]
    exact Nat.div_le_self _ _
  omega
theorem gcd_pos' {n d : Int} (h : d ≠ 0) : 0 < Int.gcd n d := Int.gcd_pos_of_ne_zero_right n h
theorem spec_ratOf (n d : Int) : m_spec_RatOf n d = some (ratOf n d) := by
  unfold m_spec_RatOf ratOf
  by_cases h0 : d = 0
  · simp [h0]
  · have e0 : (d == 0) = false := by simpa using h0
    rw [e0, cond_false, in_eq, in_eq, Option.bind_some, Option.bind_some]
    by_cases h1 : -1000000000000000000 ≤ n ∧ n ≤ 1000000000000000000
    · by_cases h2 : -1000000000000000000 ≤ d ∧ d ≤ 1000000000000000000
      · have hc : ¬ (d = 0 ∨ ¬ (-1000000000000000000 ≤ n ∧ n ≤ 1000000000000000000) ∨ ¬ (-1000000000000000000 ≤ d ∧ d ≤ 1000000000000000000)) := fun h => by
          rcases h with h | h | h
          · exact h0 h
          · exact h h1
          · exact h h2
        have hg := gcd_pos' (n := n) h0
        rw [if_neg hc, decide_eq_true h1, decide_eq_true h2, Bool.not_true, cond_false, cond_false]
        by_cases h3 : d < 0
        · have b1 := tdiv_bd (-n) (Int.gcd n d)
          have b2 := tdiv_bd (-d) (Int.gcd n d)
          have z1 : IntKind.i64.wrap (0 - n) = -n := by rw [w64' (by omega) (by omega)]; omega
          have z2 : IntKind.i64.wrap (0 - d) = -d := by rw [w64' (by omega) (by omega)]; omega
          rw [decide_eq_true h3, cond_true, z1, z2, spec_gcd _ _ (by omega) (by omega), Int.neg_gcd, Int.gcd_neg, Option.bind_some, grd_pos (by omega), grd_pos (by omega), w64' (n := (-n).tdiv _) (by omega) (by omega), w64' (n := (-d).tdiv _) (by omega) (by omega), spec_validRat, Option.bind_some]
          simp only [if_pos h3]
          cases validQ ((-n).tdiv (Int.gcd n d : Nat)) ((-d).tdiv (Int.gcd n d : Nat)) <;> rfl
        · have b1 := tdiv_bd n (Int.gcd n d)
          have b2 := tdiv_bd d (Int.gcd n d)
          rw [decide_eq_false h3, cond_false, spec_gcd _ _ (by omega) (by omega), Option.bind_some, grd_pos (by omega), grd_pos (by omega), w64' (n := n.tdiv _) (by omega) (by omega), w64' (n := d.tdiv _) (by omega) (by omega), spec_validRat, Option.bind_some]
          simp only [if_neg h3]
          cases validQ (n.tdiv (Int.gcd n d : Nat)) (d.tdiv (Int.gcd n d : Nat)) <;> rfl
      · rw [if_pos (.inr (.inr h2)), decide_eq_true h1, decide_eq_false h2]
        rfl
    · rw [if_pos (.inr (.inl h1)), decide_eq_false h1]
      rfl
theorem impl_ratOf (n d : Int) : m_impl_RatOf n d = some (ratOf n d) := by
  unfold m_impl_RatOf ratOf
  by_cases h0 : d = 0
  · simp [h0]
  · have e0 : (d == 0) = false := by simpa using h0
    rw [e0, cond_false, within_eq, within_eq, Option.bind_some, Option.bind_some]
    by_cases h1 : -1000000000000000000 ≤ n ∧ n ≤ 1000000000000000000
    · by_cases h2 : -1000000000000000000 ≤ d ∧ d ≤ 1000000000000000000
      · have hc : ¬ (d = 0 ∨ ¬ (-1000000000000000000 ≤ n ∧ n ≤ 1000000000000000000) ∨ ¬ (-1000000000000000000 ≤ d ∧ d ≤ 1000000000000000000)) := fun h => by
          rcases h with h | h | h
          · exact h0 h
          · exact h h1
          · exact h h2
        have hg := gcd_pos' (n := n) h0
        have hgl := gcd_le n d
        rw [if_neg hc, decide_eq_true h1, decide_eq_true h2, Bool.not_true, cond_false, cond_false, impl_common _ _ (by omega) (by omega), Option.bind_some]
        by_cases h3 : d < 0
        · have b1 := tdiv_bd (-n) (Int.gcd n d)
          have b2 := tdiv_bd (-d) (Int.gcd n d)
          have z1 : IntKind.i64.wrap (0 - ((Int.gcd n d : Nat) : Int)) = -((Int.gcd n d : Nat) : Int) := by rw [w64' (by omega) (by omega)]; omega
          rw [decide_eq_true h3, cond_true, z1, grd_pos (by omega), grd_pos (by omega), Int.tdiv_neg, Int.tdiv_neg, ← Int.neg_tdiv, ← Int.neg_tdiv, w64' (n := (-n).tdiv _) (by omega) (by omega), w64' (n := (-d).tdiv _) (by omega) (by omega), impl_validRat, Option.bind_some]
          simp only [if_pos h3]
          cases validQ ((-n).tdiv (Int.gcd n d : Nat)) ((-d).tdiv (Int.gcd n d : Nat)) <;> rfl
        · have b1 := tdiv_bd n (Int.gcd n d)
          have b2 := tdiv_bd d (Int.gcd n d)
          rw [decide_eq_false h3, cond_false, grd_pos (by omega), grd_pos (by omega), w64' (n := n.tdiv _) (by omega) (by omega), w64' (n := d.tdiv _) (by omega) (by omega), impl_validRat, Option.bind_some]
          simp only [if_neg h3]
          cases validQ (n.tdiv (Int.gcd n d : Nat)) (d.tdiv (Int.gcd n d : Nat)) <;> rfl
      · rw [if_pos (.inr (.inr h2)), decide_eq_true h1, decide_eq_false h2]
        rfl
    · rw [if_pos (.inr (.inl h1)), decide_eq_false h1]
      rfl
theorem ratOf_false {n d : Int} (h : (ratOf n d).2.2 = false) : ratOf n d = (0, 0, false) := by
  unfold ratOf at h ⊢
  by_cases h1 : d = 0 ∨ ¬ (-1000000000000000000 ≤ n ∧ n ≤ 1000000000000000000) ∨ ¬ (-1000000000000000000 ≤ d ∧ d ≤ 1000000000000000000)
  · rw [if_pos h1]
  · rw [if_neg h1] at h ⊢
    by_cases h2 : validQ ((if d < 0 then -n else n).tdiv (Int.gcd n d : Nat)) ((if d < 0 then -d else d).tdiv (Int.gcd n d : Nat)) = true
    · rw [if_pos h2] at h
      cases h
    · rw [if_neg h2]
def addQ (a b c d : Int) : Int × Int × Bool := if validQ a b = true ∧ validQ c d = true then ratOf (a * d + c * b) (b * d) else (0, 0, false)
def subQ (a b c d : Int) : Int × Int × Bool := if validQ a b = true ∧ validQ c d = true then ratOf (a * d - c * b) (b * d) else (0, 0, false)
theorem prodBd {a b c d : Int} (v1 : validQ a b = true) (v2 : validQ c d = true) : (-1000000000000000000 ≤ a * d ∧ a * d ≤ 1000000000000000000) ∧ (-1000000000000000000 ≤ c * b ∧ c * b ≤ 1000000000000000000) ∧ (-1000000000000000000 ≤ b * d ∧ b * d ≤ 1000000000000000000) ∧ (-1000000000000000000 ≤ a * c ∧ a * c ≤ 1000000000000000000) ∧ (-1000000000000000000 ≤ b * c ∧ b * c ≤ 1000000000000000000) := by
  have h1 := validQ_bd v1
  have h2 := validQ_bd v2
  exact ⟨mul_bd (by omega) (by omega), mul_bd (by omega) (by omega), mul_bd (by omega) (by omega), mul_bd (by omega) (by omega), mul_bd (by omega) (by omega)⟩
theorem spec_add (a b c d : Int) : m_spec_AddRat a b c d = some (addQ a b c d) := by
  unfold m_spec_AddRat addQ
  rw [spec_validRat, spec_validRat]
  cases h1 : validQ a b with
  | false => rfl
  | true =>
    cases h2 : validQ c d with
    | false => rfl
    | true =>
      obtain ⟨b1, b2, b3, _⟩ := prodBd h1 h2
      simp only [Option.bind_some, Bool.not_true, cond_false, and_self, if_true]
      rw [w64' (n := a * d) (by omega) (by omega), w64' (n := c * b) (by omega) (by omega), w64' (by omega) (by omega), w64' (by omega) (by omega), spec_ratOf]
      rfl
theorem impl_add (a b c d : Int) : m_impl_AddRat a b c d = some (addQ a b c d) := by
  rw [← spec_add]
  unfold m_impl_AddRat m_spec_AddRat
  rw [spec_validRat, spec_validRat, impl_validRat, impl_validRat, spec_ratOf, impl_ratOf]
theorem impl_has (s k : Nat) (hs : s < 32) (hk : k < 5) : m_impl_HasPlayer (s : Int) (k : Int) = some (s.testBit k) := by
  unfold m_impl_HasPlayer
  rw [decide_eq_true (by omega), cond_true, within_eq, decide_eq_true (by omega), Option.bind_some, cond_true, grd_pos (by omega), and_eq s k hs hk]
  cases s.testBit k <;> rfl
def mems (s : Nat) : List Int := fil s.testBit (fun k => (k : Int)) 5
theorem spec_members (s : Nat) (hs : s < 32) : m_spec_MembersOf (s : Int) = some (mems s) := by
  unfold m_spec_MembersOf
  have hit := iter_up (step := l_spec_MembersOf_0 (s : Int)) (fun k => ((k : Int), fil s.testBit (fun k => (k : Int)) k)) 5 (a := mems s) (fun k hk => by
      have hb := fil_length s.testBit (fun k => (k : Int)) k
      unfold l_spec_MembersOf_0
      dsimp only
      rw [decide_eq_true (by omega), cond_true, good_eq s hs, Option.bind_some, cond_true, spec_has s k hs hk, Option.bind_some, w64' (by omega) (by omega), fil_succ, grd_pos (by simp only [List.length_singleton, room]; omega)]
      cases s.testBit k <;> rfl)
    (by unfold l_spec_MembersOf_0; dsimp only; rw [decide_eq_false (by omega)]; rfl)
  have e : fil s.testBit (fun k => (k : Int)) 0 = [] := rfl
  simp only [Int.natCast_zero, e] at hit
  rw [hit]
  rfl
theorem impl_members (s : Nat) (hs : s < 32) : m_impl_MembersOf (s : Int) = some (mems s) := by
  unfold m_impl_MembersOf
  have hit := iter_up (step := l_impl_MembersOf_0 (s : Int)) (fun k => ((k : Int), fil s.testBit (fun k => (k : Int)) k)) 5 (a := mems s) (fun k hk => by
      have hb := fil_length s.testBit (fun k => (k : Int)) k
      unfold l_impl_MembersOf_0
      dsimp only
      rw [decide_eq_true (by omega), cond_true, impl_has s k hs hk, Option.bind_some, w64' (by omega) (by omega), fil_succ, grd_pos (by simp only [List.length_singleton, room]; omega)]
      cases s.testBit k <;> rfl)
    (by unfold l_impl_MembersOf_0; dsimp only; rw [decide_eq_false (by omega)]; rfl)
  have e : fil s.testBit (fun k => (k : Int)) 0 = [] := rfl
  simp only [Int.natCast_zero, e] at hit
  rw [within_eq, decide_eq_true (by omega), Option.bind_some, Bool.not_true, cond_false, hit]
  rfl
theorem mems_mem {s : Nat} {m : Int} (h : m ∈ mems s) : ∃ k : Nat, m = (k : Int) ∧ k < 5 ∧ s.testBit k = true := by
  simp only [mems, fil, List.mem_map, List.mem_filter, List.mem_range] at h
  obtain ⟨k, ⟨h1, h2⟩, h3⟩ := h
  exact ⟨k, h3.symm, h1, h2⟩
theorem mems_length (s : Nat) : (mems s).length ≤ 5 := fil_length _ _ _
def shareFrom (x : List Q) : List Int → Int → Int → (Int × Int) ⊕ (Int × Int × Bool)
  | [], a, b => .inl (a, b)
  | m :: r, a, b => if m ≥ (x.length : Int) then .inr (0, 0, false) else match addQ a b (x.getD m.toNat ⟨0, 0⟩).num (x.getD m.toNat ⟨0, 0⟩).den with
    | (c, d, true) => shareFrom x r c d
    | (_, _, false) => .inr (0, 0, false)
def shareF (x : List Q) (s : Nat) : Int × Int × Bool := match shareFrom x (mems s) 0 1 with
  | .inl (a, b) => (a, b, true)
  | .inr r => r
theorem share_loop (x : List Q) (ms : List Int) (hm : ∀ m ∈ ms, 0 ≤ m) (hl : ms.length ≤ 5) : ∀ (k i : Nat) (a b : Int), ms.length - i = k → i ≤ ms.length → iter (l_spec_ShareOf_0 x ms) ((i : Int), a, b) = some (shareFrom x (ms.drop i) a b) := by
  intro k
  induction k with
  | zero =>
    intro i a b h1 h2
    rw [List.drop_eq_nil_of_le (by omega)]
    refine iter_done ?_
    unfold l_spec_ShareOf_0
    dsimp only
    rw [decide_eq_false (by omega)]
    rfl
  | succ k ih =>
    intro i a b h1 h2
    have hi : i < ms.length := by omega
    have hd : ms.getD i 0 = ms[i] := by simp [List.getD, List.getElem?_eq_getElem hi]
    have h0 : 0 ≤ ms[i] := hm _ (List.getElem_mem hi)
    have hg : (0 : Int) ≤ (i : Int) ∧ (i : Int) < (ms.length : Int) := by omega
    rw [List.drop_eq_getElem_cons hi]
    unfold shareFrom
    by_cases hge : ms[i] ≥ (x.length : Int)
    · rw [if_pos hge]
      refine iter_done ?_
      unfold l_spec_ShareOf_0
      dsimp only
      rw [decide_eq_true (by omega), cond_true, grd_pos hg, getD_nat, hd, decide_eq_true hge]
      rfl
    · rw [if_neg hge]
      have hr : (0 : Int) ≤ ms[i] ∧ ms[i] < (x.length : Int) := by omega
      rcases hq : addQ a b (x.getD ms[i].toNat ⟨0, 0⟩).num (x.getD ms[i].toNat ⟨0, 0⟩).den with ⟨c, d, ok⟩
      cases ok with
      | false =>
        refine iter_done ?_
        unfold l_spec_ShareOf_0
        dsimp only
        rw [decide_eq_true (by omega), cond_true, getD_nat, hd, decide_eq_false hge]
        simp only [grd_pos hg, grd_pos hr, cond_false, spec_add, hq, Option.bind_some, Bool.not_false, cond_true]
      | true =>
        have hs : l_spec_ShareOf_0 x ms ((i : Int), a, b) = some (.inl (((i + 1 : Nat) : Int), c, d)) := by
          unfold l_spec_ShareOf_0
          dsimp only
          rw [decide_eq_true (by omega), cond_true, getD_nat, hd, decide_eq_false hge, w64' (n := (i : Int) + 1) (by omega) (by omega)]
          simp only [grd_pos hg, grd_pos hr, cond_false, spec_add, hq, Option.bind_some, Bool.not_true]
          rfl
        rw [iter_next hs]
        exact ih (i + 1) c d (by omega) (by omega)
theorem share_step (x : List Q) (ms : List Int) : l_impl_ShareOf_0 x ms = l_spec_ShareOf_0 x ms := by
  funext ⟨v5, v6, v7⟩
  unfold l_impl_ShareOf_0 l_spec_ShareOf_0
  dsimp only
  simp only [impl_add, spec_add]
  by_cases h : (0 : Int) ≤ v5 ∧ v5 < (ms.length : Int)
  · simp only [grd_pos h]
  · simp only [grd_neg h]
theorem spec_share (x : List Q) (s : Nat) (hs : s < 32) : m_spec_ShareOf x (s : Int) = some (shareF x s) := by
  unfold m_spec_ShareOf m_spec_l3Int
  have h := share_loop x (mems s) (fun m hm => by obtain ⟨k, rfl, _⟩ := mems_mem hm; omega) (mems_length s) _ 0 0 1 rfl (by omega)
  rw [List.drop_zero] at h
  simp only [Int.natCast_zero] at h
  rw [Option.bind_some]
  dsimp only
  rw [decide_eq_false (by omega), cond_false, decide_eq_false (by omega), cond_false, spec_members s hs, Option.bind_some, h]
  unfold shareF
  rcases shareFrom x (mems s) 0 1 with ⟨a, b⟩ | r <;> rfl
theorem impl_share (x : List Q) (s : Nat) (hs : s < 32) : m_impl_ShareOf x (s : Int) = some (shareF x s) := by
  unfold m_impl_ShareOf m_impl_whole
  have h := share_loop x (mems s) (fun m hm => by obtain ⟨k, rfl, _⟩ := mems_mem hm; omega) (mems_length s) _ 0 0 1 rfl (by omega)
  rw [List.drop_zero] at h
  simp only [Int.natCast_zero] at h
  rw [within_eq, decide_eq_true (by omega), Option.bind_some, Bool.not_true, cond_false, Option.bind_some]
  dsimp only
  rw [impl_members s hs, Option.bind_some, share_step, h]
  unfold shareF
  rcases shareFrom x (mems s) 0 1 with ⟨a, b⟩ | r <;> rfl
theorem find_all (n : Nat) (p : Nat → Bool) : (List.range n).find? (fun i => !p i) = none ↔ (List.range n).all p = true := by
  rw [List.find?_eq_none, List.all_eq_true]
  constructor
  · intro h i hi
    have := h i hi
    simpa using this
  · intro h i hi
    have := h i hi
    simpa using this
theorem validQ_neg (c d : Int) : validQ (-c) d = validQ c d := by
  unfold validQ
  rw [Int.neg_gcd]
  congr 1
  apply propext
  constructor <;> (rintro ⟨h1, h2, h3, h4, h5⟩; exact ⟨h1, h2, by omega, by omega, h5⟩)
theorem spec_sub (a b c d : Int) : m_spec_SubRat a b c d = some (subQ a b c d) := by
  unfold m_spec_SubRat
  rw [spec_validRat, Option.bind_some]
  cases h2 : validQ c d with
  | false =>
    have : ¬ (validQ a b = true ∧ validQ c d = true) := fun h => by rw [h2] at h; cases h.2
    unfold subQ
    rw [if_neg this]
    rfl
  | true =>
    have v2 := validQ_bd h2
    rw [Bool.not_true, cond_false, w64' (by omega) (by omega), spec_add]
    have e : (0 - c) = -c := by omega
    rw [e]
    unfold addQ subQ
    rw [validQ_neg, Int.neg_mul, ← Int.sub_eq_add_neg]
    rfl
theorem impl_sub (a b c d : Int) : m_impl_SubRat a b c d = some (subQ a b c d) := by
  unfold m_impl_SubRat subQ
  rw [impl_validRat, impl_validRat]
  cases h1 : validQ a b with
  | false => rfl
  | true =>
    cases h2 : validQ c d with
    | false => rfl
    | true =>
      obtain ⟨b1, b2, b3, _⟩ := prodBd h1 h2
      simp only [Option.bind_some, Bool.not_true, cond_false, and_self, if_true]
      rw [w64' (n := a * d) (by omega) (by omega), w64' (n := c * b) (by omega) (by omega), w64' (by omega) (by omega), w64' (by omega) (by omega), impl_ratOf]
      rfl
theorem subQ_false {a b c d : Int} (h : (subQ a b c d).2.2 = false) : subQ a b c d = (0, 0, false) := by
  unfold subQ at h ⊢
  split
  · rename_i hv
    rw [if_pos hv] at h
    exact ratOf_false h
  · rfl
theorem validQ_00 : validQ 0 0 = false := by decide
theorem subQ_00 (a b : Int) : subQ a b 0 0 = (0, 0, false) := by
  unfold subQ
  rw [validQ_00]
  simp
theorem shareFrom_inr (x : List Q) : ∀ (ms : List Int) (a b : Int) (r : Int × Int × Bool), shareFrom x ms a b = .inr r → r = (0, 0, false)
  | [], a, b, r, h => by cases h
  | m :: ms, a, b, r, h => by
    unfold shareFrom at h
    split at h
    · injection h with h
      exact h.symm
    · split at h
      · exact shareFrom_inr x ms _ _ r h
      · injection h with h
        exact h.symm
theorem shareF_false {x : List Q} {s : Nat} (h : (shareF x s).2.2 = false) : shareF x s = (0, 0, false) := by
  unfold shareF at h ⊢
  rcases hs : shareFrom x (mems s) 0 1 with ⟨a, b⟩ | r
  · rw [hs] at h; cases h
  · exact shareFrom_inr x _ _ _ r hs
def excessF (l : List Int) (x : List Q) (s : Nat) : Int × Int × Bool := subQ (l.getD s 0) 1 (shareF x s).1 (shareF x s).2.1
theorem spec_excess (N : Nat) (l : List Int) (x : List Q) (s : Nat) (hv : validB (N : Int) l = true) (hs : s < l.length) : m_spec_ExcessOf (N : Int) l x (s : Int) = some (excessF l x s) := by
  obtain ⟨N', hN', _, h2, h3, h4⟩ := valid_nat ((validB_eq _ l).1 hv)
  unfold m_spec_ExcessOf excessF
  rw [spec_valid _ l (by omega), hv, Option.bind_some, Bool.not_true, cond_false, w64' (n := (l.length : Int) - 1) (by omega) (by omega), in_eq, decide_eq_true (by omega), Option.bind_some, Bool.not_true, cond_false, spec_share x s (by omega), Option.bind_some]
  have hsf := shareF_false (x := x) (s := s)
  rcases hq : shareF x s with ⟨a, b, c⟩
  rw [hq] at hsf
  dsimp only at hsf ⊢
  rw [grd_pos (by omega), getD_nat]
  unfold m_spec_l3Int
  rw [Option.bind_some]
  dsimp only
  rw [spec_sub, Option.bind_some]
  have hdf := subQ_false (a := l.getD s 0) (b := 1) (c := a) (d := b)
  rcases hd : subQ (l.getD s 0) 1 a b with ⟨e, f, o⟩
  rw [hd] at hdf
  dsimp only at hdf ⊢
  cases c with
  | false =>
    have h0 := hsf rfl
    simp only [Prod.mk.injEq, and_true] at h0
    obtain ⟨rfl, rfl⟩ := h0
    rw [subQ_00] at hd
    simp only [Prod.mk.injEq] at hd
    obtain ⟨rfl, rfl, rfl⟩ := hd
    rfl
  | true =>
    cases o with
    | false =>
      have h0 := hdf rfl
      simp only [Prod.mk.injEq, and_true] at h0
      obtain ⟨rfl, rfl⟩ := h0
      rfl
    | true => rfl
theorem impl_excess (N : Nat) (l : List Int) (x : List Q) (s : Nat) (hv : validB (N : Int) l = true) (hs : s < l.length) : m_impl_ExcessOf (N : Int) l x (s : Int) = some (excessF l x s) := by
  obtain ⟨N', hN', _, h2, h3, h4⟩ := valid_nat ((validB_eq _ l).1 hv)
  unfold m_impl_ExcessOf excessF
  rw [impl_valid _ l (by omega), hv, Option.bind_some, Bool.not_true, cond_false, w64' (n := (l.length : Int) - 1) (by omega) (by omega), within_eq, decide_eq_true (by omega), Option.bind_some, Bool.not_true, cond_false, impl_share x s (by omega), Option.bind_some]
  have hsf := shareF_false (x := x) (s := s)
  rcases hq : shareF x s with ⟨a, b, c⟩
  rw [hq] at hsf
  dsimp only at hsf ⊢
  cases c with
  | false =>
    have h0 := hsf rfl
    simp only [Prod.mk.injEq, and_true] at h0
    obtain ⟨rfl, rfl⟩ := h0
    rw [subQ_00]
    rfl
  | true =>
    rw [Bool.not_true, cond_false, grd_pos (by omega), getD_nat]
    unfold m_impl_whole
    rw [Option.bind_some]
    dsimp only
    rw [impl_sub]
    rfl
def allB (l : List Q) : Bool := (List.range l.length).all fun i => validQ (l.getD i ⟨0, 0⟩).num (l.getD i ⟨0, 0⟩).den
theorem spec_allv (l : List Q) (hl : l.length ≤ 1048576) : m_spec_AllValid l = some (allB l) := by
  unfold m_spec_AllValid
  have hit := iter_findc (step := l_spec_AllValid_0 l) (fun i => (i : Int)) l.length (fun i => !(validQ (l.getD i ⟨0, 0⟩).num (l.getD i ⟨0, 0⟩).den)) (.inl ()) (fun _ => .inr false)
    (fun i hi => by
      unfold l_spec_AllValid_0
      rw [decide_eq_true (by omega), cond_true, grd_pos (by omega), getD_nat, spec_validRat, w64' (by omega) (by omega), Option.bind_some]
      cases validQ (l.getD i ⟨0, 0⟩).num (l.getD i ⟨0, 0⟩).den <;> rfl)
    (by unfold l_spec_AllValid_0; rw [decide_eq_false (by omega)]; rfl)
  simp only [Int.natCast_zero] at hit
  rw [hit]
  have hf := find_all l.length (fun i => validQ (l.getD i ⟨0, 0⟩).num (l.getD i ⟨0, 0⟩).den)
  unfold allB
  cases hfd : (List.range l.length).find? (fun i => !(validQ (l.getD i ⟨0, 0⟩).num (l.getD i ⟨0, 0⟩).den)) with
  | none => rw [hf.1 hfd]; rfl
  | some i =>
    cases hall : (List.range l.length).all (fun i => validQ (l.getD i ⟨0, 0⟩).num (l.getD i ⟨0, 0⟩).den) with
    | false => rfl
    | true => rw [hf.2 hall] at hfd; cases hfd
theorem impl_allv (l : List Q) (hl : l.length ≤ 1048576) : m_impl_AllValid l = some (allB l) := by
  unfold m_impl_AllValid m_slices_ContainsFunc_impl_Rat_impl_Rat_impl_AllValid_1 m_slices_IndexFunc_impl_Rat_impl_Rat_impl_AllValid_1
  have hit := iter_findc (step := l_slices_IndexFunc_impl_Rat_impl_Rat_impl_AllValid_1_0 l) (fun i => (i : Int)) l.length (fun i => !(validQ (l.getD i ⟨0, 0⟩).num (l.getD i ⟨0, 0⟩).den)) (.inl ()) (fun i => .inr (i : Int))
    (fun i hi => by
      unfold l_slices_IndexFunc_impl_Rat_impl_Rat_impl_AllValid_1_0 m_impl_AllValid_1
      rw [decide_eq_true (by omega), cond_true, grd_pos (by omega), getD_nat, impl_validRat, w64' (by omega) (by omega), Option.bind_some, Option.bind_some]
      cases validQ (l.getD i ⟨0, 0⟩).num (l.getD i ⟨0, 0⟩).den <;> rfl)
    (by unfold l_slices_IndexFunc_impl_Rat_impl_Rat_impl_AllValid_1_0; rw [decide_eq_false (by omega)]; rfl)
  simp only [Int.natCast_zero] at hit
  rw [hit]
  have hf := find_all l.length (fun i => validQ (l.getD i ⟨0, 0⟩).num (l.getD i ⟨0, 0⟩).den)
  unfold allB
  cases hfd : (List.range l.length).find? (fun i => !(validQ (l.getD i ⟨0, 0⟩).num (l.getD i ⟨0, 0⟩).den)) with
  | none => rw [hf.1 hfd]; rfl
  | some i =>
    cases hall : (List.range l.length).all (fun i => validQ (l.getD i ⟨0, 0⟩).num (l.getD i ⟨0, 0⟩).den) with
    | false =>
      simp only [Option.bind_some]
      rw [decide_eq_true (by omega)]
      rfl
    | true => rw [hf.2 hall] at hfd; cases hfd
theorem grand_val (N : Nat) (l : List Int) (hv : validB (N : Int) l = true) : m_spec_GrandValue (N : Int) l = some (l.getD (l.length - 1) 0) ∧ m_impl_GrandValue (N : Int) l = some (l.getD (l.length - 1) 0) := by
  obtain ⟨N', hN', _, h2, h3, h4⟩ := valid_nat ((validB_eq _ l).1 hv)
  have hp : 0 < l.length := by rw [h3]; exact Nat.pow_pos (by decide)
  have e : ((l.length : Int) - 1).toNat = l.length - 1 := by omega
  constructor
  · unfold m_spec_GrandValue
    rw [spec_valid _ l (by omega), hv, Option.bind_some, Bool.not_true, cond_false, w64' (by omega) (by omega), grd_pos (by omega), e]
  · unfold m_impl_GrandValue
    rw [impl_valid _ l (by omega), hv, Option.bind_some, Bool.not_true, cond_false, w64' (by omega) (by omega), grd_pos (by omega), e]
noncomputable def payB (n : Int) (l : List Int) (x : List Q) : Bool := validB n l && ((x.length : Int) == n && (allB x && decide (shareF x (l.length - 1) = (l.getD (l.length - 1) 0, 1, true))))
theorem share_is {α : Type} (r : Int × Int × Bool) (v : Int) (f : Bool → α) : (bif r.2.2 then f (r.1 == v && r.2.1 == 1) else f false) = f (decide (r = (v, 1, true))) := by
  obtain ⟨a, b, c⟩ := r
  cases c with
  | false => simp
  | true =>
    by_cases h : a = v ∧ b = 1
    · simp [h.1, h.2]
    · have h1 : (a == v && b == 1) = false := by
        rw [← Bool.not_eq_true]
        simpa using h
      have h2 : ¬ ((a, b, true) = (v, (1 : Int), true)) := fun e => h (by simpa using e)
      rw [decide_eq_false h2]
      simp [h1]
theorem spec_payoff (n : Int) (l : List Int) (x : List Q) (hl : l.length ≤ 1048576) (hx : x.length ≤ 1048576) : m_spec_IsPayoff n l x = some (payB n l x) := by
  unfold m_spec_IsPayoff payB
  rw [spec_valid n l hl]
  cases hv : validB n l with
  | false => rfl
  | true =>
    obtain ⟨N, rfl, h1, h2, h3, h4⟩ := valid_nat ((validB_eq n l).1 hv)
    have hp : 0 < l.length := by rw [h3]; exact Nat.pow_pos (by decide)
    have e : (l.length : Int) - 1 = ((l.length - 1 : Nat) : Int) := by omega
    simp only [Option.bind_some, Bool.not_true, cond_false, Bool.true_and]
    rw [spec_allv x hx, w64' (n := (l.length : Int) - 1) (by omega) (by omega), e, spec_share x _ (by omega), (grand_val N l hv).1]
    unfold m_spec_l3Int
    have hne : ((x.length : Int) != (N : Int)) = !((x.length : Int) == (N : Int)) := rfl
    rw [hne]
    cases (x.length : Int) == (N : Int) with
    | false => rfl
    | true =>
      simp only [Option.bind_some, Bool.not_true, cond_false, Bool.true_and]
      cases allB x with
      | false => rfl
      | true =>
        simp only [Bool.not_true, cond_false, Bool.true_and]
        exact share_is (shareF x (l.length - 1)) (l.getD (l.length - 1) 0) some
theorem impl_payoff (n : Int) (l : List Int) (x : List Q) (hl : l.length ≤ 1048576) (hx : x.length ≤ 1048576) : m_impl_IsPayoff n l x = some (payB n l x) := by
  unfold m_impl_IsPayoff payB
  rw [impl_valid n l hl]
  cases hv : validB n l with
  | false => rfl
  | true =>
    obtain ⟨N, rfl, h1, h2, h3, h4⟩ := valid_nat ((validB_eq n l).1 hv)
    have hp : 0 < l.length := by rw [h3]; exact Nat.pow_pos (by decide)
    have e : (l.length : Int) - 1 = ((l.length - 1 : Nat) : Int) := by omega
    simp only [Option.bind_some, Bool.not_true, cond_false, Bool.true_and]
    rw [impl_allv x hx, w64' (n := (l.length : Int) - 1) (by omega) (by omega), e, impl_share x _ (by omega), (grand_val N l hv).2]
    unfold m_impl_whole
    have hne : ((x.length : Int) != (N : Int)) = !((x.length : Int) == (N : Int)) := rfl
    rw [hne]
    cases (x.length : Int) == (N : Int) with
    | false => rfl
    | true =>
      simp only [Option.bind_some, Bool.not_true, cond_false, Bool.true_and]
      cases allB x with
      | false => rfl
      | true =>
        simp only [Bool.not_true, cond_false, Bool.true_and]
        exact share_is (shareF x (l.length - 1)) (l.getD (l.length - 1) 0) some
def exOk (l : List Int) (x : List Q) (s : Nat) : Bool := (excessF l x s).2.2
def exQ (l : List Int) (x : List Q) (s : Nat) : Q := ⟨(excessF l x s).1, (excessF l x s).2.1⟩
def exs (l : List Int) (x : List Q) (lo m : Nat) : Bool × List Q := if (List.range m).all (fun i => exOk l x (lo + i)) = true then (true, tab (fun i => exQ l x (lo + i)) m) else (false, [])
theorem all_first (m : Nat) (p : Nat → Bool) : ((List.range m).all p = true ∧ ∀ i, i < m → p i = true) ∨ ((List.range m).all p = false ∧ ∃ t, t < m ∧ p t = false ∧ ∀ i, i < t → p i = true) := by
  rcases first_bad m (fun i => p i = true) with h | ⟨t, h1, h2, h3⟩
  · exact .inl ⟨List.all_eq_true.2 fun i hi => h i (List.mem_range.1 hi), h⟩
  · refine .inr ⟨?_, t, h1, by simpa using h2, h3⟩
    rw [← Bool.not_eq_true]
    intro h
    exact h2 (List.all_eq_true.1 h t (List.mem_range.2 h1))
theorem spec_all (n : Int) (l : List Int) (x : List Q) (hp : payB n l x = true) (hl : l.length ≤ 1048576) (hx : x.length ≤ 1048576) : m_spec_l11All n l x = some (exs l x 1 (l.length - 2)) := by
  have hp' := hp
  simp only [payB, Bool.and_eq_true] at hp'
  obtain ⟨hv, _⟩ := hp'
  obtain ⟨N, rfl, h1, h2, h3, h4⟩ := valid_nat ((validB_eq n l).1 hv)
  have h5 : 2 ≤ l.length := by
    rw [h3]
    exact Nat.le_trans (by decide) (Nat.pow_le_pow_right (n := 2) (by decide) h1)
  have stp : ∀ i, i < l.length - 2 → exOk l x (1 + i) = true → l_spec_l11All_0 (N : Int) l x (((1 + i : Nat) : Int), tab (fun i => exQ l x (1 + i)) i) = some (.inl (((1 + (i + 1) : Nat) : Int), tab (fun i => exQ l x (1 + i)) (i + 1))) := by
    intro i hi hok
    unfold l_spec_l11All_0
    dsimp only
    rw [w64' (n := (l.length : Int) - 1) (by omega) (by omega), decide_eq_true (by omega), cond_true, spec_excess N l x _ hv (by omega), Option.bind_some]
    unfold exOk at hok
    rw [hok, tab_succ]
    simp only [Bool.not_true, cond_false]
    rw [grd_pos (by simp only [tab_length, List.length_singleton, room]; omega), w64' (by omega) (by omega)]
    rfl
  unfold m_spec_l11All exs
  rw [spec_payoff _ l x hl hx, hp, Option.bind_some, Bool.not_true, cond_false]
  rcases all_first (l.length - 2) (fun i => exOk l x (1 + i)) with ⟨ha, hall⟩ | ⟨ha, t, ht, hbad, hok⟩
  · have s1 := iter_up (step := l_spec_l11All_0 (N : Int) l x) (fun i => (((1 + i : Nat) : Int), tab (fun i => exQ l x (1 + i)) i)) (l.length - 2) (a := .inl (tab (fun i => exQ l x (1 + i)) (l.length - 2))) (fun i hi => stp i hi (hall i hi))
      (by unfold l_spec_l11All_0; dsimp only; rw [w64' (by omega) (by omega), decide_eq_false (by omega)]; rfl)
    have e0 : tab (fun i => exQ l x (1 + i)) 0 = [] := rfl
    simp only [e0, Nat.add_zero, Int.natCast_one] at s1
    rw [s1, if_pos ha]
    rfl
  · have s1 := iter_up (step := l_spec_l11All_0 (N : Int) l x) (fun i => (((1 + i : Nat) : Int), tab (fun i => exQ l x (1 + i)) i)) t (a := .inr (false, [])) (fun i hi => stp i (by omega) (hok i hi))
      (by
        unfold l_spec_l11All_0
        dsimp only
        unfold exOk at hbad
        rw [w64' (n := (l.length : Int) - 1) (by omega) (by omega), decide_eq_true (by omega), cond_true, spec_excess N l x _ hv (by omega), Option.bind_some, hbad]
        rfl)
    have e0 : tab (fun i => exQ l x (1 + i)) 0 = [] := rfl
    simp only [e0, Nat.add_zero, Int.natCast_one] at s1
    rw [s1, if_neg (by rw [ha]; decide)]
    rfl
theorem impl_exs (n : Int) (l : List Int) (x : List Q) (lo m : Nat) (hi : Int) (hhi : hi = (lo : Int) + m - 1) (hm : lo + m ≤ l.length) (hp : payB n l x = true) (hl : l.length ≤ 1048576) (hx : x.length ≤ 1048576) : m_impl_excesses n l x (lo : Int) hi = some (exs l x lo m) := by
  have hp' := hp
  simp only [payB, Bool.and_eq_true] at hp'
  obtain ⟨hv, _⟩ := hp'
  obtain ⟨N, rfl, h1, h2, h3, h4⟩ := valid_nat ((validB_eq n l).1 hv)
  subst hhi
  have stp : ∀ i, i < m → exOk l x (lo + i) = true → l_impl_excesses_0 (N : Int) l x ((lo : Int) + m - 1) (((lo + i : Nat) : Int), tab (fun i => exQ l x (lo + i)) i) = some (.inl (((lo + (i + 1) : Nat) : Int), tab (fun i => exQ l x (lo + i)) (i + 1))) := by
    intro i hi hok
    unfold l_impl_excesses_0
    dsimp only
    rw [decide_eq_true (by omega), cond_true, impl_excess N l x _ hv (by omega), Option.bind_some]
    unfold exOk at hok
    rw [hok, tab_succ]
    simp only [Bool.not_true, cond_false]
    rw [grd_pos (by simp only [tab_length, List.length_singleton, room]; omega), w64' (by omega) (by omega)]
    rfl
  unfold m_impl_excesses exs
  rw [impl_payoff _ l x hl hx, hp, Option.bind_some, Bool.not_true, cond_false]
  rcases all_first m (fun i => exOk l x (lo + i)) with ⟨ha, hall⟩ | ⟨ha, t, ht, hbad, hok⟩
  · have s1 := iter_up (step := l_impl_excesses_0 (N : Int) l x ((lo : Int) + m - 1)) (fun i => (((lo + i : Nat) : Int), tab (fun i => exQ l x (lo + i)) i)) m (a := .inl (tab (fun i => exQ l x (lo + i)) m)) (fun i hi => stp i hi (hall i hi))
      (by unfold l_impl_excesses_0; dsimp only; rw [decide_eq_false (by omega)]; rfl)
    have e0 : tab (fun i => exQ l x (lo + i)) 0 = [] := rfl
    simp only [e0, Nat.add_zero] at s1
    rw [s1, if_pos ha]
    rfl
  · have s1 := iter_up (step := l_impl_excesses_0 (N : Int) l x ((lo : Int) + m - 1)) (fun i => (((lo + i : Nat) : Int), tab (fun i => exQ l x (lo + i)) i)) t (a := .inr (false, [])) (fun i hi => stp i (by omega) (hok i hi))
      (by
        unfold l_impl_excesses_0
        dsimp only
        unfold exOk at hbad
        rw [decide_eq_true (by omega), cond_true, impl_excess N l x _ hv (by omega), Option.bind_some, hbad]
        rfl)
    have e0 : tab (fun i => exQ l x (lo + i)) 0 = [] := rfl
    simp only [e0, Nat.add_zero] at s1
    rw [s1, if_neg (by rw [ha]; decide)]
    rfl
theorem spec_all0 (n : Int) (l : List Int) (x : List Q) (hp : payB n l x = false) (hl : l.length ≤ 1048576) (hx : x.length ≤ 1048576) : m_spec_l11All n l x = some (false, []) := by
  unfold m_spec_l11All
  rw [spec_payoff n l x hl hx, hp]
  rfl
theorem impl_exs0 (n : Int) (l : List Int) (x : List Q) (lo hi : Int) (hp : payB n l x = false) (hl : l.length ≤ 1048576) (hx : x.length ≤ 1048576) : m_impl_excesses n l x lo hi = some (false, []) := by
  unfold m_impl_excesses
  rw [impl_payoff n l x hl hx, hp]
  rfl
def mkQ (k : Int) (i : Nat) : Q := ⟨k + 2 * (i : Int), k + 2 * (i : Int) + 1⟩
theorem mark_rats (l : List Q) (k : Int) (h1 : 0 ≤ k) (h2 : k ≤ 1000000000000) (hl : l.length ≤ 1000000000000) : m_laws_markRatS_io1 l k = some (k + 2 * (l.length : Int), tab (mkQ k) l.length) := by
  unfold m_laws_markRatS_io1
  have hit := iter_up (step := l_laws_markRatS_io1_0) (fun i => (k + 2 * (i : Int), (i : Int), tab (mkQ k) i ++ l.drop i)) l.length (a := (k + 2 * (l.length : Int), tab (mkQ k) l.length)) (fun i hi => by
      have hlen : (tab (mkQ k) i ++ l.drop i).length = l.length := by simp [tab_length]; omega
      unfold l_laws_markRatS_io1_0
      dsimp only
      rw [List.length_set, hlen, decide_eq_true (by omega), cond_true, grd_pos (by omega), grd_pos (by omega), w64' (n := k + 2 * (i : Int) + 1) (by omega) (by omega), w64' (n := k + 2 * (i : Int) + 1 + 1) (by omega) (by omega), w64' (n := (i : Int) + 1) (by omega) (by omega)]
      simp only [Int.toNat_natCast]
      have hg : ∀ q : Q, ((tab (mkQ k) i ++ l.drop i).set i q).getD i ⟨0, 0⟩ = q := fun q => by
        simp only [List.getD, List.getElem?_set, hlen, hi, if_true, Option.getD_some]
      rw [hg, List.set_set]
      have := set_tab (mkQ k) l i hi
      simp only [mkQ] at this
      rw [this]
      have e : k + 2 * (i : Int) + 1 + 1 = k + 2 * ((i + 1 : Nat) : Int) := by omega
      rw [e]
      rfl)
    (by
      unfold l_laws_markRatS_io1_0
      simp [tab_length])
  have e0 : tab (mkQ k) 0 = [] := rfl
  simp only [Int.natCast_zero, Int.mul_zero, Int.add_zero, List.drop_zero, e0, List.nil_append] at hit
  rw [hit]
  rfl
theorem held_rats (k : Int) (n : Nat) (h1 : 0 ≤ k) (h2 : k ≤ 1000000000000) (hn : n ≤ 1000000000000) : m_laws_heldRatS (tab (mkQ k) n) k = some (k + 2 * (n : Int)) := by
  unfold m_laws_heldRatS
  have hit := iter_up (step := l_laws_heldRatS_0 (tab (mkQ k) n)) (fun i => (k + 2 * (i : Int), (i : Int))) n (a := .inl (k + 2 * (n : Int))) (fun i hi => by
      unfold l_laws_heldRatS_0
      dsimp only
      rw [tab_length, decide_eq_true (by omega), cond_true, grd_pos (by omega), getD_nat, tab_getD _ _ _ _ hi, w64' (n := k + 2 * (i : Int) + 1) (by omega) (by omega), w64' (n := k + 2 * (i : Int) + 1 + 1) (by omega) (by omega), w64' (n := (i : Int) + 1) (by omega) (by omega), grd_pos (by omega)]
      simp only [mkQ, bne_self_eq_false, cond_false]
      have e : k + 2 * (i : Int) + 1 + 1 = k + 2 * ((i + 1 : Nat) : Int) := by omega
      rw [e]
      rfl)
    (by
      unfold l_laws_heldRatS_0
      simp [tab_length])
  simp only [Int.natCast_zero, Int.mul_zero, Int.add_zero] at hit
  rw [hit]
  rfl
theorem frame_rats {r : List Q} (hlen : r.length ≤ 1048576) : m_laws_eqRatS r r = some true ∧ m_laws_markRatS_io1 r 1 = some (1 + 2 * (r.length : Int), tab (mkQ 1) r.length) ∧ m_laws_heldRatS (tab (mkQ 1) r.length) 1 = some (1 + 2 * (r.length : Int)) :=
  ⟨by rw [eq_rats r r hlen]; simp, mark_rats r 1 (by decide) (by decide) (by omega), held_rats 1 r.length (by decide) (by decide) (by omega)⟩
theorem exs_length (l : List Int) (x : List Q) (lo m : Nat) : (exs l x lo m).2.length ≤ m := by
  unfold exs
  split
  · simp [tab_length]
  · simp
/-! ### draws -/
/-! ### FnProperties -/
/-! ### FnGames -/
/-! ### FnDividends: what a game is worth, from its dividends -/
/-! ### FnPotential: fractions in twelfths -/
def rv (a b : Int) : Rat := (a : Rat) / (b : Rat)
def qr (q : Q) : Rat := rv q.num q.den
theorem castne {b : Int} (h : b ≠ 0) : (b : Rat) ≠ 0 := fun e => h (Rat.intCast_eq_zero_iff.1 e)
theorem rv_mul {a b : Int} (h : b ≠ 0) : rv a b * (b : Rat) = (a : Rat) := Rat.div_mul_cancel (castne h)
theorem rv_uniq {r : Rat} {a b : Int} (h : b ≠ 0) (e : r * (b : Rat) = (a : Rat)) : r = rv a b := by
  unfold rv
  rw [← e, Rat.mul_div_cancel (castne h)]
theorem rv_of {a b c d : Int} (hb : b ≠ 0) (hd : d ≠ 0) (h : a * d = c * b) : rv a b = rv c d := by
  refine rv_uniq hd ?_
  have e1 := rv_mul (a := a) hb
  have e2 : (a : Rat) * d = c * b := by rw [← Rat.intCast_mul, h, Rat.intCast_mul]
  have e3 := castne hb
  have e4 : rv a b * d * b = c * b := by grind
  have e5 : rv a b * d * b / b = c * b / b := by rw [e4]
  rwa [Rat.mul_div_cancel e3, Rat.mul_div_cancel e3] at e5
theorem den_ne {a b : Int} (h : validQ a b = true) : b ≠ 0 := by
  have := validQ_bd h
  omega
/-- the reduced form, before it is judged -/
def red (n d : Int) : Int × Int := ((if d < 0 then -n else n).tdiv (Int.gcd n d : Nat), (if d < 0 then -d else d).tdiv (Int.gcd n d : Nat))
theorem red_ok {n d : Int} (hd : d ≠ 0) : 1 ≤ (red n d).2 ∧ Int.gcd (red n d).1 (red n d).2 = 1 ∧ (red n d).1 * d = n * (red n d).2 := by
  have hg := gcd_pos' (n := n) hd
  obtain ⟨m, hm⟩ := Int.gcd_dvd_left n d
  obtain ⟨e, he⟩ := Int.gcd_dvd_right n d
  have hgi : (0 : Int) < (Int.gcd n d : Nat) := by omega
  have t1 : n.tdiv (Int.gcd n d : Nat) = m := by
    conv => lhs; lhs; rw [hm]
    exact Int.mul_tdiv_cancel_left _ (by omega)
  have t2 : d.tdiv (Int.gcd n d : Nat) = e := by
    conv => lhs; lhs; rw [he]
    exact Int.mul_tdiv_cancel_left _ (by omega)
  have hc : Int.gcd m e = 1 := by
    have h3 : Int.gcd ((Int.gcd n d : Nat) * m) ((Int.gcd n d : Nat) * e) = Int.gcd n d := by rw [← hm, ← he]
    rw [Int.gcd_mul_left, Int.natAbs_natCast] at h3
    exact Nat.eq_of_mul_eq_mul_left hg (by rw [h3, Nat.mul_one])
  have hx : m * d = n * e := by
    generalize ((Int.gcd n d : Nat) : Int) = g at hm he
    subst hm he
    grind
  unfold red
  by_cases hn : d < 0
  · simp only [if_pos hn, Int.neg_tdiv]
    rw [t1, t2]
    refine ⟨?_, by simpa using hc, by grind⟩
    rcases Int.lt_or_le 0 e with h | h
    · have := Int.mul_pos hgi h
      omega
    · by_cases h0 : e = 0
      · rw [h0, Int.mul_zero] at he; exact absurd he hd
      · omega
  · simp only [if_neg hn]
    rw [t1, t2]
    refine ⟨?_, hc, hx⟩
    rcases Int.lt_or_le 0 e with h | h
    · omega
    · have := Int.mul_nonpos_of_nonneg_of_nonpos (by omega : (0 : Int) ≤ (Int.gcd n d : Nat)) h
      omega
theorem ratOf_val {n d a b : Int} (h : ratOf n d = (a, b, true)) : validQ a b = true ∧ d ≠ 0 ∧ rv a b = rv n d := by
  unfold ratOf at h
  by_cases h1 : d = 0 ∨ ¬ (-1000000000000000000 ≤ n ∧ n ≤ 1000000000000000000) ∨ ¬ (-1000000000000000000 ≤ d ∧ d ≤ 1000000000000000000)
  · rw [if_pos h1] at h
    simp at h
  · rw [if_neg h1] at h
    have hd : d ≠ 0 := fun e => h1 (.inl e)
    change (if validQ (red n d).1 (red n d).2 = true then ((red n d).1, (red n d).2, true) else (0, 0, false)) = (a, b, true) at h
    by_cases h2 : validQ (red n d).1 (red n d).2 = true
    · rw [if_pos h2] at h
      simp only [Prod.mk.injEq, and_true] at h
      obtain ⟨r1, r2⟩ := h
      have hr := red_ok (n := n) hd
      rw [r1, r2] at h2 hr
      exact ⟨h2, hd, rv_of (den_ne h2) hd hr.2.2⟩
    · rw [if_neg h2] at h
      simp at h
theorem subQ_val {a b c d x y : Int} (h : subQ a b c d = (x, y, true)) : (validQ a b = true ∧ validQ c d = true) ∧ validQ x y = true ∧ rv x y = rv a b - rv c d := by
  unfold subQ at h
  split at h
  · rename_i hv
    obtain ⟨h1, h2, h3⟩ := ratOf_val h
    refine ⟨hv, h1, ?_⟩
    rw [h3]
    refine (rv_uniq h2 ?_).symm
    have e1 := rv_mul (a := a) (den_ne hv.1)
    have e2 := rv_mul (a := c) (den_ne hv.2)
    rw [Rat.intCast_sub, Rat.intCast_mul, Rat.intCast_mul, Rat.intCast_mul, ← e1, ← e2]
    grind
  · simp at h
theorem rv_lt {a b c d : Int} (hb : 0 < b) (hd : 0 < d) : rv a b < rv c d ↔ a * d < c * b := by
  have e1 := rv_mul (a := a) (b := b) (by omega)
  have e2 := rv_mul (a := c) (b := d) (by omega)
  have p1 : (0 : Rat) < b := Rat.intCast_pos.2 hb
  have p2 : (0 : Rat) < d := Rat.intCast_pos.2 hd
  have p3 := Rat.mul_pos p1 p2
  rw [← Rat.intCast_lt_intCast, Rat.intCast_mul, Rat.intCast_mul, ← e1, ← e2]
  rw [← Rat.mul_lt_mul_right (a := rv a b) p3]
  constructor <;> intro h <;> grind
theorem cmpQ_neg {a b c d : Int} (h1 : validQ a b = true) (h2 : validQ c d = true) : cmpQ a b c d < 0 ↔ rv a b < rv c d := by
  have v1 := validQ_bd h1
  have v2 := validQ_bd h2
  rw [rv_lt (by omega) (by omega)]
  unfold cmpQ
  rw [if_pos ⟨h1, h2⟩]
  split
  · simp_all
  · split <;> simp_all
theorem okR_iff (q : Q) : okR q ↔ validQ q.num q.den = true := by
  unfold okR validQ
  rw [decide_eq_true_iff]
  constructor
  · rintro ⟨⟨h1, h2⟩, ⟨h3, h4⟩, h5⟩
    exact ⟨h1, h2, h3, h4, h5⟩
  · rintro ⟨h1, h2, h3, h4, h5⟩
    exact ⟨⟨h1, h2⟩, ⟨h3, h4⟩, h5⟩
theorem cmpR_eq {x y : Q} (hx : okR x) (hy : okR y) : cmpQ x.num x.den y.num y.den = cmpR x y := by
  unfold cmpQ cmpR
  rw [if_pos ⟨(okR_iff x).1 hx, (okR_iff y).1 hy⟩]
theorem geR_iff {x y : Q} (hx : okR x) (hy : okR y) : ¬ cmpR x y < 0 ↔ qr y ≤ qr x := by
  rw [← cmpR_eq hx hy, cmpQ_neg ((okR_iff x).1 hx) ((okR_iff y).1 hy)]
  exact Rat.not_lt
theorem sortR_sorted (l : List Q) (h : ∀ q ∈ l, okR q) : (sortR l).Pairwise fun x y => ¬ cmpR x y < 0 := by
  rw [← lift_sort l h, List.pairwise_map]
  refine (List.pairwise_mergeSort (fun a b c h1 h2 => ?_) (fun a b => ?_) (liftQ l h)).imp fun {a b} hab => ?_
  · simp only [Bool.not_eq_true'] at h1 h2 ⊢
    exact swoQ.ntrans c b a h2 h1
  · simp only [ltQ]
    by_cases hc : a.1.num * b.1.den < b.1.num * a.1.den
    · have : ¬ b.1.num * a.1.den < a.1.num * b.1.den := by omega
      simp [this]
    · simp [hc]
  · simp only [ltQ, Bool.not_eq_true', decide_eq_false_iff_not] at hab
    rw [cmpR_lt]
    exact hab
theorem sortR_uniq {l r : List Q} (h : ∀ q ∈ l, okR q) (hp : r.Perm l) (hs : r.Pairwise fun x y => ¬ cmpR x y < 0) : r = sortR l := by
  refine List.Perm.eq_of_pairwise (le := fun x y => ¬ cmpR x y < 0) (fun a b ha hb h1 h2 => ?_) hs (sortR_sorted l h) (hp.trans (List.mergeSort_perm l _).symm)
  have oa := h a (hp.mem_iff.1 ha)
  have ob := h b ((List.mergeSort_perm l _).mem_iff.1 hb)
  rw [cmpR_lt] at h1 h2
  exact eqR oa ob (by omega)
def posI (out : List Q) (q : Q) : Nat := match (List.range out.length).find? (fun i => !decide (cmpQ (out.getD (out.length - i - 1) ⟨0, 0⟩).num (out.getD (out.length - i - 1) ⟨0, 0⟩).den q.num q.den < 0)) with
  | some i => out.length - i
  | none => 0
def insI (out : List Q) (q : Q) : List Q := out.take (posI out q) ++ q :: out.drop (posI out q)
theorem posI_le (out : List Q) (q : Q) : posI out q ≤ out.length := by
  unfold posI
  split <;> omega
theorem posI_spec (out : List Q) (q : Q) : (∀ j, posI out q ≤ j → j < out.length → cmpQ (out.getD j ⟨0, 0⟩).num (out.getD j ⟨0, 0⟩).den q.num q.den < 0) ∧
    (0 < posI out q → ¬ cmpQ (out.getD (posI out q - 1) ⟨0, 0⟩).num (out.getD (posI out q - 1) ⟨0, 0⟩).den q.num q.den < 0) := by
  unfold posI
  split
  · rename_i i hi
    rw [List.find?_range_eq_some] at hi
    obtain ⟨h1, h2, h3⟩ := hi
    have h2 := List.mem_range.1 h2
    refine ⟨fun j hj hl => ?_, fun _ => ?_⟩
    · have := h3 (out.length - j - 1) (by omega)
      rw [show out.length - (out.length - j - 1) - 1 = j by omega] at this
      simpa using this
    · simpa using h1
  · rename_i hn
    rw [List.find?_range_eq_none] at hn
    refine ⟨fun j _ hl => ?_, fun h => by omega⟩
    have := hn (out.length - j - 1) (by omega)
    rw [show out.length - (out.length - j - 1) - 1 = j by omega] at this
    simpa using this
theorem insI_perm (out : List Q) (q : Q) : (insI out q).Perm (out ++ [q]) := by
  unfold insI
  refine List.perm_middle.trans ?_
  rw [List.take_append_drop]
  exact (List.perm_append_singleton q out).symm
theorem getD_get {α : Type} (l : List α) (i : Nat) (d : α) (h : i < l.length) : l.getD i d = l[i] := by simp [List.getD, List.getElem?_eq_getElem h]
theorem insI_sorted {out : List Q} {q : Q} (ho : ∀ x ∈ out, okR x) (hq : okR q) (hs : out.Pairwise fun x y => ¬ cmpR x y < 0) : (insI out q).Pairwise fun x y => ¬ cmpR x y < 0 := by
  obtain ⟨h1, h2⟩ := posI_spec out q
  have hle := posI_le out q
  unfold insI
  rw [List.pairwise_append]
  refine ⟨hs.take, List.pairwise_cons.2 ⟨fun b hb => ?_, hs.drop⟩, fun a ha b hb => ?_⟩
  · obtain ⟨j, hj, rfl⟩ := List.getElem_of_mem hb
    rw [List.getElem_drop]
    rw [List.length_drop] at hj
    have h3 := h1 (posI out q + j) (by omega) (by omega)
    rw [getD_get _ _ _ (by omega)] at h3
    have hb' := ho out[posI out q + j] (List.getElem_mem _)
    rw [cmpR_eq hb' hq] at h3
    rw [cmpR_lt] at h3 ⊢
    omega
  · obtain ⟨i, hi, rfl⟩ := List.getElem_of_mem ha
    rw [List.getElem_take]
    rw [List.length_take] at hi
    have ha' := ho (out[i]'(by omega)) (List.getElem_mem _)
    have hpw := List.pairwise_iff_getElem.1 hs
    rcases List.mem_cons.1 hb with rfl | hb
    · have h3 := h2 (by omega)
      rw [getD_get _ _ _ (by omega)] at h3
      have hc := ho (out[posI out b - 1]'(by omega)) (List.getElem_mem _)
      rw [cmpR_eq hc hq, geR_iff hc hq] at h3
      rw [geR_iff ha' hq]
      by_cases e : i = posI out b - 1
      · subst e; exact h3
      · have h4 := hpw i (posI out b - 1) (by omega) (by omega) (by omega)
        rw [geR_iff ha' hc] at h4
        exact Rat.le_trans h3 h4
    · obtain ⟨j, hj, rfl⟩ := List.getElem_of_mem hb
      rw [List.getElem_drop]
      rw [List.length_drop] at hj
      exact hpw i (posI out q + j) (by omega) (by omega) (by omega)
def isl (e : List Q) : Nat → List Q
  | 0 => []
  | k + 1 => insI (isl e k) (e.getD k ⟨0, 0⟩)
theorem isl_length (e : List Q) : ∀ k, (isl e k).length = k
  | 0 => rfl
  | k + 1 => by
    have := (insI_perm (isl e k) (e.getD k ⟨0, 0⟩)).length_eq
    simp only [isl]
    rw [this, List.length_append, isl_length e k, List.length_singleton]
theorem isl_ok (e : List Q) (h : ∀ q ∈ e, okR q) : ∀ k, k ≤ e.length → (isl e k).Perm (e.take k) ∧ (isl e k).Pairwise fun x y => ¬ cmpR x y < 0
  | 0, _ => ⟨by simp [isl], by simp [isl]⟩
  | k + 1, hk => by
    obtain ⟨h1, h2⟩ := isl_ok e h k (by omega)
    have hd : e.getD k ⟨0, 0⟩ = e[k] := getD_get e k _ (by omega)
    have hin : ∀ x ∈ isl e k, okR x := fun x hx => h x (List.mem_of_mem_take (h1.mem_iff.1 hx))
    refine ⟨?_, insI_sorted hin (by rw [hd]; exact h _ (List.getElem_mem _)) h2⟩
    simp only [isl]
    refine (insI_perm _ _).trans ?_
    rw [hd, List.take_succ_eq_append_getElem (by omega)]
    exact h1.append_right _
theorem isl_sort (e : List Q) (h : ∀ q ∈ e, okR q) : isl e e.length = sortR e := by
  obtain ⟨h1, h2⟩ := isl_ok e h e.length (Nat.le_refl _)
  rw [List.take_length] at h1
  exact sortR_uniq h h1 h2
theorem exs_ok (l : List Int) (x : List Q) (lo m : Nat) : ∀ q ∈ (exs l x lo m).2, okR q := by
  unfold exs
  split
  · rename_i h
    intro q hq
    simp only [tab, List.mem_map, List.mem_range] at hq
    obtain ⟨i, hi, rfl⟩ := hq
    have := List.all_eq_true.1 h i (List.mem_range.2 hi)
    unfold exOk at this
    rw [okR_iff]
    unfold exQ
    rcases he : excessF l x (lo + i) with ⟨a, b, c⟩
    rw [he] at this
    simp only at this
    subst this
    exact (subQ_val he).2.1
  · intro q hq
    simp at hq
theorem spec_ins (e : List Q) (he : e.length ≤ 1048576) (k : Nat) (hk : k < e.length) (out : List Q) (ho : out.length ≤ 1048576) : iter (l_spec_ExcessVector_1 e (k : Int) out) (out.length : Int) = some ((posI out (e.getD k ⟨0, 0⟩) : Nat) : Int) := by
  have hit := iter_findc (step := l_spec_ExcessVector_1 e (k : Int) out) (fun i => ((out.length - i : Nat) : Int)) out.length (fun i => !decide (cmpQ (out.getD (out.length - i - 1) ⟨0, 0⟩).num (out.getD (out.length - i - 1) ⟨0, 0⟩).den (e.getD k ⟨0, 0⟩).num (e.getD k ⟨0, 0⟩).den < 0)) ((0 : Nat) : Int) (fun i => ((out.length - i : Nat) : Int))
    (fun i hi => by
      unfold l_spec_ExcessVector_1
      have e1 : IntKind.i64.wrap (((out.length - i : Nat) : Int) - 1) = ((out.length - i - 1 : Nat) : Int) := by
        rw [w64' (by omega) (by omega)]
        omega
      rw [decide_eq_true (by omega), cond_true, e1, grd_pos (by omega), grd_pos (by omega), getD_nat, getD_nat, spec_cmp, Option.bind_some]
      have e2 : out.length - (i + 1) = out.length - i - 1 := by omega
      rw [e2]
      generalize cmpQ (out.getD (out.length - i - 1) ⟨0, 0⟩).num (out.getD (out.length - i - 1) ⟨0, 0⟩).den (e.getD k ⟨0, 0⟩).num (e.getD k ⟨0, 0⟩).den = c
      cases decide (c < 0) <;> rfl)
    (by
      unfold l_spec_ExcessVector_1
      rw [decide_eq_false (by omega), cond_false, Nat.sub_self])
  simp only [Nat.sub_zero] at hit
  rw [hit]
  unfold posI
  split <;> simp_all
theorem spec_isl (e : List Q) (he : e.length ≤ 1048576) : iter (l_spec_ExcessVector_0 e) ((0 : Int), []) = some (isl e e.length) := by
  have hit := iter_up (step := l_spec_ExcessVector_0 e) (fun i => ((i : Int), isl e i)) e.length (a := isl e e.length) (fun i hi => by
      unfold l_spec_ExcessVector_0
      dsimp only
      have hl := isl_length e i
      have hp := posI_le (isl e i) (e.getD i ⟨0, 0⟩)
      rw [decide_eq_true (by omega), cond_true, spec_ins e he i hi _ (by omega), Option.bind_some]
      have hd : e.getD (i : Int).toNat ⟨0, 0⟩ = e.getD i ⟨0, 0⟩ := getD_nat ..
      rw [Int.toNat_natCast]
      have hr : isl e (i + 1) = (([] ++ (((isl e i).drop 0).take (posI (isl e i) (e.getD i ⟨0, 0⟩)))) ++ [⟨(e.getD (i : Int).toNat ⟨0, 0⟩).num, (e.getD (i : Int).toNat ⟨0, 0⟩).den⟩]) ++ (((isl e i).drop (posI (isl e i) (e.getD i ⟨0, 0⟩))).take ((isl e i).length - (posI (isl e i) (e.getD i ⟨0, 0⟩)))) := by
        rw [hd, List.take_of_length_le (l := (isl e i).drop (posI (isl e i) (e.getD i ⟨0, 0⟩))) (by rw [List.length_drop]; omega)]
        simp only [isl, insI, List.nil_append, List.drop_zero, List.append_assoc, List.singleton_append]
      have hroom : (room : Nat) = 1099511627776 := rfl
      rw [grd_pos (by omega), grd_pos (by simp only [List.length_nil, List.drop_zero, List.length_take]; omega), grd_pos (by omega), grd_pos (by simp only [List.nil_append, List.drop_zero, List.length_take, List.length_singleton]; omega), grd_pos (by omega), grd_pos (by
        simp only [List.nil_append, List.drop_zero, List.length_take, List.length_append, List.length_singleton, List.length_drop]
        omega), w64' (by omega) (by omega), hr]
      rfl)
    (by unfold l_spec_ExcessVector_0; dsimp only; rw [decide_eq_false (by omega)]; rfl)
  simp only [Int.natCast_zero] at hit
  exact hit
theorem impl_cmp1 (a b c d : Int) : m_impl_ExcessVector_1 a b c d = some (cmpQ c d a b) := by
  unfold m_impl_ExcessVector_1
  rw [impl_cmp, Option.bind_some]
theorem impl_sort (e : List Q) (he : e.length ≤ 1000000) (h : ∀ q ∈ e, okR q) : m_slices_SortFunc_impl_Rat_impl_Rat_impl_ExcessVector_1_io1 e = some (sortR e) := by
  unfold m_slices_SortFunc_impl_Rat_impl_Rat_impl_ExcessVector_1_io1
  rw [grd_pos ⟨he, h, fun x y hx hy => by rw [impl_cmp1, cmpR_eq hy hx]⟩]
theorem exvec_both (n : Int) (l : List Int) (x : List Q) (hl : l.length ≤ 1048576) (hx : x.length ≤ 1048576) : ∃ r, r.length ≤ 1048576 ∧ (∀ q ∈ r, okR q) ∧ (r.Pairwise fun x y => ¬ cmpR x y < 0) ∧ m_spec_ExcessVector n l x = some r ∧ m_impl_ExcessVector n l x = some r ∧
    (payB n l x = false → r = []) ∧ (payB n l x = true → r.Perm (exs l x 1 (l.length - 2)).2) := by
  unfold m_spec_ExcessVector m_impl_ExcessVector
  cases hp : payB n l x with
  | false =>
    rw [spec_all0 n l x hp hl hx, impl_exs0 n l x _ _ hp hl hx]
    refine ⟨[], by simp, by simp, List.Pairwise.nil, ?_, rfl, fun _ => rfl, fun h => by cases h⟩
    rw [Option.bind_some]
    dsimp only
    rw [spec_isl [] (by simp)]
    rfl
  | true =>
    have hp' := hp
    simp only [payB, Bool.and_eq_true] at hp'
    obtain ⟨N, hN, h1, h2, h3, h4⟩ := valid_nat ((validB_eq n l).1 hp'.1)
    have h5 : 2 ≤ l.length := by
      rw [h3]
      exact Nat.le_trans (by decide) (Nat.pow_le_pow_right (n := 2) (by decide) h1)
    have hi := impl_exs n l x 1 (l.length - 2) (IntKind.i64.wrap ((l.length : Int) - 2)) (by rw [w64' (by omega) (by omega)]; omega) (by omega) hp hl hx
    simp only [Int.natCast_one] at hi
    rw [spec_all n l x hp hl hx, hi]
    have hle := exs_length l x 1 (l.length - 2)
    have hok := exs_ok l x 1 (l.length - 2)
    have hno : (exs l x 1 (l.length - 2)).1 = false → (exs l x 1 (l.length - 2)).2 = [] := by
      unfold exs
      split
      · intro h; cases h
      · intro _; rfl
    rcases hq : exs l x 1 (l.length - 2) with ⟨ok, e⟩
    rw [hq] at hle hok hno
    dsimp only at hle hok hno
    have hs := sortR_sorted e hok
    have hpm : (sortR e).Perm e := List.mergeSort_perm e _
    refine ⟨sortR e, by rw [hpm.length_eq]; omega, fun q h => hok q (hpm.mem_iff.1 h), hs, ?_, ?_, fun h => (by cases h), fun _ => hpm⟩
    · rw [Option.bind_some]
      dsimp only
      rw [spec_isl e (by omega), isl_sort e hok]
      rfl
    · rw [Option.bind_some]
      dsimp only
      cases ok with
      | false =>
        rw [hno rfl]
        simp [sortR]
      | true =>
        rw [Bool.not_true, cond_false, impl_sort e (by omega) hok]
        rfl
theorem law_FnExactExcessVector (n : Int) (l : List Int) (x : List Q) (_ : I64 n) (hl : l.length ≤ maxLen ∧ ∀ n ∈ l, I64 n) (hx : x.length ≤ maxLen ∧ ∀ q ∈ x, I64 q.num ∧ I64 q.den) : m_laws_FnExactExcessVector n l x = some true := by
  unfold m_laws_FnExactExcessVector
  rw [sz_game n l _ (by decide) (by decide) hl.1]
  by_cases h : (1048576 : Int) < l.length
  · simp [h]
  · have h0 : ¬ (1048576 : Int) - (l.length : Int) < 0 := by omega
    have hl' : l.length ≤ 1048576 := by omega
    simp only [h, if_false, Option.bind_some, h0, decide_false, cond_false]
    rw [sz_rats x _ (by omega) (by omega) hx.1]
    by_cases h2 : (1048576 : Int) - l.length < x.length
    · simp [h2]
    · have h3 : ¬ (1048576 : Int) - (l.length : Int) - (x.length : Int) < 0 := by omega
      have hx' : x.length ≤ 1048576 := by omega
      obtain ⟨r, hr, _, _, e1, e2, _⟩ := exvec_both n l x hl' hx'
      obtain ⟨f1, f2, f3⟩ := frame_rats hr
      have c1 : ¬ (1 : Int) + (l.length : Int) + 2 * (x.length : Int) < 0 := by omega
      have c2 : ¬ (1 : Int) + 2 * (r.length : Int) < 0 := by omega
      simp [h2, h3, to_game n l hl', to_rats x hx', e1, e2, eq_game n l n l hl' hl', eq_rats x x hx', mark_game n l 1 (by decide) (by decide) (by omega), mark_rats x (1 + l.length) (by omega) (by omega) (by omega), f1, f2, f3, c1, c2]
end Go.Proofs.Ytnbkkljhdnkiaaa
