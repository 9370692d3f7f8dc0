/- The plain laws: what the models of FnExactShapleyValue compute. No condition beyond those that each theorem names. -/
import Derived.Test.YtoefgmmmcpikfaaGEShapleyValue
import Derived.Test.YtoefgmmmcpikfaaAmC
namespace Go.Proofs.Ytoefgmmmcpikfaa
open Go.AM
theorem sz_ints (l : List Int) (k : Int) (h1 : 0 ≤ k) (h2 : k ≤ 1048576) (hl : l.length ≤ maxLen) : m_laws_szIntS l k = some (if k < l.length then -1 else k - l.length) := by
  have hl' : (l.length : Int) ≤ 9223372036854775807 := by simp only [maxLen] at hl; omega
  have hw : IntKind.i64.wrap (k - (l.length : Int)) = k - l.length := w64' (by omega) (by omega)
  unfold m_laws_szIntS
  rw [hw]
  by_cases h : k < l.length
  · have : k - (l.length : Int) < 0 := by omega
    simp [h, this]
  · have : ¬ k - (l.length : Int) < 0 := by omega
    simp [h, this]
theorem sz_game (n : Int) (l : List Int) (k : Int) (h1 : 0 ≤ k) (h2 : k ≤ 1048576) (hl : l.length ≤ maxLen) : m_laws_szGame n l k = some (if k < l.length then -1 else k - l.length) := by
  unfold m_laws_szGame
  rw [sz_ints l k h1 h2 hl]
  by_cases h : k < l.length
  · simp [h]
  · have : ¬ k - (l.length : Int) < 0 := by omega
    simp [h, this]
theorem to_ints (l : List Int) (hl : l.length ≤ 1048576) : m_laws_toIntS l = some l := by
  unfold m_laws_toIntS
  rw [grd_pos ⟨by omega, rfl, by simp only [room]; omega⟩]
  have h := iter_up (step := l_laws_toIntS_0 l) (fun i => ((i : Int), l.take i ++ List.replicate (l.length - i) 0)) l.length (a := l) (fun i hi => ?_) ?_
  · simp only [List.take_zero, List.nil_append, Nat.sub_zero, Int.ofNat_eq_natCast] at h
    simp only [Int.toNat_natCast]
    rw [show ((0 : Int), List.replicate l.length (0 : Int)) = (((0 : Nat) : Int), List.replicate l.length (0 : Int)) from rfl, h]
    rfl
  · have hi' : (i : Int) < l.length := by omega
    have hlen : ((l.take i ++ List.replicate (l.length - i) (0 : Int)).length : Int) = l.length := by simp; omega
    simp only [l_laws_toIntS_0, hi', decide_true, cond_true]
    rw [grd_pos ⟨by omega, trivial⟩, grd_pos ⟨by omega, by rw [hlen]; exact hi'⟩]
    rw [w64' (by omega) (by omega), Int.toNat_natCast, set_copy l 0 0 i hi]
    rfl
  · simp [l_laws_toIntS_0]
theorem to_game (n : Int) (l : List Int) (hl : l.length ≤ 1048576) : m_laws_toGame n l = some (n, l) := by
  unfold m_laws_toGame
  rw [to_ints l hl]
  rfl
theorem eq_ints (a b : List Int) (ha : a.length ≤ 1048576) (hb : b.length ≤ 1048576) : m_laws_eqIntS a b = some (decide (a = b)) := by
  unfold m_laws_eqIntS
  by_cases hl : a.length = b.length
  · have e : ((a.length : Int) != (b.length : Int)) = false := by simp [hl]
    have hit := iter_all (step := l_laws_eqIntS_0 a b) (fun i => (i : Int)) a.length (fun i => a.getD i 0 == b.getD i 0) (a := .inl ()) (b := .inr false)
      (fun i hi hp => by
        have hi' : (i : Int) < a.length := by omega
        have hi2 : (i : Int) < b.length := by omega
        unfold l_laws_eqIntS_0
        rw [decide_eq_true hi', cond_true, grd_pos ⟨by omega, hi'⟩, grd_pos ⟨by omega, hi2⟩]
        simp only [beq_iff_eq] at hp
        rw [Int.toNat_natCast, hp, w64' (by omega) (by omega), bne_self_eq_false, cond_false]
        rfl)
      (fun i hi hp => by
        have hi' : (i : Int) < a.length := by omega
        have hi2 : (i : Int) < b.length := by omega
        unfold l_laws_eqIntS_0
        rw [decide_eq_true hi', cond_true, grd_pos ⟨by omega, hi'⟩, grd_pos ⟨by omega, hi2⟩]
        rw [Int.toNat_natCast]
        have : (a.getD i 0 != b.getD i 0) = true := by
          simp only [bne, hp, Bool.not_false]
        rw [this]
        rfl)
      (by
        unfold l_laws_eqIntS_0
        rw [decide_eq_false (by omega)]
        rfl)
    rw [e, cond_false]
    simp only [Int.ofNat_eq_natCast, Int.natCast_zero] at hit
    rw [hit]
    by_cases hall : ∀ i, i < a.length → (a.getD i 0 == b.getD i 0) = true
    · have : a = b := eq_of_all 0 hl fun i hi => by simpa using hall i hi
      rw [if_pos hall]
      simp [this]
    · have : ¬ a = b := fun e => hall fun i hi => by rw [e]; simp
      rw [if_neg hall]
      simp [this]
  · have e : ((a.length : Int) != (b.length : Int)) = true := by
      simp only [bne_iff_ne, ne_eq]
      omega
    rw [e]
    have : ¬ a = b := fun e => hl (by rw [e])
    simp [this]
theorem eq_game (n : Int) (l : List Int) (m : Int) (k : List Int) (hl : l.length ≤ 1048576) (hk : k.length ≤ 1048576) : m_laws_eqGame n l m k = some (decide (n = m ∧ l = k)) := by
  unfold m_laws_eqGame
  rw [eq_ints l k hl hk]
  by_cases h1 : n = m
  · by_cases h2 : l = k
    · simp [h1, h2]
    · simp [h1, h2]
  · have : (n != m) = true := by simpa using h1
    simp [h1, this]
def Valid (n : Int) (l : List Int) : Prop := (1 ≤ n ∧ n ≤ 5) ∧ (l.length : Int) = 2 ^ n.toNat ∧ l.getD 0 0 = 0 ∧ ∀ i, i < l.length → -500 ≤ l.getD i 0 ∧ l.getD i 0 ≤ 500
open Classical in
noncomputable def validB (n : Int) (l : List Int) : Bool := decide (Valid n l)
theorem in_eq (a b c : Int) : m_spec_l1In a b c = some (decide (b ≤ a ∧ a ≤ c)) := by
  unfold m_spec_l1In
  by_cases h : a ≥ b
  · have h' : b ≤ a := h
    simp [h, h']
  · have h' : ¬ b ≤ a := h
    simp [h, h']
theorem within_eq (a b c : Int) : m_impl_within a b c = some (decide (b ≤ a ∧ a ≤ c)) := in_eq a b c
theorem count_eq (n : Int) (h1 : 1 ≤ n) (h2 : n ≤ 5) : m_spec_CountCoalitions n = some (2 ^ n.toNat) := by
  unfold m_spec_CountCoalitions
  rw [in_eq]
  have hb : decide ((0 : Int) ≤ n ∧ n ≤ 5) = true := by simp; omega
  rw [hb, Option.bind_some, Bool.not_true, cond_false]
  have hit := iter_up (step := l_spec_CountCoalitions_0 n) (fun i => ((2 : Int) ^ i, (i : Int))) n.toNat (a := 2 ^ n.toNat) (fun i hi => by
      have hlt : (i : Int) < n := by omega
      have hi5 : i < 5 := by omega
      unfold l_spec_CountCoalitions_0
      simp only [hlt, decide_true, cond_true]
      have hp : (2 : Int) ^ i ≤ 16 := by
        have : i = 0 ∨ i = 1 ∨ i = 2 ∨ i = 3 ∨ i = 4 := by omega
        rcases this with rfl | rfl | rfl | rfl | rfl <;> decide
      have hp0 : (0 : Int) < 2 ^ i := Int.pow_pos (by decide)
      rw [w64' (by omega) (by omega), w64' (by omega) (by omega)]
      simp [Int.pow_succ])
    (by
      unfold l_spec_CountCoalitions_0
      have : ¬ ((n.toNat : Int) < n) := by omega
      simp only [this, decide_false, cond_false])
  simp only [Int.pow_zero, Int.ofNat_eq_natCast, Int.natCast_zero] at hit
  rw [hit]
  rfl
theorem spec_valid (n : Int) (l : List Int) (hl : l.length ≤ 1048576) : m_spec_IsValidGame n l = some (validB n l) := by
  unfold m_spec_IsValidGame
  have hit := iter_first (step := l_spec_IsValidGame_0 l) (fun i => (i : Int)) l.length (fun i => decide (-500 ≤ l.getD i 0 ∧ l.getD i 0 ≤ 500)) (a := .inl ()) (fun _ => .inr false)
    (fun i hi hp => by
      have hi' : (i : Int) < l.length := by omega
      unfold l_spec_IsValidGame_0
      rw [decide_eq_true hi', cond_true, grd_pos ⟨by omega, hi'⟩, in_eq, Int.toNat_natCast, hp, Option.bind_some, Bool.not_true, cond_false, w64' (by omega) (by omega)]
      rfl)
    (fun i hi hp => by
      have hi' : (i : Int) < l.length := by omega
      unfold l_spec_IsValidGame_0
      rw [decide_eq_true hi', cond_true, grd_pos ⟨by omega, hi'⟩, in_eq, Int.toNat_natCast, hp]
      rfl)
    (by
      unfold l_spec_IsValidGame_0
      rw [decide_eq_false (by omega)]
      rfl)
  simp only [Int.ofNat_eq_natCast, Int.natCast_zero] at hit
  rcases hit with ⟨h1, h2⟩ | ⟨i, h1, h2, h3⟩
  · rw [h2]
    simp only [Option.bind_some]
    rw [in_eq]
    by_cases hn : 1 ≤ n ∧ n ≤ 5
    · rw [decide_eq_true hn, Option.bind_some, cond_true, count_eq n hn.1 hn.2, Option.bind_some]
      by_cases hlen : (l.length : Int) = 2 ^ n.toNat
      · have hpos : (0 : Int) < 2 ^ n.toNat := Int.pow_pos (by decide)
        have e1 : ((l.length : Int) == 2 ^ n.toNat) = true := by simpa using hlen
        rw [e1, cond_true, grd_pos ⟨by omega, by omega⟩]
        congr 1
        have h0 : (0 : Int).toNat = 0 := rfl
        rw [h0]
        by_cases hz : l.getD 0 0 = 0
        · have hv : Valid n l := ⟨hn, hlen, hz, fun i hi => by simpa using h1 i hi⟩
          rw [hz]
          simp [validB, hv]
        · have hv : ¬ Valid n l := fun h => hz h.2.2.1
          simp only [validB, hv, decide_false]
          simpa using hz
      · have e1 : ((l.length : Int) == 2 ^ n.toNat) = false := by simpa using hlen
        have hv : ¬ Valid n l := fun h => hlen h.2.1
        rw [e1, cond_false]
        simp [validB, hv]
    · have hv : ¬ Valid n l := fun h => hn h.1
      rw [decide_eq_false hn]
      simp [validB, hv]
  · rw [h3]
    have hv : ¬ Valid n l := fun h => by
      have := h.2.2.2 i h1
      simp only [decide_eq_false_iff_not] at h2
      exact h2 this
    simp [validB, hv]
theorem contains_eq (l : List Int) (hl : l.length ≤ 1048576) : ∃ r, m_slices_ContainsFunc_int_int_impl_IsValidGame_1 l = some r ∧ (r = false ↔ ∀ i, i < l.length → -500 ≤ l.getD i 0 ∧ l.getD i 0 ≤ 500) := by
  unfold m_slices_ContainsFunc_int_int_impl_IsValidGame_1 m_slices_IndexFunc_int_int_impl_IsValidGame_1
  have hm : ∀ x, m_impl_IsValidGame_1 x = some (!decide (-500 ≤ x ∧ x ≤ 500)) := fun x => by
    unfold m_impl_IsValidGame_1
    rw [within_eq]
    rfl
  have hit := iter_first (step := l_slices_IndexFunc_int_int_impl_IsValidGame_1_0 l) (fun i => (i : Int)) l.length (fun i => decide (-500 ≤ l.getD i 0 ∧ l.getD i 0 ≤ 500)) (a := .inl ()) (fun i => .inr (i : Int))
    (fun i hi hp => by
      have hi' : (i : Int) < l.length := by omega
      unfold l_slices_IndexFunc_int_int_impl_IsValidGame_1_0
      rw [decide_eq_true hi', cond_true, grd_pos ⟨by omega, hi'⟩, hm, Int.toNat_natCast, hp, Option.bind_some, Bool.not_true, cond_false, w64' (by omega) (by omega)]
      rfl)
    (fun i hi hp => by
      have hi' : (i : Int) < l.length := by omega
      unfold l_slices_IndexFunc_int_int_impl_IsValidGame_1_0
      rw [decide_eq_true hi', cond_true, grd_pos ⟨by omega, hi'⟩, hm, Int.toNat_natCast, hp]
      rfl)
    (by
      unfold l_slices_IndexFunc_int_int_impl_IsValidGame_1_0
      rw [decide_eq_false (by omega)]
      rfl)
  simp only [Int.ofNat_eq_natCast, Int.natCast_zero] at hit
  rcases hit with ⟨h1, h2⟩ | ⟨i, h1, h2, h3⟩
  · rw [h2]
    exact ⟨false, rfl, by simpa using h1⟩
  · rw [h3]
    refine ⟨true, by simp, ?_⟩
    simp only [reduceCtorEq, false_iff]
    intro h
    simp only [decide_eq_false_iff_not] at h2
    exact h2 (h i h1)
theorem impl_valid (n : Int) (l : List Int) (hl : l.length ≤ 1048576) : m_impl_IsValidGame n l = some (validB n l) := by
  unfold m_impl_IsValidGame
  rw [within_eq]
  by_cases hn : 1 ≤ n ∧ n ≤ 5
  · rw [decide_eq_true hn, Option.bind_some, Bool.not_true, cond_false, grd_pos (by omega)]
    have hw : IntKind.i64.wrap ((1 : Int) * 2 ^ (min n.toNat 64)) = 2 ^ n.toNat := by
      have : n = 1 ∨ n = 2 ∨ n = 3 ∨ n = 4 ∨ n = 5 := by omega
      rcases this with rfl | rfl | rfl | rfl | rfl <;> decide
    rw [hw]
    by_cases hlen : (l.length : Int) = 2 ^ n.toNat
    · have hpos : (0 : Int) < 2 ^ n.toNat := Int.pow_pos (by decide)
      have e1 : ((l.length : Int) != 2 ^ n.toNat) = false := by simpa using hlen
      rw [e1, cond_false, grd_pos ⟨by omega, by omega⟩]
      have h0 : (0 : Int).toNat = 0 := rfl
      rw [h0]
      by_cases hz : l.getD 0 0 = 0
      · have e2 : (l.getD 0 0 != 0) = false := by simpa using hz
        rw [e2, cond_false]
        obtain ⟨r, h1, h2⟩ := contains_eq l hl
        rw [h1, Option.bind_some]
        congr 1
        by_cases hr : r = false
        · have hv : Valid n l := ⟨hn, hlen, hz, h2.1 hr⟩
          simp [validB, hv, hr]
        · have hv : ¬ Valid n l := fun h => hr (h2.2 h.2.2.2)
          have hr' : r = true := by cases r <;> simp at hr ⊢
          simp [validB, hv, hr']
      · have e2 : (l.getD 0 0 != 0) = true := by simpa using hz
        have hv : ¬ Valid n l := fun h => hz h.2.2.1
        rw [e2]
        simp [validB, hv]
    · have e1 : ((l.length : Int) != 2 ^ n.toNat) = true := by simpa using hlen
      have hv : ¬ Valid n l := fun h => hlen h.2.1
      rw [e1]
      simp [validB, hv]
  · have hv : ¬ Valid n l := fun h => hn h.1
    rw [decide_eq_false hn]
    simp [validB, hv]
theorem iter_find {S A : Type} {step : S → Option (S ⊕ A)} (st : Nat → S) (n : Nat) (p : Nat → Bool) (a : A) (b : Nat → A)
    (hs : ∀ i, i < n → step (st i) = some (if p i = true then .inr (b i) else .inl (st (i + 1)))) (hd : step (st n) = some (.inr a)) :
    iter step (st 0) = some (match (List.range n).find? p with
      | some i => b i
      | none => a) := by
  have key : ∀ k, k ≤ n → iter step (st (n - k)) = some (match (List.range' (n - k) k).find? p with
      | some i => b i
      | none => a) := by
    intro k
    induction k with
    | zero => intro _; simpa using iter_done hd
    | succ k ih =>
      intro hk
      have h1 := hs (n - (k + 1)) (by omega)
      rw [List.range'_succ, List.find?_cons]
      cases hp : p (n - (k + 1)) with
      | true =>
        rw [if_pos hp] at h1
        exact iter_done h1
      | false =>
        rw [if_neg (by simp [hp])] at h1
        rw [iter_next h1, show n - (k + 1) + 1 = n - k by omega]
        exact ih (by omega)
  have := key n (Nat.le_refl _)
  rw [Nat.sub_self, ← List.range_eq_range'] at this
  exact this
def tab {α : Type} (f : Nat → α) (n : Nat) : List α := (List.range n).map f
theorem tab_succ {α : Type} (f : Nat → α) (n : Nat) : tab f (n + 1) = tab f n ++ [f n] := by simp [tab, List.range_succ]
theorem tab_length {α : Type} (f : Nat → α) (n : Nat) : (tab f n).length = n := by simp [tab]
theorem tab_getD {α : Type} (f : Nat → α) (n : Nat) (d : α) (i : Nat) (h : i < n) : (tab f n).getD i d = f i := by
  simp [tab, List.getD, List.getElem?_map, List.getElem?_range h]
def fil {α : Type} (p : Nat → Bool) (f : Nat → α) (n : Nat) : List α := ((List.range n).filter p).map f
theorem fil_succ {α : Type} (p : Nat → Bool) (f : Nat → α) (n : Nat) : fil p f (n + 1) = if p n = true then fil p f n ++ [f n] else fil p f n := by
  simp only [fil, List.range_succ, List.filter_append]
  by_cases h : p n = true
  · simp [h]
  · simp [h]
theorem fil_length {α : Type} (p : Nat → Bool) (f : Nat → α) (n : Nat) : (fil p f n).length ≤ n := by
  simp only [fil, List.length_map]
  exact Nat.le_trans (List.length_filter_le _ _) (by simp)
theorem set_tab {α : Type} (f : Nat → α) (l : List α) (i : Nat) (h : i < l.length) : (tab f i ++ l.drop i).set i (f i) = tab f (i + 1) ++ l.drop (i + 1) := by
  rw [List.set_append]
  have h1 : ¬ i < (tab f i).length := by rw [tab_length]; omega
  rw [if_neg h1, tab_length, Nat.sub_self, tab_succ, List.drop_eq_getElem_cons h]
  simp only [List.set_cons_zero, List.append_assoc, List.singleton_append]
theorem getD_nat {α : Type} (l : List α) (i : Nat) (d : α) : l.getD (i : Int).toNat d = l.getD i d := by rw [Int.toNat_natCast]
theorem mark_ints (l : List Int) (k : Int) (h1 : 0 ≤ k) (h2 : k ≤ 1000000000000) (hl : l.length ≤ 1000000000000) : m_laws_markIntS_io1 l k = some (k + l.length, tab (fun i => k + (i : Int)) l.length) := by
  unfold m_laws_markIntS_io1
  have hit := iter_up (step := l_laws_markIntS_io1_0) (fun i => (k + (i : Int), (i : Int), tab (fun i => k + (i : Int)) i ++ l.drop i)) l.length (a := (k + l.length, tab (fun i => k + (i : Int)) l.length)) (fun i hi => by
      have hlen : (tab (fun i => k + (i : Int)) i ++ l.drop i).length = l.length := by simp [tab_length]; omega
      unfold l_laws_markIntS_io1_0
      simp only [hlen]
      rw [decide_eq_true (by omega), cond_true, grd_pos ⟨by omega, by omega⟩, w64' (by omega) (by omega), w64' (by omega) (by omega), Int.toNat_natCast, set_tab (fun i => k + (i : Int)) l i hi]
      simp [Int.add_assoc])
    (by
      unfold l_laws_markIntS_io1_0
      simp [tab_length])
  simp only [Int.natCast_zero, Int.add_zero, List.drop_zero, tab, List.range_zero, List.map_nil, List.nil_append] at hit
  rw [hit]
  rfl
theorem mark_game (n : Int) (l : List Int) (k : Int) (h1 : 0 ≤ k) (h2 : k ≤ 1000000000000) (hl : l.length ≤ 1000000000000) : m_laws_markGame_io1 n l k = some (k + l.length, tab (fun i => k + (i : Int)) l.length) := by
  unfold m_laws_markGame_io1
  rw [mark_ints l k h1 h2 hl]
  rfl
def validQ (a b : Int) : Bool := decide (1 ≤ b ∧ b ≤ 1000000000 ∧ -1000000000 ≤ a ∧ a ≤ 1000000000 ∧ Int.gcd a b = 1)
theorem gcd_loop (m n : Nat) : iter l_spec_l3Gcd_0 ((m : Int), (n : Int)) = some ((Nat.gcd m n : Nat) : Int) := by
  induction n using Nat.strongRecOn generalizing m with
  | _ n ih =>
    by_cases h : n = 0
    · subst h
      rw [iter_done (a := (m : Int))]
      · simp
      · simp [l_spec_l3Gcd_0]
    · have hs : l_spec_l3Gcd_0 ((m : Int), (n : Int)) = some (.inl ((n : Int), ((m % n : Nat) : Int))) := by
        unfold l_spec_l3Gcd_0
        dsimp only
        rw [decide_eq_true (by omega), cond_true, grd_pos (by omega)]
        rfl
      rw [iter_next hs, ih (m % n) (Nat.mod_lt _ (by omega)) n, Nat.gcd_comm n (m % n), ← Nat.gcd_rec n m, Nat.gcd_comm n m]
theorem spec_gcd (a b : Int) (ha : -9223372036854775807 ≤ a ∧ a ≤ 9223372036854775807) (hb : -9223372036854775807 ≤ b ∧ b ≤ 9223372036854775807) : m_spec_l3Gcd a b = some ((Int.gcd a b : Nat) : Int) := by
  unfold m_spec_l3Gcd
  have e1 : l_spec_l3Gcd_1 = l_spec_l3Gcd_0 := rfl
  have e2 : l_spec_l3Gcd_2 = l_spec_l3Gcd_0 := rfl
  have e3 : l_spec_l3Gcd_3 = l_spec_l3Gcd_0 := rfl
  rw [e1, e2, e3]
  have ea : (if a < 0 then IntKind.i64.wrap (0 - a) else a) = (a.natAbs : Int) := by
    by_cases h : a < 0
    · rw [if_pos h, w64' (by omega) (by omega)]; omega
    · rw [if_neg h]; omega
  have eb : (if b < 0 then IntKind.i64.wrap (0 - b) else b) = (b.natAbs : Int) := by
    by_cases h : b < 0
    · rw [if_pos h, w64' (by omega) (by omega)]; omega
    · rw [if_neg h]; omega
  have key := gcd_loop a.natAbs b.natAbs
  rw [← ea, ← eb] at key
  have hg : Nat.gcd a.natAbs b.natAbs = Int.gcd a b := rfl
  rw [hg] at key
  by_cases h1 : a < 0 <;> by_cases h2 : b < 0 <;> simp only [h1, h2, if_true, if_false, decide_true, decide_false, cond_true, cond_false] at key ⊢ <;> rw [key] <;> rfl
theorem common_loop : ∀ (N : Nat) (a b : Int), b.natAbs ≤ N → ∃ x, iter l_impl_common_0 (a, b) = some x ∧ x.natAbs = Int.gcd a b := by
  intro N
  induction N with
  | zero =>
    intro a b h
    have hb : b = 0 := by omega
    subst hb
    exact ⟨a, iter_done (by simp [l_impl_common_0]), by simp⟩
  | succ N ih =>
    intro a b h
    by_cases hb : b = 0
    · subst hb
      exact ⟨a, iter_done (by simp [l_impl_common_0]), by simp⟩
    · have hs : l_impl_common_0 (a, b) = some (.inl (b, a.tmod b)) := by
        unfold l_impl_common_0
        have : (b != 0) = true := by simpa using hb
        dsimp only
        rw [this, cond_true, grd_pos hb]
      have hlt : (a.tmod b).natAbs < b.natAbs := by
        rw [Int.natAbs_tmod]
        exact Nat.mod_lt _ (by omega)
      obtain ⟨x, h1, h2⟩ := ih b (a.tmod b) (by omega)
      refine ⟨x, by rw [iter_next hs, h1], ?_⟩
      rw [h2]
      show Nat.gcd b.natAbs (a.tmod b).natAbs = Nat.gcd a.natAbs b.natAbs
      rw [Int.natAbs_tmod, Nat.gcd_comm b.natAbs, ← Nat.gcd_rec, Nat.gcd_comm]
theorem gcd_le (a b : Int) : Int.gcd a b ≤ a.natAbs ∨ Int.gcd a b ≤ b.natAbs := by
  by_cases hb : b = 0
  · subst hb; left; simp
  · right
    exact Nat.le_of_dvd (by omega) (Int.gcd_dvd_natAbs_right a b)
theorem impl_common (a b : Int) (ha : -9223372036854775807 ≤ a ∧ a ≤ 9223372036854775807) (hb : -9223372036854775807 ≤ b ∧ b ≤ 9223372036854775807) : m_impl_common a b = some ((Int.gcd a b : Nat) : Int) := by
  unfold m_impl_common
  obtain ⟨x, h1, h2⟩ := common_loop _ a b (Nat.le_refl _)
  have h3 := gcd_le a b
  rw [h1, Option.bind_some]
  dsimp only
  rw [w64' (by omega) (by omega)]
  congr 1
  split <;> omega
theorem spec_validRat (a b : Int) : m_spec_IsValidRat a b = some (validQ a b) := by
  unfold m_spec_IsValidRat
  rw [in_eq, Option.bind_some]
  by_cases hb : 1 ≤ b ∧ b ≤ 1000000000
  · rw [decide_eq_true hb, cond_true, in_eq, Option.bind_some]
    by_cases ha : -1000000000 ≤ a ∧ a ≤ 1000000000
    · rw [decide_eq_true ha, cond_true, spec_gcd a b (by omega) (by omega), Option.bind_some]
      congr 1
      by_cases hg : Int.gcd a b = 1
      · simp [validQ, hg, ha, hb]
      · have : ¬ ((Int.gcd a b : Nat) : Int) = 1 := by omega
        simp [validQ, hg, this]
    · rw [decide_eq_false ha, cond_false]
      have : ¬ (1 ≤ b ∧ b ≤ 1000000000 ∧ -1000000000 ≤ a ∧ a ≤ 1000000000 ∧ Int.gcd a b = 1) := fun h => ha ⟨h.2.2.1, h.2.2.2.1⟩
      rw [validQ, decide_eq_false this]
  · rw [decide_eq_false hb, cond_false]
    have : ¬ (1 ≤ b ∧ b ≤ 1000000000 ∧ -1000000000 ≤ a ∧ a ≤ 1000000000 ∧ Int.gcd a b = 1) := fun h => hb ⟨h.1, h.2.1⟩
    rw [validQ, decide_eq_false this]
theorem impl_validRat (a b : Int) : m_impl_IsValidRat a b = some (validQ a b) := by
  rw [← spec_validRat]
  unfold m_impl_IsValidRat m_spec_IsValidRat
  rw [in_eq, within_eq, Option.bind_some, Option.bind_some]
  by_cases hb : 1 ≤ b ∧ b ≤ 1000000000
  · rw [decide_eq_true hb, cond_true, cond_true, in_eq, within_eq, Option.bind_some, Option.bind_some]
    by_cases ha : -1000000000 ≤ a ∧ a ≤ 1000000000
    · rw [decide_eq_true ha, cond_true, cond_true, spec_gcd a b (by omega) (by omega), impl_common a b (by omega) (by omega)]
    · rw [decide_eq_false ha]
      rfl
  · rw [decide_eq_false hb]
    rfl
instance : DecidableEq Q := fun a b =>
  if h1 : a.num = b.num then
    if h2 : a.den = b.den then isTrue (by cases a; cases b; simp only at h1 h2; rw [h1, h2])
    else isFalse (fun h => h2 (by rw [h]))
  else isFalse (fun h => h1 (by rw [h]))
theorem Q_ext {a b : Q} : a = b ↔ a.num = b.num ∧ a.den = b.den := ⟨fun h => by rw [h]; exact ⟨rfl, rfl⟩, fun h => by cases a; cases b; simp only at h; rw [h.1, h.2]⟩
theorem eq_find {α : Type} [DecidableEq α] (d : α) (a b : List α) (hl : a.length = b.length) : (match (List.range a.length).find? (fun i => !decide (a.getD i d = b.getD i d)) with
      | some _ => (.inr false : Unit ⊕ Bool)
      | none => .inl ()) = if a = b then .inl () else .inr false := by
  cases h : (List.range a.length).find? (fun i => !decide (a.getD i d = b.getD i d)) with
  | none =>
    rw [List.find?_eq_none] at h
    rw [if_pos (eq_of_all d hl fun i hi => by simpa using h i (List.mem_range.2 hi))]
  | some i =>
    have h1 := List.find?_some h
    simp only [Bool.not_eq_true', decide_eq_false_iff_not] at h1
    rw [if_neg fun e => h1 (by rw [e])]
theorem eq_rat (a b c d : Int) : m_laws_eqRat a b c d = some (decide (a = c ∧ b = d)) := by
  unfold m_laws_eqRat
  by_cases h1 : a = c
  · by_cases h2 : b = d
    · simp [h1, h2]
    · have e : (b != d) = true := by simpa using h2
      simp [h1, h2, e]
  · have e : (a != c) = true := by simpa using h1
    simp [h1, e]
theorem eq_rats (a b : List Q) (ha : a.length ≤ 1048576) : m_laws_eqRatS a b = some (decide (a = b)) := by
  unfold m_laws_eqRatS
  by_cases hl : a.length = b.length
  · have e : ((a.length : Int) != (b.length : Int)) = false := by simp [hl]
    have hit := iter_find (step := l_laws_eqRatS_0 a b) (fun i => (i : Int)) a.length (fun i => !decide (a.getD i ⟨0, 0⟩ = b.getD i ⟨0, 0⟩)) (.inl ()) (fun _ => .inr false)
      (fun i hi => by
        unfold l_laws_eqRatS_0
        rw [decide_eq_true (by omega), cond_true, grd_pos ⟨by omega, by omega⟩, grd_pos ⟨by omega, by omega⟩, getD_nat, getD_nat, eq_rat, Option.bind_some, w64' (by omega) (by omega)]
        by_cases hq : a.getD i ⟨0, 0⟩ = b.getD i ⟨0, 0⟩
        · rw [decide_eq_true (Q_ext.1 hq), decide_eq_true hq]
          rfl
        · rw [decide_eq_false fun h => hq (Q_ext.2 h), decide_eq_false hq]
          rfl)
      (by
        unfold l_laws_eqRatS_0
        rw [decide_eq_false (by omega)]
        rfl)
    rw [eq_find _ a b hl] at hit
    simp only [Int.natCast_zero] at hit
    rw [e, cond_false, hit]
    by_cases hab : a = b
    · simp [hab]
    · simp [hab]
  · have e : ((a.length : Int) != (b.length : Int)) = true := by
      simp only [bne_iff_ne, ne_eq]
      omega
    have : ¬ a = b := fun e => hl (by rw [e])
    rw [e]
    simp [this]
theorem count0 (n : Nat) (h : n ≤ 5) : m_spec_CountCoalitions (n : Int) = some (2 ^ n) := by
  rcases Nat.eq_zero_or_pos n with rfl | h1
  · unfold m_spec_CountCoalitions
    rw [in_eq, decide_eq_true (by omega), Option.bind_some, Bool.not_true, cond_false]
    rw [iter_done (a := (1 : Int)) (by simp [l_spec_CountCoalitions_0])]
    rfl
  · rw [count_eq (n : Int) (by omega) (by omega)]
    simp
theorem bit2 (k : Nat) (h : k < 5) : m_spec_l2Bit (k : Int) = some (2 ^ k) := by
  unfold m_spec_l2Bit
  rw [count0 k (by omega)]
  rfl
theorem and_tab : ∀ s : Fin 32, ∀ k : Fin 5, bitsOf .and .i64 (((s.val : Nat) : Int).fdiv (2 ^ (min ((k.val : Nat) : Int).toNat 64))) 1 = if s.val.testBit k.val then 1 else 0 := by decide +kernel
theorem has_tab : ∀ s : Fin 32, ∀ k : Fin 5, ((IntKind.i64.wrap (((s.val : Nat) : Int).tdiv (2 ^ k.val))).tmod 2 == 1) = s.val.testBit k.val := by decide +kernel
theorem shl_tab : ∀ k : Fin 6, IntKind.i64.wrap (1 * 2 ^ (min ((k.val : Nat) : Int).toNat 64)) = ((2 ^ k.val : Nat) : Int) := by decide +kernel
theorem or_tab : ∀ a : Fin 32, ∀ b : Fin 32, bitsOf .or .i64 ((a.val : Nat) : Int) ((b.val : Nat) : Int) = ((a.val ||| b.val : Nat) : Int) := by decide +kernel
theorem add_tab : ∀ s : Fin 32, ∀ k : Fin 5, s.val.testBit k.val = false → s.val + 2 ^ k.val = s.val ||| 2 ^ k.val := by decide +kernel
theorem and_eq (s k : Nat) (hs : s < 32) (hk : k < 5) : bitsOf .and .i64 ((s : Int).fdiv (2 ^ (min (k : Int).toNat 64))) 1 = if s.testBit k then 1 else 0 := and_tab ⟨s, hs⟩ ⟨k, hk⟩
theorem shl_eq (k : Nat) (hk : k < 6) : IntKind.i64.wrap (1 * 2 ^ (min (k : Int).toNat 64)) = ((2 ^ k : Nat) : Int) := shl_tab ⟨k, hk⟩
theorem or_eq (a b : Nat) (ha : a < 32) (hb : b < 32) : bitsOf .or .i64 (a : Int) (b : Int) = ((a ||| b : Nat) : Int) := or_tab ⟨a, ha⟩ ⟨b, hb⟩
theorem add_eq (s k : Nat) (hs : s < 32) (hk : k < 5) (h : s.testBit k = false) : s + 2 ^ k = s ||| 2 ^ k := add_tab ⟨s, hs⟩ ⟨k, hk⟩ h
theorem pow_lt5 (k : Nat) (hk : k < 5) : 2 ^ k < 32 := by
  have : k = 0 ∨ k = 1 ∨ k = 2 ∨ k = 3 ∨ k = 4 := by omega
  rcases this with rfl | rfl | rfl | rfl | rfl <;> decide
theorem spec_has (s k : Nat) (hs : s < 32) (hk : k < 5) : m_spec_HasPlayer (s : Int) (k : Int) = some (s.testBit k) := by
  unfold m_spec_HasPlayer
  have hp : (0 : Int) < 2 ^ k := Int.pow_pos (by decide)
  rw [in_eq, decide_eq_true (by omega), Option.bind_some, cond_true, decide_eq_true (by omega), cond_true, bit2 k hk, Option.bind_some, grd_pos (by omega), grd_pos (by decide)]
  rw [← has_tab ⟨s, hs⟩ ⟨k, hk⟩]
/-- a valid game, in natural numbers -/
theorem valid_nat {n : Int} {l : List Int} (h : Valid n l) : ∃ N : Nat, n = (N : Int) ∧ 1 ≤ N ∧ N ≤ 5 ∧ l.length = 2 ^ N ∧ l.length ≤ 32 := by
  obtain ⟨h1, h2, _⟩ := h
  have hn : n = 1 ∨ n = 2 ∨ n = 3 ∨ n = 4 ∨ n = 5 := by omega
  refine ⟨n.toNat, by omega, by omega, by omega, ?_, ?_⟩
  · rcases hn with rfl | rfl | rfl | rfl | rfl <;> simp at h2 ⊢ <;> omega
  · rcases hn with rfl | rfl | rfl | rfl | rfl <;> simp at h2 ⊢ <;> omega
theorem validB_eq (n : Int) (l : List Int) : validB n l = true ↔ Valid n l := by simp [validB]
theorem pow_le32 {N : Nat} (h : N ≤ 5) : 2 ^ N ≤ 32 := by
  have : N = 0 ∨ N = 1 ∨ N = 2 ∨ N = 3 ∨ N = 4 ∨ N = 5 := by omega
  rcases this with rfl | rfl | rfl | rfl | rfl | rfl <;> decide
def ratOf (n d : Int) : Int × Int × Bool :=
  if d = 0 ∨ ¬ (-1000000000000000000 ≤ n ∧ n ≤ 1000000000000000000) ∨ ¬ (-1000000000000000000 ≤ d ∧ d ≤ 1000000000000000000) then (0, 0, false)
  else if validQ ((if d < 0 then -n else n).tdiv (Int.gcd n d : Nat)) ((if d < 0 then -d else d).tdiv (Int.gcd n d : Nat)) = true then ((if d < 0 then -n else n).tdiv (Int.gcd n d : Nat), (if d < 0 then -d else d).tdiv (Int.gcd n d : Nat), true) else (0, 0, false)
theorem tdiv_bd (n : Int) (g : Nat) : -(n.natAbs : Int) ≤ n.tdiv g ∧ n.tdiv g ≤ n.natAbs := by
  have h : (n.tdiv g).natAbs ≤ n.natAbs := by
    rw [Int.natAbs_tdiv]
    exact Nat.div_le_self _ _
  omega
theorem gcd_pos' {n d : Int} (h : d ≠ 0) : 0 < Int.gcd n d := Int.gcd_pos_of_ne_zero_right n h
theorem spec_ratOf (n d : Int) : m_spec_RatOf n d = some (ratOf n d) := by
  unfold m_spec_RatOf ratOf
  by_cases h0 : d = 0
  · simp [h0]
  · have e0 : (d == 0) = false := by simpa using h0
    rw [e0, cond_false, in_eq, in_eq, Option.bind_some, Option.bind_some]
    by_cases h1 : -1000000000000000000 ≤ n ∧ n ≤ 1000000000000000000
    · by_cases h2 : -1000000000000000000 ≤ d ∧ d ≤ 1000000000000000000
      · have hc : ¬ (d = 0 ∨ ¬ (-1000000000000000000 ≤ n ∧ n ≤ 1000000000000000000) ∨ ¬ (-1000000000000000000 ≤ d ∧ d ≤ 1000000000000000000)) := fun h => by
          rcases h with h | h | h
          · exact h0 h
          · exact h h1
          · exact h h2
        have hg := gcd_pos' (n := n) h0
        rw [if_neg hc, decide_eq_true h1, decide_eq_true h2, Bool.not_true, cond_false, cond_false]
        by_cases h3 : d < 0
        · have b1 := tdiv_bd (-n) (Int.gcd n d)
          have b2 := tdiv_bd (-d) (Int.gcd n d)
          have z1 : IntKind.i64.wrap (0 - n) = -n := by rw [w64' (by omega) (by omega)]; omega
          have z2 : IntKind.i64.wrap (0 - d) = -d := by rw [w64' (by omega) (by omega)]; omega
          rw [decide_eq_true h3, cond_true, z1, z2, spec_gcd _ _ (by omega) (by omega), Int.neg_gcd, Int.gcd_neg, Option.bind_some, grd_pos (by omega), grd_pos (by omega), w64' (n := (-n).tdiv _) (by omega) (by omega), w64' (n := (-d).tdiv _) (by omega) (by omega), spec_validRat, Option.bind_some]
          simp only [if_pos h3]
          cases validQ ((-n).tdiv (Int.gcd n d : Nat)) ((-d).tdiv (Int.gcd n d : Nat)) <;> rfl
        · have b1 := tdiv_bd n (Int.gcd n d)
          have b2 := tdiv_bd d (Int.gcd n d)
          rw [decide_eq_false h3, cond_false, spec_gcd _ _ (by omega) (by omega), Option.bind_some, grd_pos (by omega), grd_pos (by omega), w64' (n := n.tdiv _) (by omega) (by omega), w64' (n := d.tdiv _) (by omega) (by omega), spec_validRat, Option.bind_some]
          simp only [if_neg h3]
          cases validQ (n.tdiv (Int.gcd n d : Nat)) (d.tdiv (Int.gcd n d : Nat)) <;> rfl
      · rw [if_pos (.inr (.inr h2)), decide_eq_true h1, decide_eq_false h2]
        rfl
    · rw [if_pos (.inr (.inl h1)), decide_eq_false h1]
      rfl
theorem impl_ratOf (n d : Int) : m_impl_RatOf n d = some (ratOf n d) := by
  unfold m_impl_RatOf ratOf
  by_cases h0 : d = 0
  · simp [h0]
  · have e0 : (d == 0) = false := by simpa using h0
    rw [e0, cond_false, within_eq, within_eq, Option.bind_some, Option.bind_some]
    by_cases h1 : -1000000000000000000 ≤ n ∧ n ≤ 1000000000000000000
    · by_cases h2 : -1000000000000000000 ≤ d ∧ d ≤ 1000000000000000000
      · have hc : ¬ (d = 0 ∨ ¬ (-1000000000000000000 ≤ n ∧ n ≤ 1000000000000000000) ∨ ¬ (-1000000000000000000 ≤ d ∧ d ≤ 1000000000000000000)) := fun h => by
          rcases h with h | h | h
          · exact h0 h
          · exact h h1
          · exact h h2
        have hg := gcd_pos' (n := n) h0
        have hgl := gcd_le n d
        rw [if_neg hc, decide_eq_true h1, decide_eq_true h2, Bool.not_true, cond_false, cond_false, impl_common _ _ (by omega) (by omega), Option.bind_some]
        by_cases h3 : d < 0
        · have b1 := tdiv_bd (-n) (Int.gcd n d)
          have b2 := tdiv_bd (-d) (Int.gcd n d)
          have z1 : IntKind.i64.wrap (0 - ((Int.gcd n d : Nat) : Int)) = -((Int.gcd n d : Nat) : Int) := by rw [w64' (by omega) (by omega)]; omega
          rw [decide_eq_true h3, cond_true, z1, grd_pos (by omega), grd_pos (by omega), Int.tdiv_neg, Int.tdiv_neg, ← Int.neg_tdiv, ← Int.neg_tdiv, w64' (n := (-n).tdiv _) (by omega) (by omega), w64' (n := (-d).tdiv _) (by omega) (by omega), impl_validRat, Option.bind_some]
          simp only [if_pos h3]
          cases validQ ((-n).tdiv (Int.gcd n d : Nat)) ((-d).tdiv (Int.gcd n d : Nat)) <;> rfl
        · have b1 := tdiv_bd n (Int.gcd n d)
          have b2 := tdiv_bd d (Int.gcd n d)
          rw [decide_eq_false h3, cond_false, grd_pos (by omega), grd_pos (by omega), w64' (n := n.tdiv _) (by omega) (by omega), w64' (n := d.tdiv _) (by omega) (by omega), impl_validRat, Option.bind_some]
          simp only [if_neg h3]
          cases validQ (n.tdiv (Int.gcd n d : Nat)) (d.tdiv (Int.gcd n d : Nat)) <;> rfl
      · rw [if_pos (.inr (.inr h2)), decide_eq_true h1, decide_eq_false h2]
        rfl
    · rw [if_pos (.inr (.inl h1)), decide_eq_false h1]
      rfl
def mems (s : Nat) : List Int := fil s.testBit (fun k => (k : Int)) 5
theorem mems_length (s : Nat) : (mems s).length ≤ 5 := fil_length _ _ _
def mkQ (k : Int) (i : Nat) : Q := ⟨k + 2 * (i : Int), k + 2 * (i : Int) + 1⟩
theorem mark_rats (l : List Q) (k : Int) (h1 : 0 ≤ k) (h2 : k ≤ 1000000000000) (hl : l.length ≤ 1000000000000) : m_laws_markRatS_io1 l k = some (k + 2 * (l.length : Int), tab (mkQ k) l.length) := by
  unfold m_laws_markRatS_io1
  have hit := iter_up (step := l_laws_markRatS_io1_0) (fun i => (k + 2 * (i : Int), (i : Int), tab (mkQ k) i ++ l.drop i)) l.length (a := (k + 2 * (l.length : Int), tab (mkQ k) l.length)) (fun i hi => by
      have hlen : (tab (mkQ k) i ++ l.drop i).length = l.length := by simp [tab_length]; omega
      unfold l_laws_markRatS_io1_0
      dsimp only
      rw [List.length_set, hlen, decide_eq_true (by omega), cond_true, grd_pos (by omega), grd_pos (by omega), w64' (n := k + 2 * (i : Int) + 1) (by omega) (by omega), w64' (n := k + 2 * (i : Int) + 1 + 1) (by omega) (by omega), w64' (n := (i : Int) + 1) (by omega) (by omega)]
      simp only [Int.toNat_natCast]
      have hg : ∀ q : Q, ((tab (mkQ k) i ++ l.drop i).set i q).getD i ⟨0, 0⟩ = q := fun q => by
        simp only [List.getD, List.getElem?_set, hlen, hi, if_true, Option.getD_some]
      rw [hg, List.set_set]
      have := set_tab (mkQ k) l i hi
      simp only [mkQ] at this
      rw [this]
      have e : k + 2 * (i : Int) + 1 + 1 = k + 2 * ((i + 1 : Nat) : Int) := by omega
      rw [e]
      rfl)
    (by
      unfold l_laws_markRatS_io1_0
      simp [tab_length])
  have e0 : tab (mkQ k) 0 = [] := rfl
  simp only [Int.natCast_zero, Int.mul_zero, Int.add_zero, List.drop_zero, e0, List.nil_append] at hit
  rw [hit]
  rfl
theorem held_rats (k : Int) (n : Nat) (h1 : 0 ≤ k) (h2 : k ≤ 1000000000000) (hn : n ≤ 1000000000000) : m_laws_heldRatS (tab (mkQ k) n) k = some (k + 2 * (n : Int)) := by
  unfold m_laws_heldRatS
  have hit := iter_up (step := l_laws_heldRatS_0 (tab (mkQ k) n)) (fun i => (k + 2 * (i : Int), (i : Int))) n (a := .inl (k + 2 * (n : Int))) (fun i hi => by
      unfold l_laws_heldRatS_0
      dsimp only
      rw [tab_length, decide_eq_true (by omega), cond_true, grd_pos (by omega), getD_nat, tab_getD _ _ _ _ hi, w64' (n := k + 2 * (i : Int) + 1) (by omega) (by omega), w64' (n := k + 2 * (i : Int) + 1 + 1) (by omega) (by omega), w64' (n := (i : Int) + 1) (by omega) (by omega), grd_pos (by omega)]
      simp only [mkQ, bne_self_eq_false, cond_false]
      have e : k + 2 * (i : Int) + 1 + 1 = k + 2 * ((i + 1 : Nat) : Int) := by omega
      rw [e]
      rfl)
    (by
      unfold l_laws_heldRatS_0
      simp [tab_length])
  simp only [Int.natCast_zero, Int.mul_zero, Int.add_zero] at hit
  rw [hit]
  rfl
theorem frame_rats {r : List Q} (hlen : r.length ≤ 1048576) : m_laws_eqRatS r r = some true ∧ m_laws_markRatS_io1 r 1 = some (1 + 2 * (r.length : Int), tab (mkQ 1) r.length) ∧ m_laws_heldRatS (tab (mkQ 1) r.length) 1 = some (1 + 2 * (r.length : Int)) :=
  ⟨by rw [eq_rats r r hlen]; simp, mark_rats r 1 (by decide) (by decide) (by omega), held_rats 1 r.length (by decide) (by decide) (by omega)⟩
def fctN : Nat → Int
  | 0 => 1
  | k + 1 => fctN k * ((k : Int) + 2)
def fctI (m : Int) : Int := fctN (m - 1).toNat
theorem fctN_bd (k : Nat) (h : k ≤ 4) : 1 ≤ fctN k ∧ fctN k ≤ 120 := by
  have : k = 0 ∨ k = 1 ∨ k = 2 ∨ k = 3 ∨ k = 4 := by omega
  rcases this with rfl | rfl | rfl | rfl | rfl <;> decide
theorem spec_fact (m : Int) (h1 : -10 ≤ m) (h2 : m ≤ 5) : m_spec_l14Factorial m = some (fctI m) := by
  unfold m_spec_l14Factorial fctI
  have hit := iter_up (step := l_spec_l14Factorial_0 m) (fun k => (fctN k, (k : Int) + 2)) (m - 1).toNat (a := fctN (m - 1).toNat) (fun k hk => by
      have hb := fctN_bd (k + 1) (by omega)
      simp only [fctN] at hb
      unfold l_spec_l14Factorial_0
      dsimp only
      rw [decide_eq_true (by omega), cond_true, w64' (by omega) (by omega), w64' (by omega) (by omega)]
      simp only [fctN]
      have e : (k : Int) + 2 + 1 = ((k + 1 : Nat) : Int) + 2 := by omega
      rw [e])
    (by unfold l_spec_l14Factorial_0; dsimp only; rw [decide_eq_false (by omega)]; rfl)
  have e0 : ((0 : Nat) : Int) + 2 = 2 := rfl
  simp only [fctN, e0] at hit
  rw [hit]
  rfl
theorem impl_fact (m : Int) (h1 : -10 ≤ m) (h2 : m ≤ 5) : m_impl_factorial m = some (fctI m) := by
  rw [← spec_fact m h1 h2]
  rfl
theorem spec_size (s : Nat) (hs : s < 32) : m_spec_SizeOf (s : Int) = some (((mems s).length : Nat) : Int) := by
  unfold m_spec_SizeOf
  have hit := iter_up (step := l_spec_SizeOf_0 (s : Int)) (fun k => ((((fil s.testBit (fun k => (k : Int)) k).length : Nat) : Int), (k : Int))) 5 (a := (((mems s).length : Nat) : Int)) (fun k hk => by
      have hb := fil_length s.testBit (fun k => (k : Int)) k
      unfold l_spec_SizeOf_0
      dsimp only
      rw [decide_eq_true (by omega), cond_true, spec_has s k hs hk, Option.bind_some, w64' (by omega) (by omega), w64' (by omega) (by omega), fil_succ]
      cases s.testBit k <;> simp)
    (by unfold l_spec_SizeOf_0; dsimp only; rw [decide_eq_false (by omega)]; rfl)
  have e0 : (fil s.testBit (fun k => (k : Int)) 0).length = 0 := rfl
  simp only [e0, Int.natCast_zero] at hit
  rw [hit]
  rfl
theorem u64_tab : ∀ s : Fin 32, IntKind.u64.wrap ((s.val : Nat) : Int) = ((s.val : Nat) : Int) := by decide +kernel
def onesV1 (a0 : Int) : Int := IntKind.u64.wrap ((bitsOf .and .u64 ((IntKind.u64.wrap ((bitsOf .and .u64 (a0.fdiv (2 ^ (min (1 : Int).toNat 64))) (6148914691236517205 : Int)) + (bitsOf .and .u64 a0 (6148914691236517205 : Int)))).fdiv (2 ^ (min (2 : Int).toNat 64))) (3689348814741910323 : Int)) + (bitsOf .and .u64 (IntKind.u64.wrap ((bitsOf .and .u64 (a0.fdiv (2 ^ (min (1 : Int).toNat 64))) (6148914691236517205 : Int)) + (bitsOf .and .u64 a0 (6148914691236517205 : Int)))) (3689348814741910323 : Int)))
def onesV2 (v1 : Int) : Int := IntKind.u64.wrap ((bitsOf .and .u64 (IntKind.u64.wrap ((v1.fdiv (2 ^ (min (4 : Int).toNat 64))) + v1)) (1085102592571150095 : Int)) + ((bitsOf .and .u64 (IntKind.u64.wrap ((v1.fdiv (2 ^ (min (4 : Int).toNat 64))) + v1)) (1085102592571150095 : Int)).fdiv (2 ^ (min (8 : Int).toNat 64))))
def onesV3 (v2 : Int) : Int := bitsOf .and .i64 (IntKind.i64.wrap (IntKind.u64.wrap ((IntKind.u64.wrap (v2 + (v2.fdiv (2 ^ (min (16 : Int).toNat 64))))) + ((IntKind.u64.wrap (v2 + (v2.fdiv (2 ^ (min (16 : Int).toNat 64))))).fdiv (2 ^ (min (32 : Int).toNat 64)))))) (127 : Int)
theorem ones_tab : ∀ s : Fin 32, onesV3 (onesV2 (onesV1 ((s.val : Nat) : Int))) = (((mems s.val).length : Nat) : Int) := by decide +kernel
theorem ones_eq (s : Nat) (hs : s < 32) : m_bits_OnesCount (s : Int) = some (((mems s).length : Nat) : Int) := by
  unfold m_bits_OnesCount m_bits_OnesCount64
  rw [grd_pos (by decide), grd_pos (by decide), Option.bind_some, grd_pos (by decide), grd_pos (by decide), Option.bind_some, grd_pos (by decide), grd_pos (by decide)]
  exact congrArg some (ones_tab ⟨s, hs⟩)
def shF (l : List Int) (N k : Nat) : Nat → Int
  | 0 => 0
  | s + 1 => if s.testBit k = true then shF l N k s else IntKind.i64.wrap (shF l N k s + IntKind.i64.wrap (IntKind.i64.wrap (fctI ((mems s).length : Nat) * fctI ((N : Int) - 1 - ((mems s).length : Nat))) * IntKind.i64.wrap (l.getD (s ||| 2 ^ k) 0 - l.getD s 0)))
theorem spec_shIn (l : List Int) (N k : Nat) (hN : N ≤ 5) (hl : l.length = 2 ^ N) (hk : k < N) : iter (l_spec_ShapleyValue_1 (N : Int) l (k : Int)) ((0 : Int), (0 : Int)) = some (shF l N k l.length) := by
  have h32 := pow_le32 hN
  have hit := iter_up (step := l_spec_ShapleyValue_1 (N : Int) l (k : Int)) (fun s => (shF l N k s, (s : Int))) l.length (a := shF l N k l.length) (fun s hs => by
      have b1 : s ||| 2 ^ k < 2 ^ N := Nat.or_lt_two_pow (by omega) (Nat.pow_lt_pow_right (by decide) hk)
      have hm := mems_length s
      unfold l_spec_ShapleyValue_1
      dsimp only
      rw [decide_eq_true (by omega), cond_true, spec_has s k (by omega) (by omega), Option.bind_some, w64' (n := (s : Int) + 1) (by omega) (by omega)]
      simp only [shF]
      cases h1 : s.testBit k with
      | true => rfl
      | false =>
        have e1 := add_eq s k (by omega) (by omega) h1
        have f1 : ((s : Int) + 2 ^ k) = ((s ||| 2 ^ k : Nat) : Int) := by rw [← e1]; simp
        have e2 : (N : Int) - (((mems s).length : Nat) : Int) - 1 = (N : Int) - 1 - (((mems s).length : Nat) : Int) := by omega
        rw [cond_false, spec_size s (by omega), Option.bind_some, spec_fact _ (by omega) (by omega), Option.bind_some, w64' (n := (N : Int) - _) (by omega) (by omega), e2, w64' (n := (N : Int) - 1 - _) (by omega) (by omega), spec_fact _ (by omega) (by omega), Option.bind_some, bit2 k (by omega), Option.bind_some, f1, w64' (n := ((s ||| 2 ^ k : Nat) : Int)) (by omega) (by omega), grd_pos (by omega), grd_pos (by omega), getD_nat, getD_nat, if_neg (by decide)]
        rfl)
    (by unfold l_spec_ShapleyValue_1; dsimp only; rw [decide_eq_false (by omega)]; rfl)
  exact hit
theorem impl_shIn (l : List Int) (N k : Nat) (hN : N ≤ 5) (hl : l.length = 2 ^ N) (hk : k < N) : iter (l_impl_averages_impl_ShapleyValue_1_1 l (N : Int) (k : Int)) ((0 : Int), (0 : Int)) = some (shF l N k l.length) := by
  have h32 := pow_le32 hN
  have p1 := pow_lt5 k (by omega)
  have hit := iter_up (step := l_impl_averages_impl_ShapleyValue_1_1 l (N : Int) (k : Int)) (fun s => (shF l N k s, (s : Int))) l.length (a := shF l N k l.length) (fun s hs => by
      have b1 : s ||| 2 ^ k < 2 ^ N := Nat.or_lt_two_pow (by omega) (Nat.pow_lt_pow_right (by decide) hk)
      have hm := mems_length s
      have hu := u64_tab ⟨s, by omega⟩
      simp only at hu
      unfold l_impl_averages_impl_ShapleyValue_1_1 m_impl_ShapleyValue_1
      dsimp only
      rw [decide_eq_true (by omega), cond_true, grd_pos (by omega), grd_pos (by omega), and_eq s k (by omega) (by omega), w64' (n := (s : Int) + 1) (by omega) (by omega)]
      simp only [shF]
      cases h1 : s.testBit k with
      | true => rfl
      | false =>
        have e3 : ((if false = true then (1 : Int) else 0) == 0) = true := rfl
        rw [e3, cond_true, hu, ones_eq s (by omega), Option.bind_some, impl_fact _ (by omega) (by omega), Option.bind_some, w64' (n := (N : Int) - 1) (by omega) (by omega), w64' (n := (N : Int) - 1 - _) (by omega) (by omega), impl_fact _ (by omega) (by omega), Option.bind_some, Option.bind_some, shl_eq k (by omega), or_eq s _ (by omega) (by omega), grd_pos (by omega), grd_pos (by omega), getD_nat, getD_nat, if_neg (by decide)]
        rfl)
    (by unfold l_impl_averages_impl_ShapleyValue_1_1; dsimp only; rw [decide_eq_false (by omega)]; rfl)
  exact hit
def shQ (l : List Int) (N k : Nat) : Q := ⟨(ratOf (shF l N k l.length) (fctI N)).1, (ratOf (shF l N k l.length) (fctI N)).2.1⟩
theorem shap_both (n : Int) (l : List Int) (hl : l.length ≤ 1048576) : ∃ b r, r.length ≤ 1048576 ∧ m_spec_ShapleyValue n l = some (b, r) ∧ m_impl_ShapleyValue n l = some (b, r) := by
  unfold m_spec_ShapleyValue m_impl_ShapleyValue
  rw [spec_valid n l hl, impl_valid n l hl]
  cases hv : validB n l with
  | false => exact ⟨false, [], by simp, rfl, rfl⟩
  | true =>
    obtain ⟨N, rfl, h1, h2, h3, h4⟩ := valid_nat ((validB_eq n l).1 hv)
    have s1 := iter_up (step := l_spec_ShapleyValue_0 (N : Int) l) (fun k => ((k : Int), tab (shQ l N) k)) N (a := tab (shQ l N) N) (fun k hk => by
        unfold l_spec_ShapleyValue_0
        dsimp only
        rw [decide_eq_true (by omega), cond_true, spec_shIn l N k h2 h3 hk, Option.bind_some, spec_fact _ (by omega) (by omega), Option.bind_some, spec_ratOf, Option.bind_some]
        rw [grd_pos (by simp only [tab_length, List.length_singleton, room]; omega), w64' (by omega) (by omega), tab_succ]
        rfl)
      (by unfold l_spec_ShapleyValue_0; dsimp only; rw [decide_eq_false (by omega)]; rfl)
    have s2 := iter_up (step := l_impl_averages_impl_ShapleyValue_1_0 (N : Int) l (N : Int) (fctI N)) (fun k => ((k : Int), tab (shQ l N) k)) N (a := tab (shQ l N) N) (fun k hk => by
        unfold l_impl_averages_impl_ShapleyValue_1_0
        dsimp only
        rw [decide_eq_true (by omega), cond_true, impl_shIn l N k h2 h3 hk, Option.bind_some, impl_ratOf, Option.bind_some]
        rw [grd_pos (by simp only [tab_length, List.length_singleton, room]; omega), w64' (by omega) (by omega), tab_succ]
        rfl)
      (by unfold l_impl_averages_impl_ShapleyValue_1_0; dsimp only; rw [decide_eq_false (by omega)]; rfl)
    have e0 : tab (shQ l N) 0 = [] := rfl
    simp only [e0, Int.natCast_zero] at s1 s2
    simp only [Option.bind_some, Bool.not_true, cond_false]
    unfold m_impl_averages_impl_ShapleyValue_1
    rw [impl_fact _ (by omega) (by omega), Option.bind_some, s1, s2]
    exact ⟨true, tab (shQ l N) N, by rw [tab_length]; omega, rfl, rfl⟩
theorem law_FnExactShapleyValue (n : Int) (l : List Int) (_ : I64 n) (hl : l.length ≤ maxLen ∧ ∀ n ∈ l, I64 n) : m_laws_FnExactShapleyValue n l = some true := by
  unfold m_laws_FnExactShapleyValue
  rw [sz_game n l _ (by decide) (by decide) hl.1]
  by_cases h : (1048576 : Int) < l.length
  · simp [h]
  · have h0 : ¬ (1048576 : Int) - (l.length : Int) < 0 := by omega
    have hl' : l.length ≤ 1048576 := by omega
    obtain ⟨b, r, hr, h1, h2⟩ := shap_both n l hl'
    obtain ⟨f1, f2, f3⟩ := frame_rats hr
    have c1 : ¬ (1 : Int) + (l.length : Int) < 0 := by omega
    have c2 : ¬ (1 : Int) + 2 * (r.length : Int) < 0 := by omega
    simp [h, h0, to_game n l hl', h1, h2, eq_game n l n l hl' hl', mark_game n l 1 (by decide) (by decide) (by omega), f1, f2, f3, c1, c2]
end Go.Proofs.Ytoefgmmmcpikfaa
