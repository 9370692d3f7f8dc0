/- The plain laws: what the models of FnExactFormatGame compute. No condition beyond those that each theorem names. -/
import Derived.Test.YtdaoggmpohnjhaaDoorGEFormatGame
import Derived.Test.YtdaoggmpohnjhaaDoorAmC
namespace Go.Proofs.YtdaoggmpohnjhaaDoor
open Go.AM
theorem sz_ints (l : List Int) (k : Int) (h1 : 0 ≤ k) (h2 : k ≤ 1048576) (hl : l.length ≤ maxLen) : m_laws_szIntS l k = some (if k < l.length then -1 else k - l.length) := by
 have hl' : (l.length : Int) ≤ 9223372036854775807 := by simp only [maxLen] at hl; omega
 have hw : IntKind.i64.wrap (k - (l.length : Int)) = k - l.length := w64' (by omega) (by omega)
 unfold m_laws_szIntS
 rw [hw]
 by_cases h : k < l.length
 ·have : k - (l.length : Int) < 0 := by omega
  simp [h,this]
 ·have : ¬ k - (l.length : Int) < 0 := by omega
  simp [h,this]
theorem sz_game (n : Int) (l : List Int) (k : Int) (h1 : 0 ≤ k) (h2 : k ≤ 1048576) (hl : l.length ≤ maxLen) : m_laws_szGame n l k = some (if k < l.length then -1 else k - l.length) := by
 unfold m_laws_szGame
 rw [sz_ints l k h1 h2 hl]
 by_cases h : k < l.length
 ·simp [h]
 ·have : ¬ k - (l.length : Int) < 0 := by omega
  simp [h,this]
theorem to_ints (l : List Int) (hl : l.length ≤ 1048576) : m_laws_toIntS l = some l := by
 unfold m_laws_toIntS
 rw [grd_pos ⟨by omega,rfl,by simp only [room]; omega⟩]
 have h := iter_up (step := l_laws_toIntS_0 l) (fun i => ((i : Int),l.take i ++ List.replicate (l.length - i) 0)) l.length (a := l) (fun i hi => ?_) ?_
 ·simp only [List.take_zero,List.nil_append,Nat.sub_zero,Int.ofNat_eq_natCast] at h
  simp only [Int.toNat_natCast]
  rw [show ((0 : Int),List.replicate l.length (0 : Int)) = (((0 : Nat) : Int),List.replicate l.length (0 : Int)) from rfl,h]
  rfl
 ·have hi' : (i : Int) < l.length := by omega
  have hlen : ((l.take i ++ List.replicate (l.length - i) (0 : Int)).length : Int) = l.length := by simp; omega
  simp only [l_laws_toIntS_0,hi',decide_true,cond_true]
  rw [grd_pos ⟨by omega,trivial⟩,grd_pos ⟨by omega,by rw [hlen]; exact hi'⟩]
  rw [w64' (by omega) (by omega),Int.toNat_natCast,set_copy l 0 0 i hi]
  rfl
 ·simp [l_laws_toIntS_0]
theorem to_game (n : Int) (l : List Int) (hl : l.length ≤ 1048576) : m_laws_toGame n l = some (n,l) := by
 unfold m_laws_toGame
 rw [to_ints l hl]
 rfl
theorem eq_ints (a b : List Int) (ha : a.length ≤ 1048576) (hb : b.length ≤ 1048576) : m_laws_eqIntS a b = some (decide (a = b)) := by
 unfold m_laws_eqIntS
 by_cases hl : a.length = b.length
 ·have e : ((a.length : Int) != (b.length : Int)) = false := by simp [hl]
  have hit := iter_all (step := l_laws_eqIntS_0 a b) (fun i => (i : Int)) a.length (fun i => a.getD i 0 == b.getD i 0) (a := .inl ()) (b := .inr false)
   (fun i hi hp => by
    have hi' : (i : Int) < a.length := by omega
    have hi2 : (i : Int) < b.length := by omega
    unfold l_laws_eqIntS_0
    rw [decide_eq_true hi',cond_true,grd_pos ⟨by omega,hi'⟩,grd_pos ⟨by omega,hi2⟩]
    simp only [beq_iff_eq] at hp
    rw [Int.toNat_natCast,hp,w64' (by omega) (by omega),bne_self_eq_false,cond_false]
    rfl)
   (fun i hi hp => by
    have hi' : (i : Int) < a.length := by omega
    have hi2 : (i : Int) < b.length := by omega
    unfold l_laws_eqIntS_0
    rw [decide_eq_true hi',cond_true,grd_pos ⟨by omega,hi'⟩,grd_pos ⟨by omega,hi2⟩]
    rw [Int.toNat_natCast]
    have : (a.getD i 0 != b.getD i 0) = true := by
     simp only [bne,hp,Bool.not_false]
    rw [this]
    rfl)
   (by
    unfold l_laws_eqIntS_0
    rw [decide_eq_false (by omega)]
    rfl)
  rw [e,cond_false]
  simp only [Int.ofNat_eq_natCast,Int.natCast_zero] at hit
  rw [hit]
  by_cases hall : ∀ i,i < a.length → (a.getD i 0 == b.getD i 0) = true
  ·have : a = b := eq_of_all 0 hl fun i hi => by simpa using hall i hi
   rw [if_pos hall]
   simp [this]
  ·have : ¬ a = b := fun e => hall fun i hi => by rw [e]; simp
   rw [if_neg hall]
   simp [this]
 ·have e : ((a.length : Int) != (b.length : Int)) = true := by
   simp only [bne_iff_ne,ne_eq]
   omega
  rw [e]
  have : ¬ a = b := fun e => hl (by rw [e])
  simp [this]
theorem eq_game (n : Int) (l : List Int) (m : Int) (k : List Int) (hl : l.length ≤ 1048576) (hk : k.length ≤ 1048576) : m_laws_eqGame n l m k = some (decide (n = m ∧ l = k)) := by
 unfold m_laws_eqGame
 rw [eq_ints l k hl hk]
 by_cases h1 : n = m
 ·by_cases h2 : l = k
  ·simp [h1,h2]
  ·simp [h1,h2]
 ·have : (n != m) = true := by simpa using h1
  simp [h1,this]
def Valid (n : Int) (l : List Int) : Prop := (1 ≤ n ∧ n ≤ 5) ∧ (l.length : Int) = 2 ^ n.toNat ∧ l.getD 0 0 = 0 ∧ ∀ i,i < l.length → -500 ≤ l.getD i 0 ∧ l.getD i 0 ≤ 500
open Classical in
noncomputable def validB (n : Int) (l : List Int) : Bool := decide (Valid n l)
theorem in_eq (a b c : Int) : m_spec_l1In a b c = some (decide (b ≤ a ∧ a ≤ c)) := by
 unfold m_spec_l1In
 by_cases h : a ≥ b
 ·have h' : b ≤ a := h
  simp [h,h']
 ·have h' : ¬ b ≤ a := h
  simp [h,h']
theorem within_eq (a b c : Int) : m_impl_within a b c = some (decide (b ≤ a ∧ a ≤ c)) := in_eq a b c
theorem count_eq (n : Int) (h1 : 1 ≤ n) (h2 : n ≤ 5) : m_spec_CountCoalitions n = some (2 ^ n.toNat) := by
 unfold m_spec_CountCoalitions
 rw [in_eq]
 have hb : decide ((0 : Int) ≤ n ∧ n ≤ 5) = true := by simp; omega
 rw [hb,Option.bind_some,Bool.not_true,cond_false]
 have hit := iter_up (step := l_spec_CountCoalitions_0 n) (fun i => ((2 : Int) ^ i,(i : Int))) n.toNat (a := 2 ^ n.toNat) (fun i hi => by
   have hlt : (i : Int) < n := by omega
   have hi5 : i < 5 := by omega
   unfold l_spec_CountCoalitions_0
   simp only [hlt,decide_true,cond_true]
   have hp : (2 : Int) ^ i ≤ 16 := by
    have : i = 0 ∨ i = 1 ∨ i = 2 ∨ i = 3 ∨ i = 4 := by omega
    rcases this with rfl | rfl | rfl | rfl | rfl <;> decide
   have hp0 : (0 : Int) < 2 ^ i := Int.pow_pos (by decide)
   rw [w64' (by omega) (by omega),w64' (by omega) (by omega)]
   simp [Int.pow_succ])
  (by
   unfold l_spec_CountCoalitions_0
   have : ¬ ((n.toNat : Int) < n) := by omega
   simp only [this,decide_false,cond_false])
 simp only [Int.pow_zero,Int.ofNat_eq_natCast,Int.natCast_zero] at hit
 rw [hit]
 rfl
theorem spec_valid (n : Int) (l : List Int) (hl : l.length ≤ 1048576) : m_spec_IsValidGame n l = some (validB n l) := by
 unfold m_spec_IsValidGame
 have hit := iter_first (step := l_spec_IsValidGame_0 l) (fun i => (i : Int)) l.length (fun i => decide (-500 ≤ l.getD i 0 ∧ l.getD i 0 ≤ 500)) (a := .inl ()) (fun _ => .inr false)
  (fun i hi hp => by
   have hi' : (i : Int) < l.length := by omega
   unfold l_spec_IsValidGame_0
   rw [decide_eq_true hi',cond_true,grd_pos ⟨by omega,hi'⟩,in_eq,Int.toNat_natCast,hp,Option.bind_some,Bool.not_true,cond_false,w64' (by omega) (by omega)]
   rfl)
  (fun i hi hp => by
   have hi' : (i : Int) < l.length := by omega
   unfold l_spec_IsValidGame_0
   rw [decide_eq_true hi',cond_true,grd_pos ⟨by omega,hi'⟩,in_eq,Int.toNat_natCast,hp]
   rfl)
  (by
   unfold l_spec_IsValidGame_0
   rw [decide_eq_false (by omega)]
   rfl)
 simp only [Int.ofNat_eq_natCast,Int.natCast_zero] at hit
 rcases hit with ⟨h1,h2⟩ | ⟨i,h1,h2,h3⟩
 ·rw [h2]
  simp only [Option.bind_some]
  rw [in_eq]
  by_cases hn : 1 ≤ n ∧ n ≤ 5
  ·rw [decide_eq_true hn,Option.bind_some,cond_true,count_eq n hn.1 hn.2,Option.bind_some]
   by_cases hlen : (l.length : Int) = 2 ^ n.toNat
   ·have hpos : (0 : Int) < 2 ^ n.toNat := Int.pow_pos (by decide)
    have e1 : ((l.length : Int) == 2 ^ n.toNat) = true := by simpa using hlen
    rw [e1,cond_true,grd_pos ⟨by omega,by omega⟩]
    congr 1
    have h0 : (0 : Int).toNat = 0 := rfl
    rw [h0]
    by_cases hz : l.getD 0 0 = 0
    ·have hv : Valid n l := ⟨hn,hlen,hz,fun i hi => by simpa using h1 i hi⟩
     rw [hz]
     simp [validB,hv]
    ·have hv : ¬ Valid n l := fun h => hz h.2.2.1
     simp only [validB,hv,decide_false]
     simpa using hz
   ·have e1 : ((l.length : Int) == 2 ^ n.toNat) = false := by simpa using hlen
    have hv : ¬ Valid n l := fun h => hlen h.2.1
    rw [e1,cond_false]
    simp [validB,hv]
  ·have hv : ¬ Valid n l := fun h => hn h.1
   rw [decide_eq_false hn]
   simp [validB,hv]
 ·rw [h3]
  have hv : ¬ Valid n l := fun h => by
   have := h.2.2.2 i h1
   simp only [decide_eq_false_iff_not] at h2
   exact h2 this
  simp [validB,hv]
theorem contains_eq (l : List Int) (hl : l.length ≤ 1048576) : ∃ r,m_slices_ContainsFunc_int_int_impl_IsValidGame_1 l = some r ∧ (r = false ↔ ∀ i,i < l.length → -500 ≤ l.getD i 0 ∧ l.getD i 0 ≤ 500) := by
 unfold m_slices_ContainsFunc_int_int_impl_IsValidGame_1 m_slices_IndexFunc_int_int_impl_IsValidGame_1
 have hm : ∀ x,m_impl_IsValidGame_1 x = some (!decide (-500 ≤ x ∧ x ≤ 500)) := fun x => by
  unfold m_impl_IsValidGame_1
  rw [within_eq]
  rfl
 have hit := iter_first (step := l_slices_IndexFunc_int_int_impl_IsValidGame_1_0 l) (fun i => (i : Int)) l.length (fun i => decide (-500 ≤ l.getD i 0 ∧ l.getD i 0 ≤ 500)) (a := .inl ()) (fun i => .inr (i : Int))
  (fun i hi hp => by
   have hi' : (i : Int) < l.length := by omega
   unfold l_slices_IndexFunc_int_int_impl_IsValidGame_1_0
   rw [decide_eq_true hi',cond_true,grd_pos ⟨by omega,hi'⟩,hm,Int.toNat_natCast,hp,Option.bind_some,Bool.not_true,cond_false,w64' (by omega) (by omega)]
   rfl)
  (fun i hi hp => by
   have hi' : (i : Int) < l.length := by omega
   unfold l_slices_IndexFunc_int_int_impl_IsValidGame_1_0
   rw [decide_eq_true hi',cond_true,grd_pos ⟨by omega,hi'⟩,hm,Int.toNat_natCast,hp]
   rfl)
  (by
   unfold l_slices_IndexFunc_int_int_impl_IsValidGame_1_0
   rw [decide_eq_false (by omega)]
   rfl)
 simp only [Int.ofNat_eq_natCast,Int.natCast_zero] at hit
 rcases hit with ⟨h1,h2⟩ | ⟨i,h1,h2,h3⟩
 ·rw [h2]
  exact ⟨false,rfl,by simpa using h1⟩
 ·rw [h3]
  refine ⟨true,by simp,?_⟩
  simp only [reduceCtorEq,false_iff]
  intro h
  simp only [decide_eq_false_iff_not] at h2
  exact h2 (h i h1)
theorem impl_valid (n : Int) (l : List Int) (hl : l.length ≤ 1048576) : m_impl_IsValidGame n l = some (validB n l) := by
 unfold m_impl_IsValidGame
 rw [within_eq]
 by_cases hn : 1 ≤ n ∧ n ≤ 5
 ·rw [decide_eq_true hn,Option.bind_some,Bool.not_true,cond_false,grd_pos (by omega)]
  have hw : IntKind.i64.wrap ((1 : Int) * 2 ^ (min n.toNat 64)) = 2 ^ n.toNat := by
   have : n = 1 ∨ n = 2 ∨ n = 3 ∨ n = 4 ∨ n = 5 := by omega
   rcases this with rfl | rfl | rfl | rfl | rfl <;> decide
  rw [hw]
  by_cases hlen : (l.length : Int) = 2 ^ n.toNat
  ·have hpos : (0 : Int) < 2 ^ n.toNat := Int.pow_pos (by decide)
   have e1 : ((l.length : Int) != 2 ^ n.toNat) = false := by simpa using hlen
   rw [e1,cond_false,grd_pos ⟨by omega,by omega⟩]
   have h0 : (0 : Int).toNat = 0 := rfl
   rw [h0]
   by_cases hz : l.getD 0 0 = 0
   ·have e2 : (l.getD 0 0 != 0) = false := by simpa using hz
    rw [e2,cond_false]
    obtain ⟨r,h1,h2⟩ := contains_eq l hl
    rw [h1,Option.bind_some]
    congr 1
    by_cases hr : r = false
    ·have hv : Valid n l := ⟨hn,hlen,hz,h2.1 hr⟩
     simp [validB,hv,hr]
    ·have hv : ¬ Valid n l := fun h => hr (h2.2 h.2.2.2)
     have hr' : r = true := by cases r <;> simp at hr ⊢
     simp [validB,hv,hr']
   ·have e2 : (l.getD 0 0 != 0) = true := by simpa using hz
    have hv : ¬ Valid n l := fun h => hz h.2.2.1
    rw [e2]
    simp [validB,hv]
  ·have e1 : ((l.length : Int) != 2 ^ n.toNat) = true := by simpa using hlen
   have hv : ¬ Valid n l := fun h => hlen h.2.1
   rw [e1]
   simp [validB,hv]
 ·have hv : ¬ Valid n l := fun h => hn h.1
  rw [decide_eq_false hn]
  simp [validB,hv]
def fil {α : Type} (p : Nat → Bool) (f : Nat → α) (n : Nat) : List α := ((List.range n).filter p).map f
theorem fil_succ {α : Type} (p : Nat → Bool) (f : Nat → α) (n : Nat) : fil p f (n + 1) = if p n = true then fil p f n ++ [f n] else fil p f n := by
 simp only [fil,List.range_succ,List.filter_append]
 by_cases h : p n = true
 ·simp [h]
 ·simp [h]
theorem fil_length {α : Type} (p : Nat → Bool) (f : Nat → α) (n : Nat) : (fil p f n).length ≤ n := by
 simp only [fil,List.length_map]
 exact Nat.le_trans (List.length_filter_le _ _) (by simp)
instance : DecidableEq Q := fun a b =>
 if h1 : a.num = b.num then
  if h2 : a.den = b.den then isTrue (by cases a; cases b; simp only at h1 h2; rw [h1,h2])
  else isFalse (fun h => h2 (by rw [h]))
 else isFalse (fun h => h1 (by rw [h]))
theorem count0 (n : Nat) (h : n ≤ 5) : m_spec_CountCoalitions (n : Int) = some (2 ^ n) := by
 rcases Nat.eq_zero_or_pos n with rfl | h1
 ·unfold m_spec_CountCoalitions
  rw [in_eq,decide_eq_true (by omega),Option.bind_some,Bool.not_true,cond_false]
  rw [iter_done (a := (1 : Int)) (by simp [l_spec_CountCoalitions_0])]
  rfl
 ·rw [count_eq (n : Int) (by omega) (by omega)]
  simp
theorem bit2 (k : Nat) (h : k < 5) : m_spec_l2Bit (k : Int) = some (2 ^ k) := by
 unfold m_spec_l2Bit
 rw [count0 k (by omega)]
 rfl
theorem and_tab : ∀ s : Fin 32,∀ k : Fin 5,bitsOf .and .i64 (((s.val : Nat) : Int).fdiv (2 ^ (min ((k.val : Nat) : Int).toNat 64))) 1 = if s.val.testBit k.val then 1 else 0 := by decide +kernel
theorem has_tab : ∀ s : Fin 32,∀ k : Fin 5,((IntKind.i64.wrap (((s.val : Nat) : Int).tdiv (2 ^ k.val))).tmod 2 == 1) = s.val.testBit k.val := by decide +kernel
theorem and_eq (s k : Nat) (hs : s < 32) (hk : k < 5) : bitsOf .and .i64 ((s : Int).fdiv (2 ^ (min (k : Int).toNat 64))) 1 = if s.testBit k then 1 else 0 := and_tab ⟨s,hs⟩ ⟨k,hk⟩
theorem spec_has (s k : Nat) (hs : s < 32) (hk : k < 5) : m_spec_HasPlayer (s : Int) (k : Int) = some (s.testBit k) := by
 unfold m_spec_HasPlayer
 have hp : (0 : Int) < 2 ^ k := Int.pow_pos (by decide)
 rw [in_eq,decide_eq_true (by omega),Option.bind_some,cond_true,decide_eq_true (by omega),cond_true,bit2 k hk,Option.bind_some,grd_pos (by omega),grd_pos (by decide)]
 rw [← has_tab ⟨s,hs⟩ ⟨k,hk⟩]
theorem valid_nat {n : Int} {l : List Int} (h : Valid n l) : ∃ N : Nat,n = (N : Int) ∧ 1 ≤ N ∧ N ≤ 5 ∧ l.length = 2 ^ N ∧ l.length ≤ 32 := by
 obtain ⟨h1,h2,_⟩ := h
 have hn : n = 1 ∨ n = 2 ∨ n = 3 ∨ n = 4 ∨ n = 5 := by omega
 refine ⟨n.toNat,by omega,by omega,by omega,?_,?_⟩
 ·rcases hn with rfl | rfl | rfl | rfl | rfl <;> simp at h2 ⊢ <;> omega
 ·rcases hn with rfl | rfl | rfl | rfl | rfl <;> simp at h2 ⊢ <;> omega
theorem validB_eq (n : Int) (l : List Int) : validB n l = true ↔ Valid n l := by simp [validB]
theorem good_eq (a : Nat) (ha : a < 32) : m_spec_l2Good (a : Int) = some true := by
 unfold m_spec_l2Good
 rw [in_eq,decide_eq_true (by omega)]
 rfl
theorem impl_has (s k : Nat) (hs : s < 32) (hk : k < 5) : m_impl_HasPlayer (s : Int) (k : Int) = some (s.testBit k) := by
 unfold m_impl_HasPlayer
 rw [decide_eq_true (by omega),cond_true,within_eq,decide_eq_true (by omega),Option.bind_some,cond_true,grd_pos (by omega),and_eq s k hs hk]
 cases s.testBit k <;> rfl
def mems (s : Nat) : List Int := fil s.testBit (fun k => (k : Int)) 5
theorem impl_members (s : Nat) (hs : s < 32) : m_impl_MembersOf (s : Int) = some (mems s) := by
 unfold m_impl_MembersOf
 have hit := iter_up (step := l_impl_MembersOf_0 (s : Int)) (fun k => ((k : Int),fil s.testBit (fun k => (k : Int)) k)) 5 (a := mems s) (fun k hk => by
   have hb := fil_length s.testBit (fun k => (k : Int)) k
   unfold l_impl_MembersOf_0
   dsimp only
   rw [decide_eq_true (by omega),cond_true,impl_has s k hs hk,Option.bind_some,w64' (by omega) (by omega),fil_succ,grd_pos (by simp only [List.length_singleton,room]; omega)]
   cases s.testBit k <;> rfl)
  (by unfold l_impl_MembersOf_0; dsimp only; rw [decide_eq_false (by omega)]; rfl)
 have e : fil s.testBit (fun k => (k : Int)) 0 = [] := rfl
 simp only [Int.natCast_zero,e] at hit
 rw [within_eq,decide_eq_true (by omega),Option.bind_some,Bool.not_true,cond_false,hit]
 rfl
theorem mems_mem {s : Nat} {m : Int} (h : m ∈ mems s) : ∃ k : Nat,m = (k : Int) ∧ k < 5 ∧ s.testBit k = true := by
 simp only [mems,fil,List.mem_map,List.mem_filter,List.mem_range] at h
 obtain ⟨k,⟨h1,h2⟩,h3⟩ := h
 exact ⟨k,h3.symm,h1,h2⟩
def sR (f : Nat → Rat) : Nat → Rat
 | 0 => 0
 | n + 1 => sR f n + f n
theorem sR_ext {f g : Nat → Rat} : ∀ {n : Nat},(∀ i,i < n → f i = g i) → sR f n = sR g n
 | 0,_ => rfl
 | n + 1,h => by
  simp only [sR]
  rw [sR_ext fun i hi => h i (by omega),h n (by omega)]
structure TInv (S : Nat → Nat → Rat) (n m : Nat) (T : Nat → Nat → Rat) (b : Nat → Nat) : Prop where
 bb : ∀ k,k < m → b k < n + m
 L : ∀ k,k < m → ∀ j,j ≤ n + m → T k j = sR (fun i => T k (n + i) * S i j) m
 R : ∀ i,i < m → ∀ j,j ≤ n + m → S i j = sR (fun k => S i (b k) * T k j) m
 U : ∀ k,k < m → ∀ l,l < m → T k (b l) = if k = l then 1 else 0
theorem TInv.congr {S T T' : Nat → Nat → Rat} {n m : Nat} {b b' : Nat → Nat} (h : TInv S n m T b) (hT : ∀ k,k < m → ∀ j,j ≤ n + m → T' k j = T k j) (hb : ∀ k,k < m → b' k = b k) : TInv S n m T' b' := by
 refine ⟨fun k hk => by rw [hb k hk]; exact h.bb k hk,fun k hk j hj => ?_,fun i hi j hj => ?_,fun k hk l hl => ?_⟩
 ·rw [hT k hk j hj,h.L k hk j hj]
  exact sR_ext fun i hi => by rw [hT k hk (n + i) (by omega)]
 ·rw [h.R i hi j hj]
  exact sR_ext fun k hk => by rw [hb k hk,hT k hk j hj]
 ·rw [hb l hl,hT k hk _ (by have := h.bb l hl; omega),h.U k hk l hl]
theorem w8' {n : Int} (h1 : 0 ≤ n) (h2 : n < 256) : IntKind.u8.wrap n = n := by
 unfold IntKind.wrap
 simp only [IntKind.signed,IntKind.bits,Bool.false_and,Bool.false_eq_true,if_false]
 omega
theorem dec_one {u : Nat} (h : u < 10) : Lib.decDigits u = [UInt8.ofNat (48 + u)] := by rw [Lib.decDigits,dif_pos h]
theorem dec_app {u : Nat} (h : ¬ u < 10) : Lib.decDigits u = Lib.decDigits (u / 10) ++ [UInt8.ofNat (48 + u % 10)] := by rw [Lib.decDigits,dif_neg h]
theorem dec_len : ∀ (k u : Nat),u < 10 ^ (k + 1) → (Lib.decDigits u).length ≤ k + 1
 | 0,u,h => by rw [dec_one (by simpa using h)]; simp
 | k + 1,u,h => by
  by_cases h1 : u < 10
  ·rw [dec_one h1]; simp
  ·rw [dec_app h1,List.length_append,List.length_singleton]
   rw [Nat.pow_succ] at h
   have := dec_len k (u / 10) (by omega)
   omega
theorem itoa_len {n : Int} (h1 : -1000000000000000000 ≤ n) (h2 : n ≤ 1000000000000000000) : (Lib.itoa n).length ≤ 20 := by
 unfold Lib.itoa
 split
 ·have := dec_len 18 n.natAbs (by omega)
  rw [List.length_cons]
  omega
 ·have := dec_len 18 n.toNat (by omega)
  omega
def dgs (u : Nat) : List UInt8 := if u = 0 then [] else Lib.decDigits u
theorem dgs_step {u : Nat} (h : u ≠ 0) : dgs u = dgs (u / 10) ++ [UInt8.ofNat (48 + u % 10)] := by
 unfold dgs
 rw [if_neg h]
 by_cases h1 : u < 10
 ·rw [dec_one h1,if_pos (by omega),show u % 10 = u by omega]
  rfl
 ·rw [dec_app h1,if_neg (by omega)]
theorem fmt_loop : ∀ (k : Nat) (n : Int) (out : List UInt8),n.natAbs < 10 ^ k → -1000000000000000000 ≤ n → n ≤ 1000000000000000000 → out.length + k ≤ 1000 → iter l_spec_FormatInt_0 (n,out) = some (dgs n.natAbs ++ out)
 | 0,n,out,h,_,_,_ => by
  have h0 : n = 0 := by
   rw [Nat.pow_zero] at h
   omega
  subst h0
  exact iter_done rfl
 | k + 1,n,out,h,hn1,hn2,hl => by
  by_cases h0 : n = 0
  ·subst h0
   exact iter_done rfl
  ·have hne : (n != 0) = true := by simpa using h0
   have hm : (n.tmod 10).natAbs = n.natAbs % 10 := Int.natAbs_tmod n 10
   have hq : (n.tdiv 10).natAbs = n.natAbs / 10 := Int.natAbs_tdiv n 10
   rw [Nat.pow_succ] at h
   have hb : ∀ d : Int,d = ((n.natAbs % 10 : Nat) : Int) → UInt8.ofNat (IntKind.u8.wrap (IntKind.i64.wrap ((48 : Int) + d))).toNat = UInt8.ofNat (48 + n.natAbs % 10) ∧ ((0 : Int) ≤ IntKind.u8.wrap (IntKind.i64.wrap ((48 : Int) + d)) ∧ IntKind.u8.wrap (IntKind.i64.wrap ((48 : Int) + d)) < 256) := fun d hd => by
    have : n.natAbs % 10 < 10 := Nat.mod_lt _ (by decide)
    rw [w64' (by omega) (by omega),w8' (by omega) (by omega)]
    refine ⟨?_,by omega,by omega⟩
    congr 1
    omega
   have hs : l_spec_FormatInt_0 (n,out) = some (.inl (n.tdiv 10,[UInt8.ofNat (48 + n.natAbs % 10)] ++ out)) := by
    unfold l_spec_FormatInt_0
    dsimp only
    have hlen : ∀ b : UInt8,((([b].length + out.length : Nat) : Int) ≤ 9223372036854775807) := fun b => by
     rw [List.length_singleton]
     omega
    rw [hne,cond_true,grd_pos (by decide)]
    by_cases hneg : n.tmod 10 < 0
    ·obtain ⟨b1,b2⟩ := hb (IntKind.i64.wrap ((0 : Int) - n.tmod 10)) (by rw [w64' (by omega) (by omega)]; omega)
     rw [decide_eq_true hneg,cond_true,grd_pos b2,grd_pos (hlen _),grd_pos (by decide),b1,w64' (by omega) (by omega)]
    ·obtain ⟨b1,b2⟩ := hb (n.tmod 10) (by omega)
     rw [decide_eq_false hneg,cond_false,grd_pos b2,grd_pos (hlen _),grd_pos (by decide),b1,w64' (by omega) (by omega)]
   rw [iter_next hs,fmt_loop k (n.tdiv 10) _ (by omega) (by omega) (by omega) (by rw [List.length_append,List.length_singleton]; omega),hq,dgs_step (by omega : n.natAbs ≠ 0),List.append_assoc]
theorem spec_itoa' (n : Int) (h1 : -1000000000000000000 ≤ n) (h2 : n ≤ 1000000000000000000) : m_spec_FormatInt n = some (Lib.itoa n) := by
 unfold m_spec_FormatInt Lib.itoa
 by_cases h0 : n = 0
 ·subst h0
  rw [if_neg (by decide),dec_one (by decide)]
  rfl
 ·have e0 : (n == 0) = false := by simpa using h0
  rw [e0,cond_false,fmt_loop 19 n [] (by omega) h1 h2 (by simp),Option.bind_some,List.append_nil]
  unfold dgs
  rw [if_neg (by omega)]
  have hl := dec_len 18 n.natAbs (by omega)
  by_cases hneg : n < 0
  ·rw [decide_eq_true hneg,cond_true,if_pos hneg,grd_pos (by rw [List.length_singleton]; omega)]
   rfl
  ·rw [decide_eq_false hneg,cond_false,if_neg hneg,show n.natAbs = n.toNat by omega]
theorem impl_itoa (n : Int) (h1 : -1000000000000000000 ≤ n) (h2 : n ≤ 1000000000000000000) : m_impl_FormatInt n = some (Lib.itoa n) := by
 unfold m_impl_FormatInt m_strconv_Itoa
 rw [grd_pos (by omega)]
 rfl
def clL (s n : Nat) : List UInt8 := fil s.testBit (fun k => UInt8.ofNat (97 + k)) n
def clF (s : Nat) : List UInt8 := if clL s 5 = [] then [45] else clL s 5
theorem clL_len (s n : Nat) : (clL s n).length ≤ n := fil_length _ _ _
theorem clF_len (s : Nat) : (clF s).length ≤ 5 := by
 unfold clF
 split
 ·simp
 ·exact clL_len s 5
theorem abc_at : ∀ k : Fin 5,(([97,98,99,100,101] : List UInt8).drop k.val).take (k.val + 1 - k.val) = [UInt8.ofNat (97 + k.val)] := by decide
theorem cond_nil (x : List UInt8) : (bif x == [] then some ([45] : List UInt8) else some x) = some (if x = [] then [45] else x) := by
 cases x <;> rfl
theorem spec_fc (s : Nat) (hs : s < 32) : m_spec_FormatCoalition (s : Int) = some (clF s) := by
 unfold m_spec_FormatCoalition
 have hit := iter_up (step := l_spec_FormatCoalition_0 (s : Int)) (fun k => (clL s k,(k : Int))) 5 (a := clL s 5) (fun k hk => by
   have hb := clL_len s k
   unfold l_spec_FormatCoalition_0
   dsimp only
   rw [decide_eq_true (by omega),cond_true,spec_has s k hs hk,Option.bind_some,w64' (by omega) (by omega)]
   have e1 : ((k : Int) + 1).toNat = k + 1 := by omega
   have e2 := abc_at ⟨k,hk⟩
   dsimp only at e2
   have e3 : clL s (k + 1) = if s.testBit k = true then clL s k ++ [UInt8.ofNat (97 + k)] else clL s k := fil_succ _ _ _
   rw [e1,Int.toNat_natCast,e2,e3]
   cases s.testBit k with
   | false => rfl
   | true =>
    rw [cond_true,grd_pos (by simp only [List.length_cons,List.length_nil]; omega),grd_pos (by simp only [List.length_cons,List.length_nil]; omega),if_pos rfl]
    rfl)
  (by unfold l_spec_FormatCoalition_0; dsimp only; rw [decide_eq_false (by omega)]; rfl)
 have e : clL s 0 = [] := rfl
 simp only [Int.natCast_zero,e] at hit
 rw [good_eq s hs,Option.bind_some,Bool.not_true,cond_false,hit,Option.bind_some,cond_nil]
 rfl
theorem fc_map (s : Nat) : (mems s).map (fun m => UInt8.ofNat (97 + m.toNat)) = clL s 5 := by
 unfold mems clL fil
 rw [List.map_map]
 rfl
theorem impl_fc (s : Nat) (hs : s < 32) : m_impl_FormatCoalition (s : Int) = some (clF s) := by
 unfold m_impl_FormatCoalition
 have hml : (mems s).length ≤ 5 := fil_length _ _ _
 have hit := iter_up (step := l_impl_FormatCoalition_0 (mems s)) (fun k => (((mems s).take k).map (fun m => UInt8.ofNat (97 + m.toNat)),(k : Int))) (mems s).length (a := clL s 5) (fun k hk => by
   have hk5 : k < 5 := by omega
   obtain ⟨m,e0,e1,_⟩ := mems_mem (List.getElem_mem hk)
   have eg : (mems s).getD k 0 = (m : Int) := by
    rw [List.getD_eq_getElem?_getD,List.getElem?_eq_getElem hk,Option.getD_some]
    exact e0
   unfold l_impl_FormatCoalition_0
   dsimp only
   have ew : IntKind.i64.wrap ((97 : Int) + (m : Int)) = ((97 + m : Nat) : Int) := by
    rw [w64' (by omega) (by omega)]
    omega
   have hlen : (((mems s).take k).map (fun m => UInt8.ofNat (97 + m.toNat))).length ≤ 5 := by
    rw [List.length_map,List.length_take]
    omega
   rw [decide_eq_true (by omega),cond_true,grd_pos (by omega),Int.toNat_natCast,eg,ew,w8' (by omega) (by omega),grd_pos (by omega),grd_pos (by rw [List.length_singleton]; omega),w64' (by omega) (by omega),List.take_add_one,List.getElem?_eq_getElem hk,e0,List.map_append]
   rfl)
  (by unfold l_impl_FormatCoalition_0; dsimp only; rw [decide_eq_false (by omega),List.take_length,fc_map]; rfl)
 rw [within_eq,decide_eq_true (by omega),Option.bind_some,Bool.not_true,cond_false,impl_members s hs,Option.bind_some]
 simp only [Int.natCast_zero,List.take_zero,List.map_nil] at hit
 rw [hit,Option.bind_some,cond_nil]
 rfl
def lineF (s : Nat) (v : Int) : List UInt8 := ((clF s ++ [32]) ++ Lib.itoa v) ++ [10]
def bodyF (l : List Int) (k : Nat) : List UInt8 := (List.range k).flatMap fun s => if l.getD s 0 = 0 then [] else lineF s (l.getD s 0)
theorem bodyF_succ (l : List Int) (k : Nat) : bodyF l (k + 1) = bodyF l k ++ (if l.getD k 0 = 0 then [] else lineF k (l.getD k 0)) := by
 unfold bodyF
 rw [List.range_succ,List.flatMap_append]
 simp
theorem lineF_len {s : Nat} {v : Int} (h1 : -500 ≤ v) (h2 : v ≤ 500) : (lineF s v).length ≤ 30 := by
 unfold lineF
 have := clF_len s
 have := itoa_len (n := v) (by omega) (by omega)
 simp only [List.length_append,List.length_singleton]
 omega
theorem bodyF_len {l : List Int} (h : ∀ i,-500 ≤ l.getD i 0 ∧ l.getD i 0 ≤ 500) : ∀ k,(bodyF l k).length ≤ 30 * k
 | 0 => by simp [bodyF]
 | k + 1 => by
  have := bodyF_len h k
  rw [bodyF_succ,List.length_append]
  split
  ·rw [List.length_nil]
   omega
  ·have := lineF_len (s := k) (h k).1 (h k).2
   omega
def headF (n : Int) : List UInt8 := ([112,108,97,121,101,114,115,32] ++ Lib.itoa n) ++ [10]
noncomputable def fgF (n : Int) (l : List Int) : List UInt8 := if validB n l = true then headF n ++ bodyF l l.length else []
theorem val_all' {n : Int} {l : List Int} (h : Valid n l) (i : Nat) : -500 ≤ l.getD i 0 ∧ l.getD i 0 ≤ 500 := by
 by_cases hi : i < l.length
 ·exact h.2.2.2 i hi
 ·rw [List.getD_eq_getElem?_getD,List.getElem?_eq_none (by omega)]
  exact ⟨by decide,by decide⟩
theorem spec_fg (n : Int) (l : List Int) (hl : l.length ≤ 1048576) : m_spec_FormatGame n l = some (fgF n l) := by
 unfold m_spec_FormatGame fgF
 rw [spec_valid n l hl]
 cases hv : validB n l with
 | false => rw [if_neg (by simp)]; rfl
 | true =>
  rw [if_pos rfl,Option.bind_some,Bool.not_true,cond_false]
  have hV := (validB_eq n l).1 hv
  obtain ⟨N,rfl,h1,h2,h3,_⟩ := valid_nat hV
  have hall := val_all' hV
  have h32 : l.length ≤ 32 := by
   rw [h3]
   exact Nat.le_trans (Nat.pow_le_pow_right (n := 2) (by decide) h2) (by decide)
  have h2l : 2 ≤ l.length := by
   rw [h3]
   exact Nat.le_trans (by decide) (Nat.pow_le_pow_right (n := 2) (by decide) h1)
  have hz : l.getD 0 0 = 0 := hV.2.2.1
  have hhl : (headF (N : Int)).length ≤ 29 := by
   unfold headF
   have := itoa_len (n := (N : Int)) (by omega) (by omega)
   simp only [List.length_append,List.length_cons,List.length_nil]
   omega
  have hit := iter_up (step := l_spec_FormatGame_0 l) (fun k => (headF (N : Int) ++ bodyF l (k + 1),((k + 1 : Nat) : Int))) (l.length - 1) (a := headF (N : Int) ++ bodyF l l.length) (fun k hk => by
    have hb := bodyF_len hall (k + 1)
    have hv1 := hall (k + 1)
    unfold l_spec_FormatGame_0
    dsimp only
    rw [decide_eq_true (by omega),cond_true,grd_pos (by omega),Int.toNat_natCast,bodyF_succ l (k + 1)]
    by_cases h0 : l.getD (k + 1) 0 = 0
    ·have e0 : (l.getD (k + 1) 0 != 0) = false := by rw [h0]; rfl
     rw [e0,cond_false,if_pos h0,w64' (by omega) (by omega),List.append_nil]
     rfl
    ·have e0 : (l.getD (k + 1) 0 != 0) = true := by simpa using h0
     have hc := clF_len (k + 1)
     have hi := itoa_len (n := l.getD (k + 1) 0) (by omega) (by omega)
     rw [e0,cond_true,if_neg h0,spec_fc (k + 1) (by omega),Option.bind_some,grd_pos (by simp only [List.length_append]; omega),grd_pos (by simp only [List.length_append,List.length_cons,List.length_nil]; omega),grd_pos (by omega),spec_itoa' _ (by omega) (by omega),Option.bind_some,grd_pos (by simp only [List.length_append,List.length_cons,List.length_nil]; omega),grd_pos (by simp only [List.length_append,List.length_cons,List.length_nil]; omega),w64' (by omega) (by omega)]
     unfold lineF
     simp only [List.append_assoc]
     rfl)
   (by
    unfold l_spec_FormatGame_0
    dsimp only
    rw [decide_eq_false (by omega),show l.length - 1 + 1 = l.length by omega]
    rfl)
  have e1 : bodyF l (0 + 1) = [] := by
   rw [bodyF_succ,hz]
   rfl
  have e2 : ((0 + 1 : Nat) : Int) = 1 := rfl
  simp only [e1,e2,List.append_nil] at hit
  rw [spec_itoa' _ (by omega) (by omega),Option.bind_some]
  unfold headF at hhl hit
  simp only [List.length_append,List.length_cons,List.length_nil] at hhl
  rw [grd_pos (by simp only [List.length_cons,List.length_nil]; omega),grd_pos (by simp only [List.length_append,List.length_cons,List.length_nil]; omega),hit]
  rfl
theorem impl_fg (n : Int) (l : List Int) (hl : l.length ≤ 1048576) : m_impl_FormatGame n l = some (fgF n l) := by
 unfold m_impl_FormatGame fgF
 rw [impl_valid n l hl]
 cases hv : validB n l with
 | false => rw [if_neg (by simp)]; rfl
 | true =>
  rw [if_pos rfl,Option.bind_some,Bool.not_true,cond_false]
  have hV := (validB_eq n l).1 hv
  obtain ⟨N,rfl,h1,h2,h3,_⟩ := valid_nat hV
  have hall := val_all' hV
  have h32 : l.length ≤ 32 := by
   rw [h3]
   exact Nat.le_trans (Nat.pow_le_pow_right (n := 2) (by decide) h2) (by decide)
  have hhl : (headF (N : Int)).length ≤ 29 := by
   unfold headF
   have := itoa_len (n := (N : Int)) (by omega) (by omega)
   simp only [List.length_append,List.length_cons,List.length_nil]
   omega
  have hit := iter_up (step := l_impl_FormatGame_0 l) (fun k => (headF (N : Int) ++ bodyF l k,(k : Int))) l.length (a := headF (N : Int) ++ bodyF l l.length) (fun k hk => by
    have hb := bodyF_len hall k
    have hv1 := hall k
    unfold l_impl_FormatGame_0
    dsimp only
    rw [decide_eq_true (by omega),cond_true,grd_pos (by omega),Int.toNat_natCast,bodyF_succ l k]
    by_cases h0 : l.getD k 0 = 0
    ·have e0 : (l.getD k 0 != 0) = false := by rw [h0]; rfl
     rw [e0,cond_false,if_pos h0,w64' (by omega) (by omega),List.append_nil]
     rfl
    ·have e0 : (l.getD k 0 != 0) = true := by simpa using h0
     have hc := clF_len k
     have hi := itoa_len (n := l.getD k 0) (by omega) (by omega)
     rw [e0,cond_true,if_neg h0,impl_fc k (by omega),Option.bind_some,grd_pos (by simp only [List.length_cons,List.length_nil]; omega),impl_itoa _ (by omega) (by omega),Option.bind_some,grd_pos (by simp only [List.length_append,List.length_cons,List.length_nil]; omega),grd_pos (by simp only [List.length_append,List.length_cons,List.length_nil]; omega),grd_pos (by simp only [List.length_append,List.length_cons,List.length_nil]; omega),w64' (by omega) (by omega)]
     unfold lineF
     simp only [List.append_assoc]
     rfl)
   (by
    unfold l_impl_FormatGame_0
    dsimp only
    rw [decide_eq_false (by omega)]
    rfl)
  have e1 : bodyF l 0 = [] := rfl
  simp only [e1,Int.natCast_zero,List.append_nil] at hit
  rw [impl_itoa _ (by omega) (by omega),Option.bind_some]
  unfold headF at hhl hit
  simp only [List.length_append,List.length_cons,List.length_nil] at hhl
  rw [grd_pos (by simp only [List.length_cons,List.length_nil]; omega),grd_pos (by simp only [List.length_append,List.length_cons,List.length_nil]; omega),hit]
  rfl
theorem law_FnExactFormatGame (n : Int) (l : List Int) (_ : I64 n) (hl : l.length ≤ maxLen ∧ ∀ n ∈ l,I64 n) : m_laws_FnExactFormatGame n l = some true := by
 unfold m_laws_FnExactFormatGame
 rw [sz_game n l _ (by decide) (by decide) hl.1]
 by_cases h2 : (1048576 : Int) < l.length
 ·simp [h2]
 ·have h3 : ¬ (1048576 : Int) - (l.length : Int) < 0 := by omega
  have hl' : l.length ≤ 1048576 := by omega
  simp [h2,h3,to_game n l hl',spec_fg n l hl',impl_fg n l hl',eq_game n l n l hl' hl']
end Go.Proofs.YtdaoggmpohnjhaaDoor
