/- The sort as a contract of the abstract machine. No condition: what is proved here holds of every program of the model. -/
import Derived.Test.YtnbkkljhdnkiaaaAmB
import Derived.Shelf.SlSortCmp.NoneTotal
namespace Go.AM
open Classical Go.Sort Go.Proofs Go.Shelf Go.Lib
def okR (q : Q) : Prop := (1 ≤ q.den ∧ q.den ≤ 1000000000) ∧ (-1000000000 ≤ q.num ∧ q.num ≤ 1000000000) ∧ Int.gcd q.num q.den = 1
def cmpR (x y : Q) : Int := if x.num * y.den < y.num * x.den then -1 else if x.num * y.den > y.num * x.den then 1 else 0
noncomputable def sortR (l : List Q) : List Q := l.mergeSort fun x y => !decide (cmpR x y < 0)
theorem cmpR_lt (x y : Q) : cmpR x y < 0 ↔ x.num * y.den < y.num * x.den := by
 unfold cmpR
 split
 ·simp_all
 ·split <;> simp_all
abbrev OkQ := { q : Q // okR q }
instance : Inhabited OkQ := ⟨⟨⟨0,1⟩,by decide,by decide,by decide⟩⟩
def encQ (x : OkQ) : List Value := [.int .i64 x.1.num,.int .i64 x.1.den]
theorem encQ_cells (x : OkQ) : ∀ v ∈ encQ x,v.oneCell' = true := by
 intro u hu
 simp only [encQ,List.mem_cons,List.not_mem_nil,or_false] at hu
 rcases hu with rfl | rfl <;> rfl
def cfQ (x y : OkQ) : Int := cmpR y.1 x.1
theorem ltQ (x y : OkQ) : ltOf cfQ x y = decide (y.1.num * x.1.den < x.1.num * y.1.den) := by
 unfold ltOf cfQ
 exact decide_eq_decide.2 (cmpR_lt _ _)
theorem swoQ : SWO (ltOf cfQ) := by
 refine ⟨fun x => ?_,fun x y z h1 h2 => ?_,fun x y z h1 h2 => ?_⟩
 ·rw [ltQ]
  simp
 ·rw [ltQ] at *
  simp only [decide_eq_true_eq] at *
  have hx := x.2.1.1
  have hy := y.2.1.1
  have hz := z.2.1.1
  have a1 := Int.mul_lt_mul_of_pos_right h1 (show 0 < z.1.den by omega)
  have a2 := Int.mul_lt_mul_of_pos_right h2 (show 0 < x.1.den by omega)
  have e1 : y.1.num * x.1.den * z.1.den = y.1.num * z.1.den * x.1.den := by rw [Int.mul_assoc,Int.mul_comm x.1.den,← Int.mul_assoc]
  rw [e1] at a1
  have a3 := Int.lt_trans a2 a1
  have e2 : z.1.num * y.1.den * x.1.den = z.1.num * x.1.den * y.1.den := by rw [Int.mul_assoc,Int.mul_comm y.1.den,← Int.mul_assoc]
  have e3 : x.1.num * y.1.den * z.1.den = x.1.num * z.1.den * y.1.den := by rw [Int.mul_assoc,Int.mul_comm y.1.den,← Int.mul_assoc]
  rw [e2,e3] at a3
  exact Int.lt_of_mul_lt_mul_right a3 (by omega)
 ·rw [ltQ] at *
  simp only [decide_eq_false_iff_not,Int.not_lt] at *
  have hx := x.2.1.1
  have hy := y.2.1.1
  have hz := z.2.1.1
  have a1 := Int.mul_le_mul_of_nonneg_right h1 (show 0 ≤ z.1.den by omega)
  have a2 := Int.mul_le_mul_of_nonneg_right h2 (show 0 ≤ x.1.den by omega)
  have e1 : y.1.num * x.1.den * z.1.den = y.1.num * z.1.den * x.1.den := by rw [Int.mul_assoc,Int.mul_comm x.1.den,← Int.mul_assoc]
  rw [e1] at a1
  have a3 := Int.le_trans a1 a2
  have e2 : z.1.num * y.1.den * x.1.den = z.1.num * x.1.den * y.1.den := by rw [Int.mul_assoc,Int.mul_comm y.1.den,← Int.mul_assoc]
  have e3 : x.1.num * y.1.den * z.1.den = x.1.num * z.1.den * y.1.den := by rw [Int.mul_assoc,Int.mul_comm y.1.den,← Int.mul_assoc]
  rw [e2,e3] at a3
  exact Int.le_of_mul_le_mul_right a3 (by omega)
theorem copR {a b c : Int} (h : a ∣ b * c) (g : Int.gcd b a = 1) : a ∣ c := by
 have h1 : a.natAbs ∣ b.natAbs * c.natAbs := by
  rw [← Int.natAbs_mul]
  exact Int.natAbs_dvd_natAbs.2 h
 refine Int.natAbs_dvd_natAbs.1 (Nat.Coprime.dvd_of_dvd_mul_left ?_ h1)
 rw [Int.gcd_eq_natAbs_gcd_natAbs,Nat.gcd_comm] at g
 exact g
theorem eqR {x y : Q} (hx : okR x) (hy : okR y) (h : x.num * y.den = y.num * x.den) : x = y := by
 obtain ⟨⟨x1,_⟩,_,x3⟩ := hx
 obtain ⟨⟨y1,_⟩,_,y3⟩ := hy
 have d1 : x.den ∣ y.den := copR (b := x.num) ⟨y.num,by rw [h,Int.mul_comm]⟩ x3
 have d2 : y.den ∣ x.den := copR (b := y.num) ⟨x.num,by rw [← h,Int.mul_comm]⟩ y3
 have l1 := Int.le_of_dvd (by omega) d1
 have l2 := Int.le_of_dvd (by omega) d2
 have e : x.den = y.den := by omega
 rw [e] at h
 have e2 := Int.eq_of_mul_eq_mul_right (by omega) h
 cases x
 cases y
 simp_all
theorem totQ (x y : OkQ) (h1 : ltOf cfQ x y = false) (h2 : ltOf cfQ y x = false) : x = y := by
 rw [ltQ] at *
 simp only [decide_eq_false_iff_not,Int.not_lt] at *
 exact Subtype.ext (eqR x.2 y.2 (by omega))
theorem kept_grow {w w' : World} (h : Kept w (fun _ => False) w') : ∃ q os,w' = grow (w.drewN q) os := by
 refine ⟨w'.drawn - w.drawn,w'.heap.extract w.heap.size w'.heap.size,?_⟩
 obtain ⟨h1,h2,h3,h4,h5,h6⟩ := h
 have hh : w'.heap = w.heap ++ w'.heap.extract w.heap.size w'.heap.size := by
  apply Array.ext_getElem?
  intro i
  by_cases hi : i < w.heap.size
  ·rw [Array.getElem?_append_left hi,h5 i hi id]
  ·rw [Array.getElem?_append_right (by omega),Array.getElem?_extract]
   by_cases hj : i < w'.heap.size
   ·rw [if_pos (by omega),show w.heap.size + (i - w.heap.size) = i by omega]
   ·rw [if_neg (by omega),Array.getElem?_eq_none (by omega)]
 cases w'
 cases w
 simp only [grow,World.drewN] at *
 subst h1 h2 h3
 congr 1
 omega
theorem sorted_heap {w : World} {b m : Nat} {d : Array OkQ} {os : Array Obj} {cur : Array Value} {e : TypeId} (hb : w.heap[b]? = some (.cells cur e (0,0))) :
  (sortWorldK encQ 2 w b 0 m d os).heap[b]? = some (.cells (putCells id 0 (flatK encQ 2 d) cur) e (0,0)) ∧ Kept w (fun x => x = b) (sortWorldK encQ 2 w b 0 m d os) := by
 have hlt := heap_lt hb
 have hs : (putRowK encQ 2 (Sort.ahead w m) b 0 d).heap = w.heap.modify b (onCells (putCells id 0 (flatK encQ 2 d))) := rfl
 have hsz : (putRowK encQ 2 (Sort.ahead w m) b 0 d).heap.size = w.heap.size := by rw [hs]; simp
 have hg : ∀ i,i < w.heap.size → (sortWorldK encQ 2 w b 0 m d os).heap[i]? = (w.heap.modify b (onCells (putCells id 0 (flatK encQ 2 d))))[i]? := fun i hi => by
  show ((putRowK encQ 2 (Sort.ahead w m) b 0 d).heap ++ os)[i]? = _
  rw [Array.getElem?_append_left (by rw [hsz]; exact hi),hs]
 refine ⟨?_,rfl,rfl,rfl,?_,fun i hi hne => ?_,?_⟩
 ·rw [hg b hlt,Array.getElem?_modify,if_pos rfl,hb]
  rfl
 ·show w.heap.size ≤ ((putRowK encQ 2 (Sort.ahead w m) b 0 d).heap ++ os).size
  rw [Array.size_append,hsz]
  omega
 ·rw [hg i hi,Array.getElem?_modify,if_neg fun e => hne e.symm]
 ·show w.drawn ≤ w.drawn + m
  omega
theorem vals_flat (d : Array OkQ) : (Pay.rats (d.toList.map (·.1))).vals = (flatK encQ 2 d).toList := by
 apply List.ext_getElem?
 intro t
 have hl : (Pay.rats (d.toList.map (·.1))).vals.length = d.size * 2 := by rw [rats_length]; simp
 by_cases ht : t < d.size * 2
 ·have h2 : t / 2 < d.size := by omega
  have hfl : (flatK encQ 2 d).toList[t]? = some ((encQ d[t / 2]!)[t % 2]!) := by
   simp [flatK,ht]
  rw [hfl]
  have hr := rats_get (d.toList.map (·.1)) (t / 2) (by simpa using h2)
  have hd : (d.toList.map (·.1)).getD (t / 2) ⟨0,0⟩ = (d[t / 2]!).1 := by
   rw [List.getD_eq_getElem?_getD,List.getElem?_map,Array.getElem?_toList,Array.getElem?_eq_getElem h2,getElem!_pos d _ h2]
   rfl
  rw [hd] at hr
  rcases Nat.mod_two_eq_zero_or_one t with h | h
  ·rw [h,show t = t / 2 * 2 by omega,hr.1,show t / 2 * 2 / 2 = t / 2 by omega]
   rfl
  ·rw [h,show t = t / 2 * 2 + 1 by omega,hr.2,show (t / 2 * 2 + 1) / 2 = t / 2 by omega]
   rfl
 ·rw [List.getElem?_eq_none (by omega),List.getElem?_eq_none (by simp [flatK]; omega)]
theorem put_take (F cur : Array Value) (h : F.size ≤ cur.size) : (putCells id 0 F cur).size = cur.size ∧ (putCells id 0 F cur).toList.take F.size = F.toList := by
 refine ⟨by simp [putCells],?_⟩
 apply List.ext_getElem?
 intro i
 rw [List.getElem?_take]
 by_cases hi : i < F.size
 ·rw [if_pos hi,Array.getElem?_toList,Array.getElem?_toList]
  unfold putCells
  rw [Array.getElem?_mapIdx,Array.getElem?_eq_getElem (show i < cur.size by omega),Array.getElem?_eq_getElem hi,Option.map_some,if_pos ⟨Nat.zero_le _,by omega⟩,Nat.sub_zero,getElem!_pos F i hi]
  rfl
 ·rw [if_neg hi,Array.getElem?_toList,Array.getElem?_eq_none (by omega)]
noncomputable def liftQ (l : List Q) (h : ∀ q ∈ l,okR q) : List OkQ := l.attach.map fun q => ⟨q.1,h q.1 q.2⟩
theorem lift_map (l : List Q) (h : ∀ q ∈ l,okR q) : (liftQ l h).map (·.1) = l := by
 unfold liftQ
 rw [List.map_map]
 exact List.attach_map_subtype_val l
theorem lift_sort (l : List Q) (h : ∀ q ∈ l,okR q) : ((liftQ l h).mergeSort fun x y => !(ltOf cfQ) y x).map (·.1) = sortR l := by
 refine (List.map_mergeSort (r := fun x y => !(ltOf cfQ) y x) (s := fun x y => !decide (cmpR x y < 0)) (f := (·.1)) (fun a _ b _ => rfl)).trans ?_
 rw [lift_map]
 rfl
section
variable {P : Program} {f g : FuncId}
theorem spec_sort {e : TypeId} {l : List Q} (hE : Enters P f) (hlen0 : l.length ≤ 1000000) (hv : ∀ q ∈ l,okR q)
  (h0 : ∀ (p : Option Addr) (cap : Nat) (fv : Value) (w : World),Calls P f #[.slice p 0 cap,fv] w fun e w' => e = .returned (.tuple #[]) ∧ w' = w)
  (hS : ∀ (blk cap : Nat) (d : Array OkQ) (w : World),CmpLays P g #[] encQ 2 cfQ blk 0 d.size w → HoldsK encQ 2 w blk 0 d → blk < w.heap.size → d.size < 4611686018427387904 →
   Calls P f #[.slice (some ⟨blk,0,none⟩) d.size cap,.func (.func g) #[] #[]] w fun e w' => e = .returned (.tuple #[]) ∧ ∃ n os,w' = sortWorldK encQ 2 w blk 0 n (d.toList.mergeSort fun x y => !(ltOf cfQ) y x).toArray os)
  (hC : ∀ x y : Q,okR x → okR y → Spec P g [.agg [.int .i64 x.num,.int .i64 x.den],.agg [.int .i64 y.num,.int .i64 y.den]] [] (.int .i64 (cmpR y x)) []) :
  Spec P f [.sl 2000 0,.func g [] []] [(2000,.arr e 0 0 (.rats l))] (.tuple []) [(2000,.arr e 0 0 (.rats (sortR l)))] := by
 refine ⟨hE,fun w vs L fp hO hA => ?_⟩
 obtain ⟨loc,hL,hdr,inn,rfl,hown⟩ := hO.obj 2000 _ rfl
 -- the arguments
 obtain ⟨v1,v2,hvs⟩ : ∃ v1 v2,vs = #[v1,v2] := by
  have := hA.length
  simp only [List.length_cons,List.length_nil,Array.length_toList] at this
  match vs,this with
  | ⟨[a,b]⟩,_ => exact ⟨a,b,rfl⟩
 subst hvs
 simp only [RelVs,RelV,and_true] at hA
 obtain ⟨h1,x,y,hf,hx,hy⟩ := hA
 obtain ⟨_,ver',rv,sz,szi,hdr',inn',hL',_,hk⟩ := h1
 rw [hL] at hL'
 injection hL' with hL'
 injection hL' with q1 q2 q3 q4 q5 q6
 subst q1 q2 q3 q4 q5 q6
 have hv1 := hk rfl
 subst hv1
 have hx0 : x = #[] := by
  cases x with
  | mk xs => cases xs with
   | nil => rfl
   | cons a b => simp [RelVs] at hx
 have hy0 : y = #[] := by
  cases y with
  | mk xs => cases xs with
   | nil => rfl
   | cons a b => simp [RelVs] at hy
 subst hx0 hy0 hf
 unfold OwnAt at hown
 obtain ⟨hinn,hrow,hfp⟩ := hown
 obtain ⟨hlen,hrow⟩ := hrow
 have same : ∀ r : List Q,r = l → (∃ v L' fp',Ending.returned (Value.tuple #[]) = .returned v ∧ Kept w (Owned [(2000,.arr e 0 0 (.rats l))] fp) w ∧ Owns w [(2000,.arr e 0 0 (.rats r))] L' fp' ∧
   (∀ b,Owned [(2000,.arr e 0 0 (.rats r))] fp' b → Owned [(2000,.arr e 0 0 (.rats l))] fp b ∨ w.heap.size ≤ b) ∧ BoxLe L L' (fun o => (getO [(2000,AObj.arr e 0 0 (.rats l))] o).isSome = true) ∧
   RelV (view w (Owned [(2000,.arr e 0 0 (.rats r))] fp')) L' (.tuple []) v) := by
  rintro r rfl
  exact ⟨_,L,fp,rfl,Kept.refl _ _,hO,fun b hb => .inl hb,fun o x _ hx => ⟨x,hx,LocLe.refl _⟩,by simp [RelV,RelVs]⟩
 rcases hrow with ⟨hh,hn⟩ | ⟨b,cap,cur,hh,_,hb,hc1,hc2,hc3,hc4⟩
 ·have hl : l = [] := List.eq_nil_of_length_eq_zero hn
  subst hh
  rw [show (Value.slice none 0 0) = .slice none 0 0 from rfl]
  refine (h0 none 0 _ w).mono fun e' w' he => ?_
  obtain ⟨rfl,rfl⟩ := he
  exact same _ (by subst hl; simp [sortR])
 ·by_cases hl0 : l = []
  ·subst hl0
   subst hh
   refine (h0 _ cap _ w).mono fun e' w' he => ?_
   obtain ⟨rfl,rfl⟩ := he
   exact same _ (by simp [sortR])
  ·have hblt := heap_lt hb
   let d : Array OkQ := (liftQ l hv).toArray
   have hdl : d.toList.map (·.1) = l := lift_map l hv
   have hdsz : d.size = l.length := by
    have := congrArg List.length hdl
    simpa using this
   have hvals : (Pay.rats l).vals = (flatK encQ 2 d).toList := by rw [← vals_flat d,hdl]
   have hFsz : (flatK encQ 2 d).size = l.length * 2 := by simp [hdsz]
   have hH : HoldsK encQ 2 w b 0 d := by
    intro j hj
    have hj2 : j < l.length * 2 := by rw [← hFsz]; exact hj
    have hcj : cur[j]? = some (flatK encQ 2 d)[j]! := by
     have e1 : (cur.toList.take (l.length * 2))[j]? = (flatK encQ 2 d).toList[j]? := by rw [← hvals]; exact congrArg (·[j]?) hc4
     rw [List.getElem?_take,if_pos hj2,Array.getElem?_toList,Array.getElem?_toList,Array.getElem?_eq_getElem hj] at e1
     rw [e1,getElem!_pos _ j hj]
    constructor
    ·simp only [World.cell?,hb,Nat.zero_add]
     exact hcj
    ·simp [World.frozen?,hb]
   have hcmp : CmpLays P g #[] encQ 2 cfQ b 0 d.size w := by
    intro m os dk _ x y
    obtain ⟨_,hc⟩ := hC x.1 y.1 x.2 y.2
    have hr : RelVs (view (sortWorldK encQ 2 w b 0 m dk os) (Owned [] fun _ => [])) (fun _ => none) [.agg [.int .i64 x.1.num,.int .i64 x.1.den],.agg [.int .i64 y.1.num,.int .i64 y.1.den]] (#[Value.agg (encQ x).toArray,Value.agg (encQ y).toArray] ++ #[]).toList := by
     simp only [Array.append_empty,RelVs,RelV,and_true]
     refine ⟨⟨_,rfl,?_,?_⟩,⟨_,rfl,?_,?_⟩⟩
     ·simp [encQ,RelVs,RelV]
     ·intro u hu
      simp only [encQ,List.mem_cons,List.not_mem_nil,or_false] at hu
      rcases hu with rfl | rfl <;> rfl
     ·simp [encQ,RelVs,RelV]
     ·intro u hu
      simp only [encQ,List.mem_cons,List.not_mem_nil,or_false] at hu
      rcases hu with rfl | rfl <;> rfl
    refine (hc (sortWorldK encQ 2 w b 0 m dk os) _ (fun _ => none) (fun _ => []) ⟨fun o x hx => by simp [getO] at hx,fun o b hx => by simp [getO] at hx,fun o hx => by simp [getO] at hx,fun o o' b hx => by simp [getO] at hx⟩ hr).mono fun e' w' he => ?_
    obtain ⟨v,L',fp',rfl,hkept,_,_,_,hret⟩ := he
    simp only [RelV] at hret
    subst hret
    have hF : Owned ([] : List (Nat × AObj)) (fun _ => []) = fun _ => False := by
     funext b'
     simp [Owned,getO]
    rw [hF] at hkept
    exact ⟨rfl,kept_grow hkept⟩
   have hcall := hS b cap d w hcmp hH hblt (by rw [hdsz]; omega)
   rw [hdsz] at hcall
   rw [hh]
   refine hcall.mono fun e' w' he => ?_
   obtain ⟨rfl,n,os,rfl⟩ := he
   obtain ⟨k1,k2⟩ := sorted_heap (m := n) (d := (d.toList.mergeSort fun x y => !(ltOf cfQ) y x).toArray) (os := os) hb
   have hsl : (sortR l).length = l.length := by unfold sortR; exact List.length_mergeSort _
   have hsd : ((d.toList.mergeSort fun x y => !(ltOf cfQ) y x).toArray).toList.map (·.1) = sortR l := lift_sort l hv
   have hsF : (flatK encQ 2 (d.toList.mergeSort fun x y => !(ltOf cfQ) y x).toArray).size = l.length * 2 := by simp [hdsz]
   have hsv : (Pay.rats (sortR l)).vals = (flatK encQ 2 (d.toList.mergeSort fun x y => !(ltOf cfQ) y x).toArray).toList := by rw [← vals_flat,hsd]
   obtain ⟨t1,t2⟩ := put_take (flatK encQ 2 (d.toList.mergeSort fun x y => !(ltOf cfQ) y x).toArray) cur (by rw [hsF,hc3]; exact Nat.mul_le_mul_right _ hc1)
   rw [hsF] at t2
   have hfb : fp 2000 = [b] := by rw [hfp,hh]; rfl
   have hsome : ∀ (r : List Q) o,(getO [(2000,AObj.arr e 0 0 (.rats r))] o).isSome = true → o = 2000 := fun r o ho => by
    simp only [getO] at ho
    split at ho
    ·rename_i h; exact h.symm
    ·cases ho
   have hown2 : ∀ x,Owned [(2000,.arr e 0 0 (.rats (sortR l)))] fp x → x = b := by
    rintro x ⟨o,ho,hx⟩
    rw [hsome _ o ho,hfb] at hx
    simpa using hx
   have hownb : Owned [(2000,.arr e 0 0 (.rats l))] fp b := ⟨2000,rfl,by rw [hfb]; simp⟩
   refine ⟨_,L,fp,rfl,⟨k2.os,k2.tape,k2.output,k2.size,fun i hi hni => k2.block i hi fun e => hni (e ▸ hownb),k2.drawn⟩,⟨fun o x hx => ?_,fun o x ho hx => ?_,fun o ho => ?_,fun o o' x ho ho' hne _ _ => ?_⟩,fun x hx => .inl (hown2 x hx ▸ hownb),fun o x _ hx => ⟨x,hx,LocLe.refl _⟩,by simp [RelV,RelVs]⟩
   ·have ho := hsome (sortR l) o (by rw [hx]; rfl)
    subst ho
    simp only [getO,if_true,Option.some.injEq] at hx
    subst hx
    refine ⟨_,hL,_,_,rfl,?_⟩
    unfold OwnAt
    refine ⟨hinn,⟨?_,.inr ⟨b,cap,_,by rw [hh]; show Value.slice _ l.length cap = .slice _ (sortR l).length cap; rw [hsl],Nat.zero_le _,k1,?_,hc2,by rw [t1]; exact hc3,?_⟩⟩,hfp⟩
    ·show (Pay.rats (sortR l)).vals.length = (sortR l).length * 2
     exact rats_length _
    ·show (sortR l).length ≤ cap
     rw [hsl]; exact hc1
    ·show List.take ((sortR l).length * 2) _ = _
     rw [hsl,hsv]
     exact t2
   ·have := hsome (sortR l) o ho
    subst this
    rw [hfb] at hx
    simp only [List.mem_singleton] at hx
    subst hx
    exact Nat.lt_of_lt_of_le hblt k2.size
   ·have := hsome (sortR l) o ho
    subst this
    rw [hfb]
    simp
   ·exact hne ((hsome _ o ho).trans (hsome _ o' ho').symm)
end
end Go.AM
