/- The abstract machine: rows and plain facts. No condition: what is proved here holds of every program of the model. -/
import Derived.Test.YtbkpiknmlomjnaaGreatAmB
import Derived.ChangeArms
import Derived.ChangeSlices
import Derived.Below
import Derived.ProofKit
namespace Go.AM
open Classical Go.ChangeShapes
noncomputable def hview (w : World) : View := view w (fun _ => False)
def I64 (n : Int) : Prop := -9223372036854775808 ≤ n ∧ n ≤ 9223372036854775807
theorem I64.of_wf {n : Int} (h : (Lit.int .i64 n).wf = true) : I64 n := by
 simp [Lit.wf,IntKind.min,IntKind.max,IntKind.signed,IntKind.bits] at h
 exact h
theorem list_of {α : Type} {p : Nat → α → Prop} : ∀ (n : Nat),(∀ i,i < n → ∃ x,p i x) → ∃ l : List α,l.length = n ∧ ∀ i x,l[i]? = some x → p i x
 | 0,_ => ⟨[],rfl,fun i x h => by simp at h⟩
 | n + 1,h => by
  obtain ⟨l,h1,h2⟩ := list_of n fun i hi => h i (by omega)
  obtain ⟨x,hx⟩ := h n (by omega)
  refine ⟨l ++ [x],by simp [h1],fun i y hy => ?_⟩
  rw [List.getElem?_append] at hy
  split at hy
  ·exact h2 i y hy
  ·rename_i hi
   have : i - l.length = 0 := by
    have := (List.getElem?_eq_some_iff.1 hy).1
    simp at this
    omega
   rw [this] at hy
   simp at hy
   subst hy
   have hi' : i = n := by omega
   rw [hi']
   exact hx
theorem add_none {a : Addr} (h : a.spot = none) (j : Nat) : a.add j = ⟨a.block,a.off + j,none⟩ := by
 unfold Addr.add
 obtain ⟨b,o,s⟩ := a
 simp only at h
 subst h
 split <;> simp_all
theorem row_of_cells {w : World} {a : Addr} {vals : List Value} (h : ∀ (j : Nat) (u : Value),vals[j]? = some u → w.cell? (a.add j) = some u) : RowAt (hview w) (some a) vals := by
 cases hv : vals with
 | nil => exact .inl rfl
 | cons x r =>
  have h0 := h 0 x (by rw [hv]; rfl)
  have ha : a.add 0 = a := by simp [Addr.add]
  rw [ha] at h0
  unfold World.cell? at h0
  split at h0
  ·rename_i c t fr hb
   split at h0
   ·cases h0
   ·rename_i hs
    have hs' : a.spot = none := by cases hsp : a.spot <;> simp [hsp] at hs ⊢
    refine .inr ⟨a.block,a.off,c,by obtain ⟨b,o,s⟩ := a; simp only at hs'; subst hs'; rfl,?_,fun j u hu => ?_⟩
    ·exact view_of (by simp) hb
    ·have := h j u (by rw [hv]; exact hu)
     rw [add_none hs'] at this
     simpa [World.cell?,hb] using this
  ·cases h0
section
variable {H : Type} {enc : TypeId × Value → H} {P : Program} {w : World} {base : Nat} {spare : Nat → Bool} {held : Bool} {L : Locs} {t e : TypeId} {fuel : Nat} {cs : List Value} {x : DataW H × List MemPlace}
theorem in_slice {α : Type} (p : List Value → α → Prop) (ht : P.underlying t = some (.slice e)) (hel : ∀ (n : Nat) (cs : List Value) (x : DataW H × List MemPlace),DataW.trod enc P w base spare held n e cs = some x → ∃ y,p cs y)
  (h : DataW.trod enc P w base spare held fuel t cs = some x) :
  (cs = [.slice none 0 0]) ∨ ∃ a cap,∃ l : List α,cs = [.slice (some a) l.length cap] ∧ l.length ≤ cap ∧ cap ≤ maxLen ∧ ∀ (i : Nat) (y : α),l[i]? = some y → ∃ vs,w.cells? base (a.add (i * P.cellsOf e)) (P.cellsOf e) = some vs ∧ p vs y := by
 rcases DataW.trod_slice ht h with ⟨rfl,_⟩ | ⟨a,len,cap,elems,rest,n,_,rfl,_,_,hl,hm,hlen,hcell,_⟩
 ·exact .inl rfl
 ·obtain ⟨l,h1,h2⟩ := list_of (p := fun i y => ∃ vs,w.cells? base (a.add (i * P.cellsOf e)) (P.cellsOf e) = some vs ∧ p vs y) len fun i hi => by
   have := hcell i hi
   rw [List.getElem?_eq_getElem (by omega),Option.bind_eq_some_iff] at this
   obtain ⟨vs,h3,h4⟩ := this
   obtain ⟨y,hy⟩ := hel n vs _ h4
   exact ⟨y,vs,h3,hy⟩
  subst h1
  exact .inr ⟨a,cap,l,rfl,hl,hm,h2⟩
theorem add_add (a : Addr) (i j : Nat) : (a.add i).add j = a.add (i + j) := by
 unfold Addr.add
 by_cases h1 : i = 0 <;> by_cases h2 : j = 0 <;> simp [h1,h2]
 omega
theorem in_ints (ht : P.underlying t = some (.slice e)) (he : P.underlying e = some (.int .i64)) (hc : P.cellsOf e = 1) (h : DataW.trod enc P w base spare held fuel t cs = some x) :
  ∃ l : List Int,(∃ v,cs = [v] ∧ RelV (hview w) L (.list (.ints l)) v) ∧ l.length ≤ maxLen ∧ ∀ n ∈ l,I64 n := by
 rcases in_slice (fun cs n => cs = [.int .i64 n] ∧ I64 n) ht (fun n cs x hx => by
   obtain ⟨m,rfl,_,hw⟩ := DataW.trod_int he hx
   exact ⟨m,rfl,I64.of_wf hw⟩) h with rfl | ⟨a,cap,l,rfl,h1,h2,h3⟩
 ·refine ⟨[],⟨_,rfl,?_⟩,by simp,by simp⟩
  simp only [RelV,ListAt,Pay.subs]
  exact ⟨none,0,rfl,Nat.le_refl _,.inl rfl⟩
 ·refine ⟨l,⟨_,rfl,?_⟩,Nat.le_trans h1 h2,fun n hn => ?_⟩
  ·simp only [RelV,ListAt,Pay.subs]
   refine ⟨some a,cap,rfl,h1,row_of_cells fun j u hu => ?_⟩
   simp only [Pay.vals,List.getElem?_map,Option.map_eq_some_iff] at hu
   obtain ⟨n,hn,rfl⟩ := hu
   obtain ⟨vs,h4,rfl,_⟩ := h3 j n hn
   rw [hc,Nat.mul_one] at h4
   exact cell_of_cells?_one h4
  ·obtain ⟨i,hi⟩ := List.getElem?_of_mem hn
   obtain ⟨vs,_,_,h5⟩ := h3 i n hi
   exact h5
theorem in_bytes (ht : P.underlying t = some (.slice e)) (he : P.underlying e = some (.int .u8)) (hc : P.cellsOf e = 1) (h : DataW.trod enc P w base spare held fuel t cs = some x) :
  ∃ l : List UInt8,(∃ v,cs = [v] ∧ RelV (hview w) L (.list (.bytes l)) v) ∧ l.length ≤ maxLen := by
 rcases in_slice (fun cs (n : UInt8) => cs = [.int .u8 n.toNat]) ht (fun n cs x hx => by
   obtain ⟨m,rfl,_,hw⟩ := DataW.trod_int he hx
   have hm : 0 ≤ m ∧ m ≤ 255 := by simpa [Lit.wf,IntKind.min,IntKind.max,IntKind.signed,IntKind.bits] using hw
   refine ⟨UInt8.ofNat m.toNat,?_⟩
   have h1 : m.toNat < 256 := by omega
   simp [UInt8.toNat_ofNat',Nat.mod_eq_of_lt h1]
   omega) h with rfl | ⟨a,cap,l,rfl,h1,h2,h3⟩
 ·refine ⟨[],⟨_,rfl,?_⟩,by simp⟩
  simp only [RelV,ListAt,Pay.subs]
  exact ⟨none,0,rfl,Nat.le_refl _,.inl rfl⟩
 ·refine ⟨l,⟨_,rfl,?_⟩,Nat.le_trans h1 h2⟩
  simp only [RelV,ListAt,Pay.subs]
  refine ⟨some a,cap,rfl,h1,row_of_cells fun j u hu => ?_⟩
  simp only [Pay.vals,List.getElem?_map,Option.map_eq_some_iff] at hu
  obtain ⟨n,hn,rfl⟩ := hu
  obtain ⟨vs,h4,rfl⟩ := h3 j n hn
  rw [hc,Nat.mul_one] at h4
  exact cell_of_cells?_one h4
theorem in_strs (ht : P.underlying t = some (.slice e)) (he : P.underlying e = some .string) (hc : P.cellsOf e = 1) (h : DataW.trod enc P w base spare held fuel t cs = some x) :
  ∃ l : List (List UInt8),(∃ v,cs = [v] ∧ RelV (hview w) L (.list (.strs l)) v) ∧ l.length ≤ maxLen ∧ ∀ s ∈ l,s.length ≤ maxLen := by
 rcases in_slice (fun cs (s : List UInt8) => cs = [.string ⟨s.toArray⟩] ∧ s.length ≤ maxLen) ht (fun n cs x hx => by
   obtain ⟨m,rfl,_,hw⟩ := DataW.trod_string he hx
   exact ⟨m.data.toList,by simp,by simpa using hw⟩) h with rfl | ⟨a,cap,l,rfl,h1,h2,h3⟩
 ·refine ⟨[],⟨_,rfl,?_⟩,by simp,by simp⟩
  simp only [RelV,ListAt,Pay.subs]
  exact ⟨none,0,rfl,Nat.le_refl _,.inl rfl⟩
 ·refine ⟨l,⟨_,rfl,?_⟩,Nat.le_trans h1 h2,fun n hn => ?_⟩
  ·simp only [RelV,ListAt,Pay.subs]
   refine ⟨some a,cap,rfl,h1,row_of_cells fun j u hu => ?_⟩
   simp only [Pay.vals,List.getElem?_map,Option.map_eq_some_iff] at hu
   obtain ⟨n,hn,rfl⟩ := hu
   obtain ⟨vs,h4,rfl,_⟩ := h3 j n hn
   rw [hc,Nat.mul_one] at h4
   exact cell_of_cells?_one h4
  ·obtain ⟨i,hi⟩ := List.getElem?_of_mem hn
   obtain ⟨vs,_,_,h5⟩ := h3 i n hi
   exact h5
theorem in_rats {fs : Array Field} {f g : Field} (ht : P.underlying t = some (.slice e)) (he : P.underlying e = some (.struct fs)) (hfs : fs = #[f,g]) (hf : P.underlying f.type = some (.int .i64)) (hg : P.underlying g.type = some (.int .i64))
  (hfo : f.offset = 0) (hgo : g.offset = 1) (hfc : P.cellsOf f.type = 1) (hgc : P.cellsOf g.type = 1) (hc : P.cellsOf e = 2) (h : DataW.trod enc P w base spare held fuel t cs = some x) :
  ∃ l : List Q,(∃ v,cs = [v] ∧ RelV (hview w) L (.list (.rats l)) v) ∧ l.length ≤ maxLen ∧ ∀ q ∈ l,I64 q.num ∧ I64 q.den := by
 rcases in_slice (fun cs (q : Q) => cs = [.int .i64 q.num,.int .i64 q.den] ∧ I64 q.num ∧ I64 q.den) ht (fun n cs x hx => by
   obtain ⟨xs,m,_,_,hl,hxl,hfld⟩ := DataW.trod_struct he hx
   subst hfs
   rw [hc] at hl
   match cs,hl with
   | [u,v],_ =>
    have h0 := hfld 0 f rfl
    have h1 := hfld 1 g rfl
    simp only [hfo,hgo,hfc,hgc,List.drop_zero,List.take_succ_cons,List.take_zero,List.drop_succ_cons] at h0 h1
    have hx0 : 0 < xs.length := by rw [hxl]; simp
    have hx1 : 1 < xs.length := by rw [hxl]; simp
    rw [List.getElem?_eq_getElem hx0] at h0
    rw [List.getElem?_eq_getElem hx1] at h1
    obtain ⟨a,ha,_,hwa⟩ := DataW.trod_int hf h0
    obtain ⟨b,hb,_,hwb⟩ := DataW.trod_int hg h1
    simp only [List.cons.injEq,and_true] at ha hb
    subst ha hb
    exact ⟨⟨a,b⟩,rfl,I64.of_wf hwa,I64.of_wf hwb⟩) h with rfl | ⟨a,cap,l,rfl,h1,h2,h3⟩
 ·refine ⟨[],⟨_,rfl,?_⟩,by simp,by simp⟩
  simp only [RelV,ListAt,Pay.subs]
  exact ⟨none,0,rfl,Nat.le_refl _,.inl rfl⟩
 ·refine ⟨l,⟨_,rfl,?_⟩,Nat.le_trans h1 h2,fun n hn => ?_⟩
  ·simp only [RelV,ListAt,Pay.subs]
   refine ⟨some a,cap,rfl,h1,row_of_cells fun j u hu => ?_⟩
   have hj : j < l.length * 2 := by rw [← rats_length]; exact (List.getElem?_eq_some_iff.1 hu).1
   have hq : l[j / 2]? = some (l.getD (j / 2) ⟨0,0⟩) := by
    rw [List.getElem?_eq_getElem (by omega)]
    simp [List.getD,List.getElem?_eq_getElem (show j / 2 < l.length by omega)]
   obtain ⟨vs,h4,rfl,_⟩ := h3 _ _ hq
   rw [hc] at h4
   have hcell := (World.cells?_some h4).2.2
   obtain ⟨g1,g2⟩ := rats_get l (j / 2) (by omega)
   have hj2 : j % 2 = 0 ∨ j % 2 = 1 := by omega
   rcases hj2 with hm | hm
   ·have e1 : j / 2 * 2 = j := by omega
    have := hcell 0 (by omega)
    rw [add_add,Nat.add_zero,e1] at this
    rw [e1] at g1
    rw [this,List.getElem?_cons_zero]
    rw [hu] at g1
    exact g1.symm
   ·have e1 : j / 2 * 2 + 1 = j := by omega
    have := hcell 1 (by omega)
    rw [add_add,e1] at this
    rw [e1] at g2
    rw [this]
    simp only [List.getElem?_cons_succ,List.getElem?_cons_zero]
    rw [hu] at g2
    exact g2.symm
  ·obtain ⟨i,hi⟩ := List.getElem?_of_mem hn
   obtain ⟨vs,_,_,h5⟩ := h3 i n hi
   exact h5
theorem in_rows {α : Type} {mk : List α → Pay} {mk2 : List (List α) → Pay} {ok : α → Prop} (hmk : ∀ l,(mk l).subs = none) (hlen : ∀ l,(mk2 l).len = l.length) (hsub : ∀ l,(mk2 l).subs = some (l.map mk))
  (ht : P.underlying t = some (.slice e)) (hc : P.cellsOf e = 1)
  (hel : ∀ (n : Nat) (cs : List Value) (x : DataW H × List MemPlace),DataW.trod enc P w base spare held n e cs = some x → ∃ l : List α,(∃ v,cs = [v] ∧ RelV (hview w) L (.list (mk l)) v) ∧ l.length ≤ maxLen ∧ ∀ y ∈ l,ok y)
  (h : DataW.trod enc P w base spare held fuel t cs = some x) :
  ∃ l : List (List α),(∃ v,cs = [v] ∧ RelV (hview w) L (.list (mk2 l)) v) ∧ l.length ≤ maxLen ∧ ∀ r ∈ l,r.length ≤ maxLen ∧ ∀ y ∈ r,ok y := by
 rcases in_slice (fun cs (l : List α) => (∃ v,cs = [v] ∧ RelV (hview w) L (.list (mk l)) v) ∧ l.length ≤ maxLen ∧ ∀ y ∈ l,ok y) ht hel h with rfl | ⟨a,cap,l,rfl,h1,h2,h3⟩
 ·refine ⟨[],⟨_,rfl,?_⟩,by simp,by simp⟩
  simp only [RelV,ListAt,hsub]
  exact ⟨none,0,[],by rw [hlen]; rfl,by rw [hlen]; exact Nat.le_refl _,.inl rfl,by rw [hlen]; rfl,fun j q u hq => by simp at hq⟩
 ·refine ⟨l,⟨_,rfl,?_⟩,Nat.le_trans h1 h2,fun r hr => ?_⟩
  ·have each : ∀ i,i < l.length → ∃ v,w.cell? (a.add i) = some v ∧ RelV (hview w) L (.list (mk (l.getD i []))) v := fun i hi => by
    have hq : l[i]? = some (l.getD i []) := by
     rw [List.getElem?_eq_getElem hi]
     simp [List.getD,List.getElem?_eq_getElem hi]
    obtain ⟨vs,h4,⟨v,rfl,h5⟩,_⟩ := h3 i _ hq
    rw [hc,Nat.mul_one] at h4
    exact ⟨v,cell_of_cells?_one h4,h5⟩
   obtain ⟨vs,v1,v2⟩ := list_of (p := fun i v => w.cell? (a.add i) = some v ∧ RelV (hview w) L (.list (mk (l.getD i []))) v) l.length each
   simp only [RelV,ListAt,hsub]
   refine ⟨some a,cap,vs,by rw [hlen],by rw [hlen]; exact h1,row_of_cells fun j u hu => (v2 j u hu).1,by rw [hlen]; exact v1,fun j q u hq hu => ?_⟩
   simp only [List.getElem?_map,Option.map_eq_some_iff] at hq
   obtain ⟨r,hr,rfl⟩ := hq
   have := (v2 j u hu).2
   have hd : l.getD j [] = r := by simp [List.getD,hr]
   rw [hd] at this
   simpa only [RelV,ListAt,hmk] using this
  ·obtain ⟨i,hi⟩ := List.getElem?_of_mem hr
   obtain ⟨vs,_,_,h5⟩ := h3 i r hi
   exact h5
end
theorem calls_of_spec {P : Program} {f : FuncId} {args : List AV} {b : Bool} {w : World} {vs : Array Value} (h : Spec P f args [] (.bool b) []) (htab : TabAt P w fun _ => False) (ha : RelVs (hview w) (fun _ => none) args vs.toList) :
  Calls P f vs w fun e w' => e = .returned (.bool b) ∧ Kept w (fun _ => False) w' := by
 have hown : ∀ fp,Owned [] fp = fun _ => False := fun fp => by
  funext b
  simp [Owned,getO]
 refine (h.2 w vs (fun _ => none) (fun _ => []) (by rw [hown]; exact htab) ⟨fun o x hx => by simp [getO] at hx,fun o b ho => by simp [getO] at ho,fun o ho => by simp [getO] at ho,fun o o' b ho => by simp [getO] at ho⟩ (by rw [hown]; exact ha)).mono fun e w' he => ?_
 obtain ⟨v,L',fp',rfl,h1,_,_,_,h2⟩ := he
 simp only [RelV] at h2
 rw [hown] at h1
 exact ⟨by rw [h2],h1⟩
theorem Kept.below {w w' : World} (h : Kept w (fun _ => False) w') : Go.RowKit.Below w.heap.size w w' := ⟨h.os,h.tape,h.output,h.size,fun k hk => h.block k hk id⟩
end Go.AM
namespace Go.AM
open Go.RowKit Go.WideShapes Go.ChangeShapes
section
variable {H : Type} {enc : TypeId × Value → H} {P : Program}
theorem post_of_below {f : Func} {s : ChangeSpec} {apart fresh handsOn again : Bool} {W W' : World} {args : Array Value} {v : Value} {ds gs : List (DataW H)} {before pa pv : List MemPlace}
  (hW : DataW.Whole enc P f.params.toList s.vars apart W args.toList ds gs before)
  (hres : ∀ (b : Nat) (sp : Nat → Bool) (hd : Bool),DataW.TrodAll enc P W' b sp hd f.resultTypes.toList (v.resultList f.resultTypes.size) (s.fn H (ds ++ gs)).results [])
  (hargs : ∀ sp : Nat → Bool,(∀ p ∈ before,sp p.block = true) → DataW.TrodAll enc P W' 0 sp true f.params.toList args.toList (s.fn H (ds ++ gs)).args pa)
  (hvars : ∀ sp : Nat → Bool,(∀ p ∈ before,sp p.block = true) → DataW.TrodVars enc P W' sp s.vars (s.fn H (ds ++ gs)).vars pv)
  (hps : before = pa ++ pv) (hb : Below W.heap.size W W')
  (hok : ∀ (j : Nat) (t : TypeId) (r : Value),f.resultTypes[j]? = some t → (v.resultList f.resultTypes.size)[j]? = some r → Value.okWide P W' .any 0 t r) :
  s.post enc P f apart fresh handsOn again W args v W' := by
 have hlt : ∀ p ∈ before,p.block < W.heap.size := fun p hp => hW.lt p hp
 have hold : ∀ p ∈ before,(fun b => decide (b < W.heap.size)) p.block = true := fun p hp => by simpa using hlt p hp
 refine ⟨ds,gs,before,[],pa,pv,hW,hres _ _ _,hargs _ hold,hvars _ hold,World.keptBut_mono (fun p hp => ⟨hp,?_⟩) (hb.frame (· ∈ before)),fun _ => ?_⟩
 ·rw [hps,List.mem_append] at hp
  exact Or.inr hp
 ·obtain ⟨_,_,_,_,_,hz,hn⟩ := hW
  refine ⟨hok,_,_,([] ++ pa) ++ pv,⟨[] ++ pa,pv,trodAll_append (hargs _ (fun _ _ => rfl)) (hres _ _ _),hvars _ (fun _ _ => rfl),rfl,?_,?_⟩,?_⟩
  ·intro b off hp
   have hin : MemPlace.cell b off ∈ before := by rw [hps]; simpa using hp
   rw [hb.frozen (hlt _ hin)]
   exact hz b off hin
  ·intro ha
   have := hn ha
   rw [hps] at this
   simpa using this
  ·intro p hp _
   rw [hps]
   simpa using hp
theorem trodAll_back (hl : laidOutB P = true) {W W' : World} (hb : Below W.heap.size W W') {sp : Nat → Bool} : ∀ {ts : List TypeId} {vs : List Value} {ds : List (DataW H)} {p : List MemPlace},
  ts.all (fun t => P.readableRec t && decide (t < P.types.size)) = true → DataW.TrodAll enc P W 0 (fun _ => true) true ts vs ds p → (∀ x ∈ p,x.block < W.heap.size) → (∀ x ∈ p,sp x.block = true) → DataW.TrodAll enc P W' 0 sp true ts vs ds p
 | [],[],[],p,_,h,_,_ => h
 | t :: ts,v :: vs,d :: ds,p,hr,h,hlt,hs => by
  obtain ⟨p1,q1,h1,h2,rfl⟩ := h
  simp only [List.all_cons,Bool.and_eq_true,decide_eq_true_eq] at hr
  refine ⟨p1,q1,WideElems.Trod_stays hl hr.1.1 hr.1.2 h1 (fun x hx => hb.same (hlt x (by simp [hx]))) (fun x hx => hs x (by simp [hx])),trodAll_back hl hb hr.2 h2 (fun x hx => hlt x (by simp [hx])) (fun x hx => hs x (by simp [hx])),rfl⟩
 | [],_ :: _,_,_,_,h,_,_ => by cases ‹List (DataW H)› <;> exact h.elim
 | [],[],_ :: _,_,_,h,_,_ => h.elim
 | _ :: _,[],_,_,_,h,_,_ => by cases ‹List (DataW H)› <;> exact h.elim
 | _ :: _,_ :: _,[],_,_,h,_,_ => h.elim
theorem trodAll_len {W : World} {b : Nat} {sp : Nat → Bool} {hd : Bool} : ∀ {ts : List TypeId} {vs : List Value} {ds : List (DataW H)} {p : List MemPlace},DataW.TrodAll enc P W b sp hd ts vs ds p → ds.length = ts.length
 | [],[],[],p,_ => rfl
 | t :: ts,v :: vs,d :: ds,p,h => by
  obtain ⟨p1,q1,h1,h2,rfl⟩ := h
  simp [trodAll_len h2]
 | [],_ :: _,ds,_,h => by cases ds <;> exact h.elim
 | [],[],_ :: _,_,h => h.elim
 | _ :: _,[],ds,_,h => by cases ds <;> exact h.elim
 | _ :: _,_ :: _,[],_,h => h.elim
theorem law_contract {f : FuncId} {fn : Func} {s : ChangeSpec} {tb : TypeId} (hvars : s.vars = []) (hres : fn.resultTypes = #[tb]) (htb : P.underlying tb = some .bool) (hl : laidOutB P = true)
  (hro : fn.params.toList.all (fun t => P.readableRec t && decide (t < P.types.size)) = true)
  (hfn : ∀ ds : List (DataW H),ds.length = fn.params.toList.length → s.fn H ds = { results := [.lit (.bool true)],args := ds })
  {W : World} {args : Array Value} {ds gs : List (DataW H)} {before : List MemPlace}
  (hW : DataW.Whole enc P fn.params.toList s.vars false W args.toList ds gs before)
  (htab : TabAt P W fun _ => False)
  (hlaw : ∀ p,DataW.TrodAll enc P W 0 (fun _ => true) true fn.params.toList args.toList ds p → ∃ as,Spec P f as [] (.bool true) [] ∧ RelVs (hview W) (fun _ => none) as args.toList) :
  Calls P f args W fun e W' => ∃ v,e = .returned v ∧ s.post enc P fn false true false false W args v W' := by
 have hW' := hW
 obtain ⟨p,q,hA,hV,rfl,hfz,hnd⟩ := hW
 rw [hvars] at hV
 obtain ⟨rfl,rfl⟩ := trodVars_none hV
 simp only [List.append_nil] at hW'
 obtain ⟨as,hsp,hrel⟩ := hlaw p hA
 have hf := hfn ds (trodAll_len hA)
 refine (calls_of_spec hsp htab hrel).mono fun e W' ⟨he,hk⟩ => ?_
 subst he
 have hb := hk.below
 refine ⟨_,rfl,post_of_below (pa := p) (pv := []) hW' (fun _ _ _ => ?_) (fun sp hs => ?_) (fun _ _ => ?_) (by simp) hb (ok_one hres rfl (okWide_bool_mk htb true))⟩
 ·rw [hres,List.append_nil,hf]
  exact trodAll_mk1 (shut_bool htb true)
 ·rw [List.append_nil,hf]
  exact trodAll_back hl hb hro hA (fun x hx => hW'.lt x hx) hs
 ·rw [hvars,List.append_nil,hf]
  rfl
end
theorem agg_rel {P : Program} {W : World} {base : Nat} {t : TypeId} {v : Value} {R : View} {L : Locs} {as : List AV} {fs : Array Field} (ht : P.underlying t = some (.struct fs)) (h : Value.okWide P W .any base t v) (hr : RelVs R L as v.cells.toList) : RelV R L (.agg as) v := by
 unfold Value.okWide at h
 rw [ht] at h
 obtain ⟨cs,rfl,_,ts,_,_,hc⟩ := h
 simp only [RelV]
 refine ⟨cs,rfl,hr,fun u hu => ?_⟩
 obtain ⟨i,hi⟩ := List.getElem?_of_mem hu
 obtain ⟨x,_,hx⟩ := hc i u (by simpa using hi)
 unfold Cell.okWide at hx
 cases u <;> first | rfl | skip
 all_goals (exfalso; revert hx; split <;> simp_all [Cell.ok]; try (split <;> simp_all))
theorem one_rel {P : Program} {W : World} {base : Nat} {t : TypeId} {v : Value} {R : View} {L : Locs} {a : AV} {d : TypeDesc} (ht : P.underlying t = some d) (hd : (match d with
  | .struct _ => false
  | .array _ _ => false
  | _ => true) = true) (h : Value.okWide P W .any base t v) (hr : RelVs R L [a] v.cells.toList) : RelV R L a v := by
 have h1 : v.oneCell' = true := by
  unfold Value.okWide at h
  rw [ht] at h
  cases v <;> first | rfl | skip
  all_goals (exfalso; revert h; cases d <;> simp_all [Cell.okWide,Cell.ok])
 rw [size_one h1] at hr
 simpa only [RelVs,and_true] using hr
end Go.AM
namespace Go.AM
open Classical
theorem iter_up {S A : Type} {step : S → Option (S ⊕ A)} (st : Nat → S) (n : Nat) {a : A} (hs : ∀ i,i < n → step (st i) = some (.inl (st (i + 1)))) (hd : step (st n) = some (.inr a)) : iter step (st 0) = some a := by
 have key : ∀ k,k ≤ n → iter step (st (n - k)) = some a := by
  intro k
  induction k with
  | zero => intro _; simpa using iter_done hd
  | succ k ih =>
   intro hk
   have h1 := hs (n - (k + 1)) (by omega)
   rw [iter_next h1,show n - (k + 1) + 1 = n - k by omega]
   exact ih (by omega)
 have := key n (Nat.le_refl _)
 simpa using this
theorem iter_all {S A : Type} {step : S → Option (S ⊕ A)} (st : Nat → S) (n : Nat) (p : Nat → Bool) {a b : A} (hs : ∀ i,i < n → p i = true → step (st i) = some (.inl (st (i + 1)))) (hb : ∀ i,i < n → p i = false → step (st i) = some (.inr b))
  (hd : step (st n) = some (.inr a)) : iter step (st 0) = some (if ∀ i,i < n → p i = true then a else b) := by
 have key : ∀ k,k ≤ n → iter step (st (n - k)) = some (if ∀ i,n - k ≤ i → i < n → p i = true then a else b) := by
  intro k
  induction k with
  | zero =>
   intro _
   rw [if_pos (fun i h1 h2 => by omega)]
   simpa using iter_done hd
  | succ k ih =>
   intro hk
   cases hp : p (n - (k + 1)) with
   | true =>
    rw [iter_next (hs _ (by omega) hp),show n - (k + 1) + 1 = n - k by omega,ih (by omega)]
    congr 1
    by_cases hall : ∀ i,n - k ≤ i → i < n → p i = true
    ·rw [if_pos hall,if_pos fun i h1 h2 => by
      by_cases e : i = n - (k + 1)
      ·rw [e]; exact hp
      ·exact hall i (by omega) h2]
    ·rw [if_neg hall,if_neg fun h => hall fun i h1 h2 => h i (by omega) h2]
   | false =>
    rw [iter_done (hb _ (by omega) hp),if_neg fun h => by
     have := h (n - (k + 1)) (Nat.le_refl _) (by omega)
     rw [hp] at this
     cases this]
 have := key n (Nat.le_refl _)
 simpa using this
theorem iter_first {S A : Type} {step : S → Option (S ⊕ A)} (st : Nat → S) (n : Nat) (p : Nat → Bool) {a : A} (b : Nat → A) (hs : ∀ i,i < n → p i = true → step (st i) = some (.inl (st (i + 1)))) (hb : ∀ i,i < n → p i = false → step (st i) = some (.inr (b i)))
  (hd : step (st n) = some (.inr a)) : ((∀ i,i < n → p i = true) ∧ iter step (st 0) = some a) ∨ ∃ i,i < n ∧ p i = false ∧ iter step (st 0) = some (b i) := by
 have key : ∀ k,k ≤ n → ((∀ i,n - k ≤ i → i < n → p i = true) ∧ iter step (st (n - k)) = some a) ∨ ∃ i,i < n ∧ p i = false ∧ iter step (st (n - k)) = some (b i) := by
  intro k
  induction k with
  | zero =>
   intro _
   exact .inl ⟨fun i h1 h2 => by omega,by simpa using iter_done hd⟩
  | succ k ih =>
   intro hk
   cases hp : p (n - (k + 1)) with
   | true =>
    rw [iter_next (hs _ (by omega) hp),show n - (k + 1) + 1 = n - k by omega]
    rcases ih (by omega) with ⟨h1,h2⟩ | h1
    ·refine .inl ⟨fun i h3 h4 => ?_,h2⟩
     by_cases e : i = n - (k + 1)
     ·rw [e]; exact hp
     ·exact h1 i (by omega) h4
    ·exact .inr h1
   | false => exact .inr ⟨_,by omega,hp,iter_done (hb _ (by omega) hp)⟩
 have := key n (Nat.le_refl _)
 simpa using this
theorem w64 {n : Int} (h : I64 n) : IntKind.i64.wrap n = n := by
 unfold I64 at h
 rw [IntKind.wrap_i64]
 omega
theorem w64' {n : Int} (h1 : -9223372036854775808 ≤ n) (h2 : n ≤ 9223372036854775807) : IntKind.i64.wrap n = n := w64 ⟨h1,h2⟩
theorem set_copy {α : Type} (l : List α) (z d : α) (i : Nat) (h : i < l.length) : (l.take i ++ List.replicate (l.length - i) z).set i (l.getD i d) = l.take (i + 1) ++ List.replicate (l.length - (i + 1)) z := by
 apply List.ext_getElem?
 intro j
 have hd : l.getD i d = l[i] := by simp [List.getD,List.getElem?_eq_getElem h]
 rw [hd,List.getElem?_set]
 by_cases hj : i = j
 ·subst hj
  rw [if_pos rfl,if_pos (by simp; omega),List.getElem?_append_left (by simp; omega),List.getElem?_take,if_pos (by omega),List.getElem?_eq_getElem h]
 ·rw [if_neg hj]
  by_cases hlt : j < i
  ·rw [List.getElem?_append_left (by simp; omega),List.getElem?_append_left (by simp; omega),List.getElem?_take,List.getElem?_take,if_pos hlt,if_pos (by omega)]
  ·rw [List.getElem?_append_right (by simp; omega),List.getElem?_append_right (by simp; omega)]
   simp only [List.length_take,List.getElem?_replicate]
   have e1 : min i l.length = i := by omega
   have e2 : min (i + 1) l.length = i + 1 := by omega
   rw [e1,e2]
   by_cases hjl : j < l.length
   ·rw [if_pos (by omega),if_pos (by omega)]
   ·rw [if_neg (by omega),if_neg (by omega)]
theorem grd_neg {α : Type} {p : Prop} {m : Option α} (h : ¬ p) : grd p m = none := if_neg h
theorem eq_of_all {α : Type} [DecidableEq α] {a b : List α} (d : α) (hl : a.length = b.length) (h : ∀ i,i < a.length → a.getD i d = b.getD i d) : a = b := by
 apply List.ext_getElem hl
 intro i h1 h2
 have := h i h1
 simpa [List.getD,List.getElem?_eq_getElem h1,List.getElem?_eq_getElem h2] using this
end Go.AM
