/- The abstract machine: calls, regions, loops, contracts. No condition: what is proved here holds of every program of the model. -/
import Derived.Test.YtbkpiknmlomjnaaGreatAmA
import Derived.Orders
namespace Go.AM
theorem ownAt_list {w : World} {R : View} {e : TypeId} {p : Pay} {hdr : Value} {inn : List Value} {f : List Nat} (h : OwnAt w e p hdr inn f)
  (hR : ∀ b,b ∈ f → ∀ (c : Array Value) (t : TypeId) (fr : Nat × Nat),w.heap[b]? = some (.cells c t fr) → R b = some c) : ListAt R p hdr := by
 unfold OwnAt at h
 unfold ListAt
 split
 ·rename_i hs
  rw [hs] at h
  obtain ⟨_,h2,h3⟩ := h
  obtain ⟨A,c,h4,h5,h6⟩ := row_at h2 (R := R) (fun b hb => hR b (by rw [h3,hb]; simp))
  exact ⟨A,c,h4,h5,h6⟩
 ·rename_i ps hs
  rw [hs] at h
  obtain ⟨h1,h2,fps,h3,h4,h5⟩ := h
  obtain ⟨A,c,k1,k2,k3⟩ := row_at h1 (R := R) (fun b hb => hR b (by rw [h5,hb]; simp))
  refine ⟨A,c,inn,k1,k2,k3,by rw [h2,(subs_get hs).1],fun j q u hq hu => ?_⟩
  have hj : j < ps.length := (List.getElem?_eq_some_iff.1 hq).1
  have hg : fps[j]? = some fps[j] := List.getElem?_eq_getElem (by omega)
  obtain ⟨⟨e',h6⟩,h7⟩ := h4 j q u _ hq hu hg
  obtain ⟨A',c',m1,m2,m3⟩ := row_at h6 (R := R) (fun b hb => hR b (by
   rw [h5]
   exact List.mem_append_right _ (List.mem_flatten.2 ⟨_,List.mem_of_getElem? hg,by rw [h7,hb]; simp⟩)))
  exact ⟨A',c',m1,m2,m3⟩
section
variable {P : Program} {T : TEnv} {w0 : World} {F0 : Nat → Prop} {L0 : Locs} {nt : Nat} {σ : ASt} {a : Act} {w : World} {L : Locs} {fp : Nat → List Nat}
variable {ob : List (Nat × AObj)} {io : List Nat}
theorem seen1_rel {R : View} {v : AV} {u : Value} (h : Owns w ob L fp) (hR : ViewLe (view w (Owned ob fp)) R)
  (hRo : ∀ o x b,io.contains o = false → getO ob o = some x → b ∈ fp o → ∀ (c : Array Value) (t : TypeId) (fr : Nat × Nat),w.heap[b]? = some (.cells c t fr) → R b = some c)
  (hv : RelV (view w (Owned ob fp)) L v u) : RelV R L (seen1 io ob v) u := by
 have hm : ∀ a : AV,RelV (view w (Owned ob fp)) L a u → RelV R L a u := fun a ha => ha.mono hR _ _ (LocsLe.refl _ _)
 cases v with
 | nil p =>
  simp only [RelV] at hv
  simp only [seen1,RelV]
  obtain ⟨rfl,h0⟩ := hv
  unfold ListAt
  split
  ·rename_i hs
   refine ⟨none,0,by rw [h0],by omega,.inl (List.eq_nil_of_length_eq_zero (by rw [vals_length hs,h0,Nat.zero_mul]))⟩
  ·rename_i ps hs
   have := (subs_get hs).1
   exact ⟨none,0,[],by rw [h0],by omega,.inl rfl,by simp [h0],fun j q u _ hu => by simp at hu⟩
 | sl o ver =>
  simp only [seen1]
  split
  ·exact hm _ hv
  ·rename_i hio
   split
   ·rename_i p hp
    obtain ⟨e,rv,hg⟩ := payOf_sl hp
    simp only [RelV] at hv ⊢
    obtain ⟨hdr,inn,_,h1,h2⟩ := arr_get h hg hv
    subst h1
    exact ownAt_list h2 fun b hb => hRo o _ b hio hg hb
   ·split
    ·rename_i p hp
     obtain ⟨rv,kk,hg⟩ := looseOf_some hp
     simp only [RelV] at hv ⊢
     obtain ⟨hdr,inn,_,h1,h2⟩ := hol_get h hg hv
     subst h1
     rcases h2 with ⟨h2,_⟩ | ⟨_,h2⟩
     ·exact absurd rfl h2
     ·refine h2.mono fun b c hb => ?_
      obtain ⟨hm,t,fr,hh⟩ := inB_some hb
      exact hRo o _ b hio hg hm c t fr hh
    ·simp [RelV]
 | slp o ver off len =>
  simp only [seen1]
  split
  ·exact hm _ hv
  ·rename_i hio
   split
   ·rename_i q hq
    obtain ⟨e,rv,p,hg,hpd,rfl⟩ := payOf_slp hq
    simp only [RelV] at hv ⊢
    obtain ⟨hdr,inn,_,h1,h2⟩ := arr_get h hg hv
    have hps := subs_flat.1 hpd
    have hl := ownAt_list (R := R) h2 fun b hb => hRo o _ b hio hg hb
    unfold ListAt at hl ⊢
    rw [hps] at hl
    have hq2 := (subs_take (subs_drop hpd off).2.2 len).1
    rw [hq2]
    obtain ⟨A,c,k1,k2,k3⟩ := hl
    obtain ⟨A1,n1,c1,A',c',s1,s2,s3,s4,s5,_⟩ := h1
    rw [s1] at k1
    injection k1 with e1 e2 e3
    subst e1 e2 e3
    have hlen : ((p.drop off).take len).len = len := by rw [len_take,len_drop]; omega
    have hval : ((p.drop off).take len).vals = (p.vals.drop (off * p.size)).take (len * p.size) := by
     rw [vals_take (subs_drop hpd off).1,vals_drop hps,(subs_drop hpd off).2.1]
    refine ⟨A',c',by rw [s3,hlen],by rw [hlen]; exact s4,?_⟩
    by_cases h0 : 0 < len
    ·obtain ⟨b,o0,e1,e2⟩ := s5 h0
     rw [e1] at k3
     rw [e2,hval]
     exact k3.sub fun j u hu => drop_take_get hu
    ·have : len = 0 := by omega
     subst this
     exact .inl (by rw [hval]; simp)
   ·simp [RelV]
 | sub o ver rv k =>
  simp only [seen1]
  split
  ·exact hm _ hv
  ·rename_i hio
   split
   ·rename_i q hq
    obtain ⟨e,p,hg,hdeep,rfl⟩ := payOf_sub hq
    simp only [RelV] at hv ⊢
    obtain ⟨hdr,inn,_,h1,h2⟩ := arr_get h hg hv
    have hin := h1.2 rfl
    obtain ⟨ps,hps⟩ := subs_deep.1 hdeep
    unfold OwnAt at h2
    rw [hps] at h2
    obtain ⟨_,hlen,fps,hfl,h3,hf⟩ := h2
    have hk : k < inn.length := (List.getElem?_eq_some_iff.1 hin).1
    have hk' : k < p.len := by rw [← (subs_get hps).1,← hlen]; exact hk
    have hgk : fps[k]? = some fps[k] := List.getElem?_eq_getElem (by omega)
    obtain ⟨⟨e',h4⟩,h5⟩ := h3 k _ _ _ ((subs_get hps).2 k hk') hin hgk
    obtain ⟨A,c,k1,k2,k3⟩ := row_at h4 (R := R) (fun b hb => hRo o _ b hio hg (by
     rw [hf]
     exact List.mem_append_right _ (List.mem_flatten.2 ⟨_,List.mem_of_getElem? hgk,by rw [h5,hb]; simp⟩)))
    unfold ListAt
    rw [(sub_flat hdeep k).1]
    exact ⟨A,c,k1,k2,k3⟩
   ·simp [RelV]
 | ptr o i =>
  simp only [seen1]
  split
  ·exact hm _ hv
  ·simp [RelV]
 | blit b => simpa only [seen1,RelV] using hv
 | eptr => simp [seen1,RelV]
 | selt => simp [seen1,RelV]
 | subp => simp [seen1,RelV]
 | agg => simp [seen1,RelV]
 | tuple => simp [seen1,RelV]
 | func => simp [seen1,RelV]
 | lst x p =>
  simp only [RelV] at hv
  simp only [seen1,RelV]
  exact hv.2.mono hR
 | _ => exact hm _ hv
theorem seen1s_rel {R : View} (h : Owns w ob L fp) (hR : ViewLe (view w (Owned ob fp)) R)
  (hRo : ∀ o x b,io.contains o = false → getO ob o = some x → b ∈ fp o → ∀ (c : Array Value) (t : TypeId) (fr : Nat × Nat),w.heap[b]? = some (.cells c t fr) → R b = some c)
  {cs : List AV} {us : List Value} (hv : RelVs (view w (Owned ob fp)) L cs us) : RelVs R L (cs.map (seen1 io ob)) us :=
 RelVs.of_get (by simp [hv.length]) fun i x y hx hy => by
  simp only [List.getElem?_map,Option.map_eq_some_iff] at hx
  obtain ⟨z,h1,h2⟩ := hx
  subst h2
  exact seen1_rel h hR hRo (hv.get i z y h1 hy)
theorem seen2_rel {R : View} {v : AV} {u : Value} (h : Owns w ob L fp) (hR : ViewLe (view w (Owned ob fp)) R)
  (hRo : ∀ o x b,io.contains o = false → getO ob o = some x → b ∈ fp o → ∀ (c : Array Value) (t : TypeId) (fr : Nat × Nat),w.heap[b]? = some (.cells c t fr) → R b = some c)
  (hv : RelV (view w (Owned ob fp)) L v u) : RelV R L (seen2 io ob v) u := by
 unfold seen2
 split
 ·rename_i o i
  split
  ·exact hv.mono hR _ _ (LocsLe.refl _ _)
  ·rename_i hio
   split
   ·rename_i cs hg
    simp only [RelV] at hv ⊢
    obtain ⟨b,h1,h2⟩ := hv
    obtain ⟨l,k1,b',t',us,rfl,k3,k4,k5,k6⟩ := h.obj o _ hg
    rw [h1] at k1
    injection k1 with k1
    injection k1 with k1
    subst k1
    exact ⟨b,us,hRo o _ b hio hg (by rw [k3]; simp) us t' (0,0) k4,seen1s_rel h hR hRo k5,k6,h2⟩
   ·simp [RelV]
 ·rename_i cs
  simp only [RelV] at hv ⊢
  obtain ⟨vs,h1,h2,h3⟩ := hv
  exact ⟨vs,h1,seen1s_rel h hR hRo h2,h3⟩
 ·exact hv.mono hR _ _ (LocsLe.refl _ _)
 ·exact seen1_rel h hR hRo hv
theorem seen2s_rel {R : View} (h : Owns w ob L fp) (hR : ViewLe (view w (Owned ob fp)) R)
  (hRo : ∀ o x b,io.contains o = false → getO ob o = some x → b ∈ fp o → ∀ (c : Array Value) (t : TypeId) (fr : Nat × Nat),w.heap[b]? = some (.cells c t fr) → R b = some c)
  {cs : List AV} {us : List Value} (hv : RelVs (view w (Owned ob fp)) L cs us) : RelVs R L (cs.map (seen2 io ob)) us :=
 RelVs.of_get (by simp [hv.length]) fun i x y hx hy => by
  simp only [List.getElem?_map,Option.map_eq_some_iff] at hx
  obtain ⟨z,h1,h2⟩ := hx
  subst h2
  exact seen2_rel h hR hRo (hv.get i z y h1 hy)
theorem seen3_rel {R : View} {v : AV} {u : Value} (h : Owns w ob L fp) (hR : ViewLe (view w (Owned ob fp)) R)
  (hRo : ∀ o x b,io.contains o = false → getO ob o = some x → b ∈ fp o → ∀ (c : Array Value) (t : TypeId) (fr : Nat × Nat),w.heap[b]? = some (.cells c t fr) → R b = some c)
  (hv : RelV (view w (Owned ob fp)) L v u) : RelV R L (seen3 io ob v) u := by
 unfold seen3
 split
 ·rename_i f x y
  simp only [RelV] at hv ⊢
  obtain ⟨xs,ys,h1,h2,h3⟩ := hv
  exact ⟨xs,ys,h1,seen2s_rel h hR hRo h2,seen2s_rel h hR hRo h3⟩
 ·exact seen2_rel h hR hRo hv
theorem seen3s_rel {R : View} (h : Owns w ob L fp) (hR : ViewLe (view w (Owned ob fp)) R)
  (hRo : ∀ o x b,io.contains o = false → getO ob o = some x → b ∈ fp o → ∀ (c : Array Value) (t : TypeId) (fr : Nat × Nat),w.heap[b]? = some (.cells c t fr) → R b = some c)
  {cs : List AV} {us : List Value} (hv : RelVs (view w (Owned ob fp)) L cs us) : RelVs R L (cs.map (seen3 io ob)) us :=
 RelVs.of_get (by simp [hv.length]) fun i x y hx hy => by
  simp only [List.getElem?_map,Option.map_eq_some_iff] at hx
  obtain ⟨z,h1,h2⟩ := hx
  subst h2
  exact seen3_rel h hR hRo (hv.get i z y h1 hy)
theorem getO_pick (all : List Nat) (ob : List (Nat × AObj)) (l : List Nat) (o : Nat) : getO (pickO all ob l) o = if o ∈ l then (getO ob o).map (seenObj all ob) else none := by
 induction l with
 | nil => simp [pickO,getO]
 | cons n r ih =>
  simp only [pickO]
  split
  ·rename_i x hx
   simp only [getO,ih]
   by_cases h : n = o
   ·subst h; simp [hx]
   ·have h' : ¬ o = n := fun e => h e.symm
    simp [h,h']
  ·rename_i hx
   rw [ih]
   by_cases h : o = n
   ·subst h; simp [hx]
   ·simp [h]
theorem getO_append (a b : List (Nat × AObj)) (o : Nat) : getO (a ++ b) o = match getO a o with
  | some x => some x
  | none => getO b o := by
 induction a with
 | nil => rfl
 | cons x r ih =>
  obtain ⟨j,y⟩ := x
  simp only [List.cons_append,getO]
  split
  ·rfl
  ·exact ih
theorem getO_delAll (l : List Nat) : ∀ (ob : List (Nat × AObj)) (o : Nat),getO (delAll ob l) o = if o ∈ l then none else getO ob o := by
 induction l with
 | nil => intro ob o; simp [delAll]
 | cons n r ih =>
  intro ob o
  simp only [delAll,ih,getO_del]
  by_cases h1 : o ∈ r
  ·simp [h1]
  ·by_cases h2 : o = n
   ·simp [h2]
   ·simp [h1,h2]
theorem pick_owns (h : Owns w ob L fp) (io : List Nat) : Owns w (pickO io ob io) L fp ∧ (∀ b,Owned (pickO io ob io) fp b → Owned ob fp b) ∧
  (∀ o x b,io.contains o = false → getO ob o = some x → b ∈ fp o → ¬ Owned (pickO io ob io) fp b) := by
 have hsub : ∀ b,Owned (pickO io ob io) fp b → Owned ob fp b := by
  rintro b ⟨o,h1,h2⟩
  rw [getO_pick] at h1
  split at h1
  ·exact ⟨o,by cases hg : getO ob o <;> simp [hg] at h1 ⊢,h2⟩
  ·simp at h1
 have hsome : ∀ o,(getO (pickO io ob io) o).isSome = true → (getO ob o).isSome = true := by
  intro o h1
  rw [getO_pick] at h1
  split at h1
  ·cases hg : getO ob o <;> simp [hg] at h1 ⊢
  ·simp at h1
 have hnot : ∀ o x b,io.contains o = false → getO ob o = some x → b ∈ fp o → ¬ Owned (pickO io ob io) fp b := by
  rintro o x b hio hg hb ⟨o',h1,h2⟩
  by_cases e : o' = o
  ·subst e
   rw [getO_pick,if_neg (by simpa using hio)] at h1
   simp at h1
  ·exact h.disj o' o b (hsome o' h1) (by rw [hg]; rfl) e h2 hb
 have hv : ViewLe (view w (Owned ob fp)) (view w (Owned (pickO io ob io) fp)) := view_change (fun _ _ _ => rfl) fun b hb => .inl (hsub b hb)
 refine ⟨⟨fun o x hx => ?_,fun o b ho => h.lt o b (hsome o ho),fun o ho => h.nodup o (hsome o ho),fun o o' b ho ho' => h.disj o o' b (hsome o ho) (hsome o' ho')⟩,hsub,hnot⟩
 rw [getO_pick] at hx
 split at hx
 ·cases hg : getO ob o with
  | none => rw [hg] at hx; simp at hx
  | some y =>
   rw [hg] at hx
   simp only [Option.map_some,Option.some.injEq] at hx
   subst hx
   obtain ⟨l,h1,h2⟩ := h.obj o y hg
   refine ⟨l,h1,?_⟩
   cases y with
   | arr e ver rv p => exact h2
   | hol e ver rv p kk => exact h2
   | box cs =>
    obtain ⟨b,t,vs,k1,k2,k3,k4,k5⟩ := h2
    refine ⟨b,t,vs,k1,k2,k3,seen1s_rel h hv (fun o' x' b' hio' hg' hb' c t fr hh => ?_) k4,k5⟩
    exact view_of (hnot o' x' b' hio' hg' hb') hh
 ·cases hx
def RanC (P : Program) (o : Oper) (a : Act) (w : World) (K : Act → World → Prop) : Prop :=
 ∃ f vs,(execOp a.eval o).run P w = .ok (.enter f vs) w ∧ Calls P f vs w fun e w' => ∃ v,e = .returned v ∧ K (a.put o.dst v) w'
theorem RanC.wp {o : Oper} {K K' : Act → World → Prop} {Q : Exit → Act → World → Prop} (h : RanC P o a w K) (hK : ∀ a w,K a w → K' a w) : o.wp P a w K' Q := by
 obtain ⟨f,vs,h1,h2⟩ := h
 unfold Oper.wp
 rw [h1]
 show Calls P f vs w _
 refine h2.mono fun e w' he => ?_
 obtain ⟨v,rfl,hk⟩ := he
 exact hK _ _ hk
theorem within_free {l : List Nat} {d : Nat} : ∀ {v : AV},v.within l = true → v.free d = false → d ∈ l := by
 have any : ∀ {o : Nat},l.any (Nat.beq o) = true → (!(Nat.beq o d)) = false → d ∈ l := by
  intro o h1 h2
  simp only [Bool.not_eq_false'] at h2
  have := Nat.eq_of_beq_eq_true h2
  subst this
  obtain ⟨x,hx,hb⟩ := List.any_eq_true.1 h1
  rw [Nat.eq_of_beq_eq_true hb]
  exact hx
 have go : ∀ (v : AV),v.within l = true → v.free d = false → d ∈ l := by
  intro v
  refine AV.rec (motive_1 := fun v => v.within l = true → v.free d = false → d ∈ l) (motive_2 := fun vs => AV.within.go l vs = true → AV.free.go d vs = false → d ∈ l)
   ?_ ?_ ?_ ?_ ?_ ?_ ?_ ?_ ?_ ?_ ?_ ?_ ?_ ?_ ?_ ?_ ?_ ?_ ?_ ?_ ?_ ?_ ?_ ?_ ?_ v
  all_goals first
   | (intros; simp_all [AV.within,AV.free]; done)
   | (intro cs ih h1 h2; exact ih h1 h2)
   | (intro cs i ih h1 h2; exact ih h1 h2)
   | (intro o h1 h2; exact any h1 h2)
   | (intro o i h1 h2; exact any h1 h2)
   | (intro o i j k h1 h2; exact any h1 h2)
   | (intro o i j k m n h1 h2; exact any h1 h2)
   | (intro f x y ih1 ih2 h1 h2
      simp only [AV.within,AV.free,Bool.and_eq_true,Bool.and_eq_false_iff] at h1 h2
      rcases h2 with h2 | h2
      ·exact ih1 h1.1 h2
      ·exact ih2 h1.2 h2)
   | (intro h1 h2; simp [AV.free.go] at h2; done)
   | (intro x r ih1 ih2 h1 h2
      simp only [AV.within.go,AV.free.go,Bool.and_eq_true,Bool.and_eq_false_iff] at h1 h2
      rcases h2 with h2 | h2
      ·exact ih1 h1.1 h2
      ·exact ih2 h1.2 h2)
 exact fun {v} => go v
mutual
theorem RelV.pure {R R' : View} {L L' : Locs} {l : List Nat} (hL : ∀ o,o ∈ l → L' o = L o) : ∀ (a : AV) (v : Value),a.pure = true → a.within l = true → RelV R L a v → RelV R' L' a v
 | .dead,_,_,_,_ => by simp [RelV]
 | .undf,v,_,_,h => by simpa [RelV] using h
 | .anyb _,v,_,_,h => by simpa [RelV] using h
 | .int k n,v,_,_,h => by simpa [RelV] using h
 | .bool b,v,_,_,h => by simpa [RelV] using h
 | .blit b,v,_,_,h => by simpa [RelV] using h
 | .str l,v,_,_,h => by simpa [RelV] using h
 | .nilp,v,_,_,h => by simpa [RelV] using h
 | .nil p,v,_,_,h => by simpa [RelV] using h
 | .agg cs,v,hp,hw,h => by
  simp only [RelV] at h ⊢
  obtain ⟨vs,h1,h2,h3⟩ := h
  exact ⟨vs,h1,RelVs.pure hL cs _ hp hw h2,h3⟩
 | .tuple cs,v,hp,hw,h => by
  simp only [RelV] at h ⊢
  obtain ⟨vs,h1,h2⟩ := h
  exact ⟨vs,h1,RelVs.pure hL cs _ hp hw h2⟩
 | .ptr o i,v,_,hw,h => by
  have ho := hL o (within_free hw (by simp [AV.free]))
  simp only [RelV] at h ⊢
  rw [ho]
  exact h
 | .sl o ver,v,_,hw,h => by
  have ho := hL o (within_free hw (by simp [AV.free]))
  simp only [RelV,ArrV] at h ⊢
  rw [ho]
  exact h
 | .slp o ver off len,v,_,hw,h => by
  have ho := hL o (within_free hw (by simp [AV.free]))
  simp only [RelV,ArrV] at h ⊢
  rw [ho]
  exact h
 | .sub o ver rv k,v,_,hw,h => by
  have ho := hL o (within_free hw (by simp [AV.free]))
  simp only [RelV,ArrV] at h ⊢
  rw [ho]
  exact h
 | .eptr o ver e fo,v,_,hw,h => by
  have ho := hL o (within_free hw (by simp [AV.free]))
  simp only [RelV,ArrV] at h ⊢
  rw [ho]
  exact h
 | .selt o ver rv k e fo,v,_,hw,h => by
  have ho := hL o (within_free hw (by simp [AV.free]))
  simp only [RelV,ArrV] at h ⊢
  rw [ho]
  exact h
 | .subp o ver rv k off len,v,_,hw,h => by
  have ho := hL o (within_free hw (by simp [AV.free]))
  simp only [RelV,ArrV] at h ⊢
  rw [ho]
  exact h
 | .list p,v,hp,_,h => by cases hp
 | .lst x p,v,hp,_,h => by cases hp
 | .pelt p e fo,v,hp,_,h => by cases hp
 | .pbox cs i,v,hp,_,h => by cases hp
 | .func f a b,v,hp,hw,h => by
  simp only [RelV] at h ⊢
  simp only [AV.pure,AV.within,Bool.and_eq_true] at hp hw
  obtain ⟨x,y,h1,h2,h3⟩ := h
  exact ⟨x,y,h1,RelVs.pure hL a _ hp.1 hw.1 h2,RelVs.pure hL b _ hp.2 hw.2 h3⟩
theorem RelVs.pure {R R' : View} {L L' : Locs} {l : List Nat} (hL : ∀ o,o ∈ l → L' o = L o) : ∀ (as : List AV) (vs : List Value),AV.pure.go as = true → AV.within.go l as = true → RelVs R L as vs → RelVs R' L' as vs
 | [],[],_,_,_ => by simp [RelVs]
 | [],_ :: _,_,_,h => by simp [RelVs] at h
 | _ :: _,[],_,_,h => by simp [RelVs] at h
 | a :: as,v :: vs,hp,hw,h => by
  simp only [RelVs] at h ⊢
  simp only [AV.pure.go,AV.within.go,Bool.and_eq_true] at hp hw
  exact ⟨RelV.pure hL a v hp.1 hw.1 h.1,RelVs.pure hL as vs hp.2 hw.2 h.2⟩
end
theorem mem_namesO {ob : List (Nat × AObj)} {o : Nat} : o ∈ namesO ob ↔ (getO ob o).isSome = true := by
 induction ob with
 | nil => simp [namesO,getO]
 | cons x r ih =>
  obtain ⟨j,y⟩ := x
  simp only [namesO,List.mem_cons,getO]
  by_cases h : j = o
  ·simp [h]
  ·have h' : ¬ o = j := fun e => h e.symm
   simp [h,h',ih]
theorem retObs_get {l : List Nat} {ob : List (Nat × AObj)} {o : Nat} {cs : List AV} (h : retObs l ob = true) (hg : getO ob o = some (.box cs)) : AV.within.go l cs = true := by
 induction ob with
 | nil => simp [getO] at hg
 | cons x r ih =>
  obtain ⟨j,y⟩ := x
  simp only [getO] at hg
  cases y with
  | box cs' =>
   simp only [retObs,Bool.and_eq_true] at h
   split at hg
   ·cases hg; exact h.1
   ·exact ih h.2 hg
  | arr e v rv p =>
   simp only [retObs] at h
   split at hg
   ·cases hg
   ·exact ih h hg
  | hol e v rv p kk =>
   simp only [retObs] at h
   split at hg
   ·cases hg
   ·exact ih h hg
theorem pureObs_get {ob : List (Nat × AObj)} {o : Nat} {cs : List AV} (h : pureObs ob = true) (hg : getO ob o = some (.box cs)) : AV.pure.go cs = true := by
 induction ob with
 | nil => simp [getO] at hg
 | cons x r ih =>
  obtain ⟨j,y⟩ := x
  simp only [getO] at hg
  cases y with
  | box cs' =>
   simp only [pureObs,Bool.and_eq_true] at h
   split at hg
   ·cases hg; exact h.1
   ·exact ih h.2 hg
  | arr e v rv p =>
   simp only [pureObs] at h
   split at hg
   ·cases hg
   ·exact ih h hg
  | hol e v rv p kk =>
   simp only [pureObs] at h
   split at hg
   ·cases hg
   ·exact ih h hg
theorem RelV.inL {R : View} {L L' : Locs} {l : List Nat} {v : AV} {u : Value} (hL : ∀ o,o ∈ l → L' o = L o) (hw : v.within l = true) (h : RelV R L v u) : RelV R L' v u :=
 h.mono (ViewLe.refl R) _ _ fun o x ho hx => ⟨x,by rw [hL o (within_free hw ho)]; exact hx,LocLe.refl _⟩
theorem within_go {l : List Nat} {d : Nat} {as : List AV} : AV.within.go l as = true → AV.free.go d as = false → d ∈ l := by
 induction as with
 | nil => intro _ h; simp [AV.free.go] at h
 | cons x r ih =>
  intro h1 h2
  simp only [AV.within.go,AV.free.go,Bool.and_eq_true,Bool.and_eq_false_iff] at h1 h2
  rcases h2 with h2 | h2
  ·exact within_free h1.1 h2
  ·exact ih h1.2 h2
theorem RelVs.inL {R : View} {L L' : Locs} {l : List Nat} {as : List AV} {vs : List Value} (hL : ∀ o,o ∈ l → L' o = L o) (hw : AV.within.go l as = true) (h : RelVs R L as vs) : RelVs R L' as vs :=
 h.mono (ViewLe.refl R) _ _ fun o x ho hx => ⟨x,by rw [hL o (within_go hw ho)]; exact hx,LocLe.refl _⟩
theorem retNew_get {io : List Nat} {ob : List (Nat × AObj)} {o : Nat} (h : retNew σ io ob = true) (hg : (getO ob o).isSome = true) : (o ∈ io ∧ (getO σ.ob o).isSome = true) ∨ (σ.free o = true ∧ o < 2000) := by
 induction ob with
 | nil => simp [getO] at hg
 | cons x r ih =>
  obtain ⟨j,y⟩ := x
  simp only [retNew,Bool.and_eq_true] at h
  simp only [getO] at hg
  split at hg
  ·rename_i e
   subst e
   have h1 := h.1
   simp only [Bool.or_eq_true,Bool.and_eq_true] at h1
   rcases h1 with ⟨h1,h2⟩ | ⟨h1,h2⟩
   ·obtain ⟨x,hx,hb⟩ := List.any_eq_true.1 h1
    rw [Nat.eq_of_beq_eq_true hb]
    exact .inl ⟨hx,(Nat.eq_of_beq_eq_true hb) ▸ h2⟩
   ·exact .inr ⟨h1,Nat.le_of_ble_eq_true h2⟩
  ·exact ih h.2 hg
theorem run_enter {f : FuncId} {args : Array Value} (h : Enters P f) : (callFunc f args).run P w = .ok (.enter f args) w := by
 obtain ⟨fn,h1,h2,h3⟩ := h
 have h2' : ¬ fn.name = "runtime.NumGoroutine" := by simpa using h2
 have h3' : ¬ fn.body = none := by intro e; rw [e] at h3; cases h3
 simp [callFunc,h1,h2',h3']
theorem markC_rel {R : View} {L : Locs} {vf : Nat → Nat → Value} {n : Nat} : ∀ (cs : List AV) (us : List Value) (i : Nat),RelVs R L cs us → (∀ j u,us[j]? = some u → vf n (i + j) = u) → RelVs R L (markC vf n i cs) us
 | [],[],_,_,_ => by simp [markC,RelVs]
 | [],_ :: _,_,h,_ => by simp [RelVs] at h
 | _ :: _,[],_,h,_ => by simp [RelVs] at h
 | c :: cs,u :: us,i,h,hv => by
  simp only [RelVs] at h
  have ih := markC_rel cs us (i + 1) h.2 fun j u hu => by
   have := hv (j + 1) u (by simpa using hu)
   rwa [show i + (j + 1) = i + 1 + j by omega] at this
  have h0 : vf n i = u := by
   have := hv 0 u (by simp)
   simpa using this
  cases c <;> simp only [markC,RelVs] <;> refine ⟨?_,ih⟩ <;> first
   | exact h.1
   | (have h1 := h.1; simp only [RelV] at h1 ⊢; exact ⟨h0.symm,h1⟩)
   | (have h1 := h.1; simp only [RelV] at h1 ⊢; exact ⟨h0.symm,h1.2⟩)
theorem getO_mark {vf : Nat → Nat → Value} : ∀ (ob : List (Nat × AObj)) (n : Nat),getO (markO vf ob) n = (getO ob n).map fun x => match x with
  | .box cs => .box (markC vf n 0 cs)
  | x => x
 | [],n => rfl
 | (m,.box cs) :: r,n => by
  simp only [markO,getO]
  split
  ·rename_i e; subst e; rfl
  ·exact getO_mark r n
 | (m,.arr e v rv p) :: r,n => by
  simp only [markO,getO]
  split
  ·rfl
  ·exact getO_mark r n
 | (m,.hol e v rv p kk) :: r,n => by
  simp only [markO,getO]
  split
  ·rfl
  ·exact getO_mark r n
theorem getO_fill {g : Nat → Nat → AV → AV} {ob : List (Nat × AObj)} : ∀ (l : List (Nat × AObj)) (n : Nat),getO (fillO g ob l) n = (getO l n).map fun x => match x with
  | .box cs => .box (match getO ob n with
   | some (.box cs0) => fillC (g n) 0 cs cs0
   | _ => cs)
  | x => x
 | [],n => rfl
 | (m,.box cs) :: r,n => by
  simp only [fillO,getO]
  split
  ·rename_i e; subst e; rfl
  ·exact getO_fill r n
 | (m,.arr e v rv p) :: r,n => by
  simp only [fillO,getO]
  split
  ·rfl
  ·exact getO_fill r n
 | (m,.hol e v rv p kk) :: r,n => by
  simp only [fillO,getO]
  split
  ·rfl
  ·exact getO_fill r n
theorem fill_some {g : Nat → Nat → AV → AV} {ob l : List (Nat × AObj)} {n : Nat} : (getO (fillO g ob l) n).isSome = (getO l n).isSome := by rw [getO_fill]; simp
theorem mark_some {vf : Nat → Nat → Value} {ob : List (Nat × AObj)} {n : Nat} : (getO (markO vf ob) n).isSome = (getO ob n).isSome := by rw [getO_mark]; simp
theorem owned_eq {ob ob' : List (Nat × AObj)} (h : ∀ n,(getO ob' n).isSome = (getO ob n).isSome) (fp : Nat → List Nat) : Owned ob' fp = Owned ob fp := funext fun b => propext ⟨fun ⟨o,h1,h2⟩ => ⟨o,by rw [← h]; exact h1,h2⟩,fun ⟨o,h1,h2⟩ => ⟨o,by rw [h]; exact h1,h2⟩⟩
noncomputable def vfOf (w : World) (L : Locs) (n i : Nat) : Value := match L n with
 | some (.box b) => match w.heap[b]? with
  | some (.cells vs _ _) => vs.toList.getD i undef
  | _ => undef
 | _ => undef
theorem vfOf_eq {w : World} {L : Locs} {n b : Nat} {vs : Array Value} {t : TypeId} {fr : Nat × Nat} (h1 : L n = some (.box b)) (h2 : w.heap[b]? = some (.cells vs t fr)) (j : Nat) (u : Value) (hu : vs.toList[j]? = some u) : vfOf w L n j = u := by
 unfold vfOf
 rw [h1]
 simp only [h2]
 simp [List.getD,hu]
theorem owns_mark {ob : List (Nat × AObj)} (h : Owns w ob L fp) : Owns w (markO (vfOf w L) ob) L fp := by
 have hO := owned_eq (ob := ob) (ob' := markO (vfOf w L) ob) (fun n => mark_some) fp
 refine ⟨fun o x hx => ?_,fun o b ho => h.lt o b (by rw [← mark_some (vf := vfOf w L)]; exact ho),fun o ho => h.nodup o (by rw [← mark_some (vf := vfOf w L)]; exact ho),fun o o' b ho ho' => h.disj o o' b (by rw [← mark_some (vf := vfOf w L)]; exact ho) (by rw [← mark_some (vf := vfOf w L)]; exact ho')⟩
 rw [getO_mark] at hx
 rw [hO]
 cases hx0 : getO ob o with
 | none => rw [hx0] at hx; cases hx
 | some x0 =>
  rw [hx0] at hx
  simp only [Option.map_some,Option.some.injEq] at hx
  obtain ⟨l,k1,k2⟩ := h.obj o x0 hx0
  cases x0 with
  | arr e ver rv p => subst hx; exact ⟨l,k1,k2⟩
  | hol e ver rv p kk => subst hx; exact ⟨l,k1,k2⟩
  | box cs =>
   subst hx
   obtain ⟨b,t,vs,rfl,m2,m3,m4,m5⟩ := k2
   exact ⟨_,k1,b,t,vs,rfl,m2,m3,markC_rel cs _ 0 m4 fun j u hu => by rw [Nat.zero_add]; exact vfOf_eq k1 m3 j u hu,m5⟩
theorem keepC_rel {R1 R2 : View} {L1 L2 : Locs} {vf : Nat → Value} : ∀ (cs cs0 : List AV) (us : List Value) (k : Nat),RelVs R1 L1 (fillC (fun i => markV (vf i)) k cs cs0) us → (∀ c ∈ cs,∀ u,RelV R1 L1 c u → RelV R2 L2 c u) →
  (∀ j c,cs0[j]? = some c → ∀ p,(c = .list p ∨ ∃ x,c = .lst x p) → RelV R2 L2 c (vf (k + j))) → RelVs R2 L2 (fillC (fun _ => keepV) k cs cs0) us
 | [],_,us,_,h,_,_ => by
  cases us with
  | nil => simp [fillC,RelVs]
  | cons u us => simp [fillC,RelVs] at h
 | c :: cs,[],us,k,h,ht,_ => by
  have e1 : fillC (fun i => markV (vf i)) k (c :: cs) [] = c :: cs := by cases c <;> rfl
  have e2 : fillC (fun _ => keepV) k (c :: cs) [] = c :: cs := by cases c <;> rfl
  rw [e1] at h
  rw [e2]
  exact RelVs.of_get h.length fun i x y hx hy => ht x (List.mem_of_getElem? hx) y (h.get i x y hx hy)
 | c :: cs,c0 :: cs0,us,k,h,ht,ho => by
  cases us with
  | nil => cases c <;> simp [fillC,RelVs] at h
  | cons u us =>
   have ho' : ∀ j c,cs0[j]? = some c → ∀ p,(c = .list p ∨ ∃ x,c = .lst x p) → RelV R2 L2 c (vf (k + 1 + j)) := fun j c hc p hp => by
    have := ho (j + 1) c (by simpa using hc) p hp
    rwa [show k + (j + 1) = k + 1 + j by omega] at this
   by_cases hu : c = .undf
   ·subst hu
    simp only [fillC,RelVs] at h ⊢
    refine ⟨?_,keepC_rel cs cs0 us (k + 1) h.2 (fun c hc => ht c (by simp [hc])) ho'⟩
    have h1 := h.1
    have h2 := ho 0 c0 (by simp)
    rw [Nat.add_zero] at h2
    cases c0 <;> simp only [markV,keepV] at h1 ⊢ <;> first
     | (simpa only [RelV] using h1)
     | (rename_i p; have h3 := h2 p (.inl rfl); simp only [RelV] at h1; rw [h1.1]; exact h3)
     | (rename_i x p; have h3 := h2 p (.inr ⟨x,rfl⟩); simp only [RelV] at h1; rw [h1.1]; exact h3)
   ·have e1 : fillC (fun i => markV (vf i)) k (c :: cs) (c0 :: cs0) = c :: fillC (fun i => markV (vf i)) (k + 1) cs cs0 := by cases c <;> first | rfl | exact absurd rfl hu
    have e2 : fillC (fun _ => keepV) k (c :: cs) (c0 :: cs0) = c :: fillC (fun _ => keepV) (k + 1) cs cs0 := by cases c <;> first | rfl | exact absurd rfl hu
    rw [e1] at h
    rw [e2]
    simp only [RelVs] at h ⊢
    exact ⟨ht c (by simp) u h.1,keepC_rel cs cs0 us (k + 1) h.2 (fun c hc => ht c (by simp [hc])) ho'⟩
theorem pure_mem : ∀ {cs : List AV} {c : AV},AV.pure.go cs = true → c ∈ cs → c.pure = true
 | [],_,_,h => by cases h
 | x :: r,c,h,hc => by
  simp only [AV.pure.go,Bool.and_eq_true] at h
  rcases List.mem_cons.1 hc with rfl | hc
  ·exact h.1
  ·exact pure_mem h.2 hc
theorem within_mem {l : List Nat} : ∀ {cs : List AV} {c : AV},AV.within.go l cs = true → c ∈ cs → c.within l = true
 | [],_,_,h => by cases h
 | x :: r,c,h,hc => by
  simp only [AV.within.go,Bool.and_eq_true] at h
  rcases List.mem_cons.1 hc with rfl | hc
  ·exact h.1
  ·exact within_mem h.2 hc
theorem call_ok {o : Oper} {f : FuncId} {args : List AV} {r : Ret} (h : StW w0 F0 L0 nt σ a w L fp) (hL0 : L0Ok P w0 F0 L0) (hd : okDst nt o.dst = true)
  (he : callOf σ o = some (f,args)) (hok : retOk σ r = true) (hspec : ∀ vf,Spec P f (args.map (seen3 r.io σ.ob)) (markO vf (pickO r.io σ.ob r.io)) r.ret (fillO (fun n i => markV (vf n i)) σ.ob r.ob)) :
  RanC P o a w (St w0 F0 L0 nt ⟨put σ.sl o.dst r.ret,fillO (fun _ _ => keepV) σ.ob r.ob ++ delAll σ.ob r.io⟩) := by
 obtain ⟨hent,hspec⟩ := hspec (vfOf w L)
 obtain ⟨c,g,fst,cap,ho,hcal,hg,hargs⟩ : ∃ c g fst cap,o.op = .call c ∧ c.callee = .value g ∧ opv σ none g = .func f fst cap ∧ args = fst ++ c.args.toList.map (opv σ none) ++ cap := by
  unfold callOf at he
  split at he
  ·rename_i c hop
   split at he
   ·rename_i g hc
    split at he
    ·rename_i f' fst cap hg
     cases he
     exact ⟨c,g,fst,cap,hop,hc,hg,rfl⟩
    ·cases he
   ·cases he
  ·cases he
 subst hargs
 have hgr := opv_rel_none h g
 rw [hg] at hgr
 simp only [RelV] at hgr
 obtain ⟨xs,ys,hge,hxs,hys⟩ := hgr
 have hargs : RelVs (view w (Owned σ.ob fp)) L (fst ++ c.args.toList.map (opv σ none) ++ cap) (xs ++ c.args.map a.eval ++ ys).toList := by
  simp only [Array.toList_append,Array.toList_map]
  refine (hxs.append (RelVs.of_get (by simp) fun i x y hx hy => ?_)).append hys
  simp only [List.getElem?_map,Option.map_eq_some_iff] at hx hy
  obtain ⟨z,h1,rfl⟩ := hx
  obtain ⟨z',h2,rfl⟩ := hy
  rw [h1] at h2
  cases h2
  exact opv_rel_none h z
 obtain ⟨hpo,hsub,hnot⟩ := pick_owns h.owns r.io
 have hv0 : ViewLe (view w (Owned σ.ob fp)) (view w (Owned (pickO r.io σ.ob r.io) fp)) := view_change (fun _ _ _ => rfl) fun b hb => .inl (hsub b hb)
 have hseen := seen3s_rel (io := r.io) h.owns hv0 (fun o x b hio hg hb c t fr hh => view_of (hnot o x b hio hg hb) hh) hargs
 have hOm := owned_eq (ob := pickO r.io σ.ob r.io) (ob' := markO (vfOf w L) (pickO r.io σ.ob r.io)) (fun n => mark_some) fp
 have hcalls := hspec w (xs ++ c.args.map a.eval ++ ys) L fp (by rw [hOm]; exact hL0.tab.later h.kept fun b hb => h.fresh b (hsub b hb)) (owns_mark hpo) (by rw [hOm]; exact hseen)
 have hOf : ∀ fp',Owned (fillO (fun n i => markV (vfOf w L n i)) σ.ob r.ob) fp' = Owned r.ob fp' := fun fp' => owned_eq (fun n => fill_some) fp'
 rw [hOm] at hcalls
 refine ⟨f,_,?_,hcalls.mono fun e w' he => ?_⟩
 ·simp only [execOp,ho,resolve,hcal,hge,Deferred.ofValue,invoke,Sem.run_bind,Sem.run_pure,Result.andThen_ok]
  exact run_enter hent
 obtain ⟨v,L',fp',rfl,hkept,howns,hfresh,hle,hret⟩ := he
 rw [hOf] at hfresh hret
 simp only [mark_some] at hle
 simp only [retOk,Bool.and_eq_true,Bool.or_eq_true] at hok
 obtain ⟨⟨⟨p1,p2⟩,p3⟩,p4⟩ := hok
 refine ⟨v,rfl,?_⟩
 have hpk : ∀ o,(getO (pickO r.io σ.ob r.io) o).isSome = true ↔ o ∈ r.io ∧ (getO σ.ob o).isSome = true := by
  intro o
  rw [getO_pick]
  by_cases e : o ∈ r.io
  ·simp [e]
  ·simp [e]
 let D : Nat → Prop := fun o => (getO (pickO r.io σ.ob r.io) o).isSome = true ∨ (getO r.ob o).isSome = true
 refine ⟨fun o => if (getO (pickO r.io σ.ob r.io) o).isSome = true ∨ (getO r.ob o).isSome = true then L' o else L o,fun o => if (getO r.ob o).isSome = true then fp' o else fp o,?_⟩
 have hL'' : ∀ o,o ∈ namesO r.ob → (if (getO (pickO r.io σ.ob r.io) o).isSome = true ∨ (getO r.ob o).isSome = true then L' o else L o) = L' o := fun o ho => if_pos (.inr (mem_namesO.1 ho))
 have hKb : ∀ o,(getO (fillO (fun _ _ => keepV) σ.ob r.ob) o).isSome = (getO r.ob o).isSome := fun o => fill_some
 have hFb : ∀ o,(getO (fillO (fun n i => markV (vfOf w L n i)) σ.ob r.ob) o).isSome = (getO r.ob o).isSome := fun o => fill_some
 have hob' : ∀ o,D o → getO (fillO (fun _ _ => keepV) σ.ob r.ob ++ delAll σ.ob r.io) o = getO (fillO (fun _ _ => keepV) σ.ob r.ob) o := by
  intro o hD
  rw [getO_append]
  split
  ·rename_i x hx; exact hx.symm
  ·rename_i hx
   rw [getO_delAll,hx]
   rcases hD with hD | hD
   ·rw [if_pos ((hpk o).1 hD).1]
   ·rw [← hKb,hx] at hD; cases hD
 have hall : allIn σ r.io = true → ViewLe (view w' (Owned r.ob fp')) (view w' (Owned (fillO (fun _ _ => keepV) σ.ob r.ob ++ delAll σ.ob r.io) (fun o => if (getO r.ob o).isSome = true then fp' o else fp o))) := fun ha => by
  refine view_change (fun _ _ _ => rfl) fun b hb => .inl ?_
  obtain ⟨o,h1,h2⟩ := hb
  have he : delAll σ.ob r.io = [] := by
   unfold allIn at ha
   cases hd : delAll σ.ob r.io with
   | nil => rfl
   | cons x y => rw [hd] at ha; cases ha
  rw [he,List.append_nil,hKb] at h1
  simp only [if_pos h1] at h2
  exact ⟨o,h1,h2⟩
 refine h.change D ⟨hkept.os,hkept.tape,hkept.output,hkept.size,fun b hb hF => hkept.block b hb fun hF' => hF (hsub b hF'),hkept.drawn⟩ (fun o ho => ?_) (fun o ho => ?_) (fun o ho => ?_) (fun o ho => ?_) (fun b hb hno => ?_) (fun o b ho hs hb => ?_)
  (fun hR o x ho hx => ?_) (fun o ho hs => ?_) (fun o o' b ho ho' hne hs hs' hb hb' => ?_) hd (fun hR => ?_)
 ·have h1 : getO (fillO (fun _ _ => keepV) σ.ob r.ob) o = none := by
   cases hx : getO (fillO (fun _ _ => keepV) σ.ob r.ob) o with
   | none => rfl
   | some x => exact absurd (.inr (by rw [← hKb,hx]; rfl)) ho
  rw [getO_append,h1]
  simp only
  rw [getO_delAll]
  split
  ·rename_i hio
   cases hx : getO σ.ob o with
   | none => rfl
   | some x => exact absurd (.inl ((hpk o).2 ⟨hio,by rw [hx]; rfl⟩)) ho
  ·rfl
 ·exact if_neg fun e => ho (.inr e)
 ·exact if_neg ho
 ·rw [if_pos ho]
  by_cases hp : (getO (pickO r.io σ.ob r.io) o).isSome = true
  ·exact .inr fun l hl => hle o l hp hl
  ·have ho' := ho.resolve_left hp
   rcases retNew_get p4 ho' with h1 | ⟨h1,h2⟩
   ·exact absurd ((hpk o).2 h1) hp
   ·obtain ⟨g1,g2,g3⟩ := free_parts h1
    refine .inl ⟨fun o' cs _ hg => freeO_get g3 hg,g2,fun b hl0 => ?_⟩
    have := hL0.ge o _ hl0
    omega
 ·refine hkept.block b hb ?_
  rintro ⟨o,h1,h2⟩
  exact hno o (.inl h1) ((hpk o).1 h1).2 h2
 ·rw [hob' o ho,hKb] at hs
  rw [if_pos hs] at hb
  refine ⟨howns.lt o b (by rw [hFb]; exact hs) hb,?_⟩
  rcases hfresh b ⟨o,hs,hb⟩ with ⟨o',h1,h2⟩ | h1
  ·exact .inr ⟨o',.inl h1,((hpk o').1 h1).2,h2⟩
  ·exact .inl h1
 ·rw [hob' o ho] at hx
  have hs : (getO r.ob o).isSome = true := by rw [← hKb,hx]; rfl
  obtain ⟨x0,hx0⟩ := Option.isSome_iff_exists.1 hs
  have hf : getO (fillO (fun n i => markV (vfOf w L n i)) σ.ob r.ob) o = _ := getO_fill r.ob o
  rw [getO_fill,hx0] at hx
  rw [hx0] at hf
  simp only [Option.map_some,Option.some.injEq] at hx hf
  obtain ⟨l,h1,h2⟩ := howns.obj o _ hf
  rw [hOf] at h2
  refine ⟨l,by rw [if_pos ho]; exact h1,?_⟩
  rw [if_pos hs]
  have ht : ∀ c : AV,c.within (namesO r.ob) = true → (allIn σ r.io = true ∨ c.pure = true) → ∀ u,RelV (view w' (Owned r.ob fp')) L' c u →
    RelV (view w' (Owned (fillO (fun _ _ => keepV) σ.ob r.ob ++ delAll σ.ob r.io) (fun o => if (getO r.ob o).isSome = true then fp' o else fp o))) (fun o => if (getO (pickO r.io σ.ob r.io) o).isSome = true ∨ (getO r.ob o).isSome = true then L' o else L o) c u := by
   intro c hw hp u hu
   rcases hp with hp | hp
   ·exact RelV.inL hL'' hw (hu.mono (hall hp) _ _ (LocsLe.refl _ _))
   ·exact RelV.pure hL'' _ _ hp hw hu
  cases x0 with
  | arr e ver rv p => subst hx; exact h2
  | hol e ver rv p kk => subst hx; exact h2
  | box cs =>
   have q2 := retObs_get p3 hx0
   have q3 : ∀ c ∈ cs,allIn σ r.io = true ∨ c.pure = true := fun c hc => by
    rcases p1 with p1 | p1
    ·exact .inr (pure_mem (pureObs_get p1.2 hx0) hc)
    ·exact .inl p1
   subst hx
   obtain ⟨b,t,us,k1,k2,k3,k4,k5⟩ := h2
   refine ⟨b,t,us,k1,k2,k3,?_,k5⟩
   split at k4
   ·rename_i cs0 hg0
    refine keepC_rel cs cs0 us.toList 0 (R1 := view w' (Owned r.ob fp')) (L1 := L') (vf := vfOf w L o) k4 (fun c hc u hu => ht c (within_mem q2 hc) (q3 c hc) u hu) fun j c hc p hp => ?_
    obtain ⟨l0,m1,b0,t0,vs0,rfl,m2,m3,m4,m5⟩ := h.owns.obj o _ hg0
    have hj : j < cs0.length := (List.getElem?_eq_some_iff.1 hc).1
    have hu : vs0.toList[j]? = some (vs0.toList[j]'(by rw [← m4.length]; exact hj)) := List.getElem?_eq_getElem _
    have hr := m4.get j c _ hc hu
    rw [Nat.zero_add,vfOf_eq m1 m3 j _ hu]
    refine hr.mono hR _ _ fun o' l' hfr _ => ?_
    rcases hp with rfl | ⟨x,rfl⟩ <;> simp [AV.free] at hfr
   ·exact RelVs.of_get k4.length fun i x y hx hy => ht x (within_mem q2 (List.mem_of_getElem? hx)) (q3 x (List.mem_of_getElem? hx)) y (k4.get i x y hx hy)
 ·rw [hob' o ho,hKb] at hs
  rw [if_pos hs]
  exact howns.nodup o (by rw [hFb]; exact hs)
 ·rw [hob' o ho,hKb] at hs
  rw [hob' o' ho',hKb] at hs'
  rw [if_pos hs] at hb
  rw [if_pos hs'] at hb'
  exact howns.disj o o' b (by rw [hFb]; exact hs) (by rw [hFb]; exact hs') hne hb hb'
 ·rcases p1 with p1 | p1
  ·exact RelV.pure hL'' _ _ p1.1 p2 hret
  ·exact RelV.inL hL'' p2 (hret.mono (hall p1) _ _ (LocsLe.refl _ _))
end
end Go.AM
namespace Go.AM
def swapN (a b o : Nat) : Nat := if o = a then b else if o = b then a else o
theorem swapN_inv (a b o : Nat) : swapN a b (swapN a b o) = o := by
 unfold swapN
 by_cases h1 : o = a
 ·subst h1; by_cases h2 : b = o <;> simp [h2]
 ·by_cases h2 : o = b
  ·subst h2; simp [h1]
  ·simp [h1,h2]
theorem swapN_inj {a b o o' : Nat} (h : swapN a b o = swapN a b o') : o = o' := by rw [← swapN_inv a b o,h,swapN_inv]
def AV.ren (f : Nat → Nat) : AV → AV
 | .ptr o i => .ptr (f o) i
 | .sl o ver => .sl (f o) ver
 | .slp o ver off len => .slp (f o) ver off len
 | .sub o ver rv k => .sub (f o) ver rv k
 | .eptr o ver e fo => .eptr (f o) ver e fo
 | .selt o ver rv k e fo => .selt (f o) ver rv k e fo
 | .subp o ver rv k off len => .subp (f o) ver rv k off len
 | .agg cs => .agg (go cs)
 | .tuple cs => .tuple (go cs)
 | .pbox cs i => .pbox (go cs) i
 | .func g a b => .func g (go a) (go b)
 | v => v
where go : List AV → List AV
 | [] => []
 | v :: r => v.ren f :: go r
def AObj.ren (f : Nat → Nat) : AObj → AObj
 | .box cs => .box (AV.ren.go f cs)
 | x => x
def renS (f : Nat → Nat) : List (Nat × AV) → List (Nat × AV)
 | [] => []
 | (i,v) :: r => (i,v.ren f) :: renS f r
def renO (f : Nat → Nat) : List (Nat × AObj) → List (Nat × AObj)
 | [] => []
 | (o,x) :: r => (f o,x.ren f) :: renO f r
def AV.rever (o ver rv : Nat) : AV → AV
 | .sl n v => match Nat.beq n o with
  | true => match Nat.beq v ver with
   | true => .sl o 0
   | false => .dead
  | false => .sl n v
 | .slp n v off len => match Nat.beq n o with
  | true => match Nat.beq v ver with
   | true => .slp o 0 off len
   | false => .dead
  | false => .slp n v off len
 | .sub n v r k => match Nat.beq n o with
  | true => match Nat.beq v ver,Nat.beq r rv with
   | true,true => .sub o 0 0 k
   | _,_ => .dead
  | false => .sub n v r k
 | .eptr n v e fo => match Nat.beq n o with
  | true => match Nat.beq v ver with
   | true => .eptr o 0 e fo
   | false => .dead
  | false => .eptr n v e fo
 | .selt n v r k e fo => match Nat.beq n o with
  | true => match Nat.beq v ver,Nat.beq r rv with
   | true,true => .selt o 0 0 k e fo
   | _,_ => .dead
  | false => .selt n v r k e fo
 | .subp n v r k off len => match Nat.beq n o with
  | true => .dead
  | false => .subp n v r k off len
 | .ptr n i => match Nat.beq n o with
  | true => .dead
  | false => .ptr n i
 | .agg cs => .agg (go cs)
 | .tuple cs => .tuple (go cs)
 | .pbox cs i => .pbox (go cs) i
 | .func g a b => .func g (go a) (go b)
 | v => v
where go : List AV → List AV
 | [] => []
 | v :: r => v.rever o ver rv :: go r
def reverS (o ver rv : Nat) : List (Nat × AV) → List (Nat × AV)
 | [] => []
 | (i,v) :: r => (i,v.rever o ver rv) :: reverS o ver rv r
def reverO (o ver rv : Nat) : List (Nat × AObj) → List (Nat × AObj)
 | [] => []
 | (n,.box cs) :: r => (n,.box (AV.rever.go o ver rv cs)) :: reverO o ver rv r
 | (n,.arr e v r0 p) :: r => (n,match Nat.beq n o with
  | true => .arr e 0 0 p
  | false => .arr e v r0 p) :: reverO o ver rv r
 | (n,.hol e v r0 p k) :: r => (n,.hol e v r0 p k) :: reverO o ver rv r
def ownAt (d : Nat) : List Nat → AV → Option (AV × Pay)
 | [],.nil p => some (.sl d 0,p)
 | k :: ks,.agg cs => match cs[k]? with
  | some v => match ownAt d ks v with
   | some (v',p) => some (.agg (cs.set k v'),p)
   | none => none
  | none => none
 | k :: ks,.tuple cs => match cs[k]? with
  | some v => match ownAt d ks v with
   | some (v',p) => some (.tuple (cs.set k v'),p)
   | none => none
  | none => none
 | _,_ => none
inductive Gh where
 | keep (s o : List Nat)
 | swap (a b : Nat)
 | rever (o : Nat)
 | own (i : Nat) (path : List Nat) (d : Nat) (e : TypeId)
 | ownc (o j : Nat) (d : Nat) (e : TypeId)
 | unb (i : Nat)
 | unbc (o j : Nat)
 | trunc (i : Nat)
 | give (io : List Nat)
def keepS (sl : List (Nat × AV)) : List Nat → List (Nat × AV)
 | [] => []
 | i :: r => (i,getS sl i) :: keepS sl r
def keepO (ob : List (Nat × AObj)) : List Nat → List (Nat × AObj)
 | [] => []
 | o :: r => match getO ob o with
  | some x => (o,x) :: keepO ob r
  | none => keepO ob r
def giveS (io : List Nat) (ob : List (Nat × AObj)) : List (Nat × AV) → List (Nat × AV)
 | [] => []
 | (i,v) :: r => (i,seen3 io ob v) :: giveS io ob r
def ghost (σ : ASt) : Gh → Option ASt
 | .keep s o => some ⟨keepS σ.sl s,keepO σ.ob o⟩
 | .swap a b => match Nat.blt a 2000,Nat.blt b 2000 with
  | true,true => some ⟨renS (swapN a b) σ.sl,renO (swapN a b) σ.ob⟩
  | false,true => match σ.free b with
   | true => some ⟨renS (swapN a b) σ.sl,renO (swapN a b) σ.ob⟩
   | false => none
  | _,_ => none
 | .rever o => match getO σ.ob o,Nat.blt o 2000 with
  | some (.arr _ ver rv _),true => some ⟨reverS o ver rv σ.sl,reverO o ver rv σ.ob⟩
  | _,_ => none
 | .own i path d e => match σ.free d,Nat.blt d 2000,ownAt d path (getS σ.sl i) with
  | true,true,some (v,p) => some ⟨(i,v) :: σ.sl,(d,.arr e 0 0 p) :: σ.ob⟩
  | _,_,_ => none
 | .ownc o j d e => match σ.free d,Nat.blt d 2000,getO σ.ob o with
  | true,true,some (.box cs) => match cs[j]? with
   | some (.nil p) => some ⟨σ.sl,(d,.arr e 0 0 p) :: (o,.box (cs.set j (.sl d 0))) :: σ.ob⟩
   | _ => none
  | _,_,_ => none
 | .unb i => match getS σ.sl i with
  | .blit b => some ⟨(i,.bool b) :: σ.sl,σ.ob⟩
  | _ => none
 | .unbc o j => match getO σ.ob o with
  | some (.box cs) => match cs[j]? with
   | some (.blit b) => some ⟨σ.sl,(o,.box (cs.set j (.bool b))) :: σ.ob⟩
   | _ => none
  | _ => none
 | .trunc i => match getS σ.sl i with
  | .slp o ver off len => match Nat.beq off 0,getO σ.ob o with
   | true,some (.arr e v _ p) => match Nat.beq v ver,p.isDeep with
    | true,false => some ⟨(i,.sl o (ver + 1)) :: σ.sl,(o,.arr e (ver + 1) 0 (p.take len)) :: σ.ob⟩
    | _,_ => none
   | _,_ => none
  | _ => none
 | .give io => some ⟨giveS io σ.ob σ.sl,pickO io σ.ob io⟩
theorem getS_keep (sl : List (Nat × AV)) (l : List Nat) (i : Nat) : getS (keepS sl l) i = if i ∈ l then getS sl i else .dead := by
 induction l with
 | nil => simp [keepS,getS]
 | cons n r ih =>
  simp only [keepS,getS,ih]
  by_cases h : n = i
  ·subst h; simp
  ·have h' : ¬ i = n := fun e => h e.symm
   simp [h,h']
theorem getO_keep (ob : List (Nat × AObj)) (l : List Nat) (o : Nat) : getO (keepO ob l) o = if o ∈ l then getO ob o else none := by
 induction l with
 | nil => simp [keepO,getO]
 | cons n r ih =>
  simp only [keepO]
  split
  ·rename_i x hx
   simp only [getO,ih]
   by_cases h : n = o
   ·subst h; simp [hx]
   ·have h' : ¬ o = n := fun e => h e.symm
    simp [h,h']
  ·rename_i hx
   rw [ih]
   by_cases h : o = n
   ·subst h; simp [hx]
   ·simp [h]
theorem getS_ren (f : Nat → Nat) (sl : List (Nat × AV)) (i : Nat) : getS (renS f sl) i = (getS sl i).ren f := by
 induction sl with
 | nil => rfl
 | cons x r ih =>
  obtain ⟨j,v⟩ := x
  simp only [renS,getS]
  split
  ·rfl
  ·exact ih
theorem getO_ren {f : Nat → Nat} (hf : ∀ x y,f x = f y → x = y) (ob : List (Nat × AObj)) (o : Nat) : getO (renO f ob) (f o) = (getO ob o).map (·.ren f) := by
 induction ob with
 | nil => rfl
 | cons x r ih =>
  obtain ⟨j,v⟩ := x
  simp only [renO,getO]
  by_cases h : j = o
  ·subst h; simp
  ·rw [if_neg (fun e => h (hf _ _ e)),if_neg h]; exact ih
theorem getS_rever (o ver rv : Nat) (sl : List (Nat × AV)) (i : Nat) : getS (reverS o ver rv sl) i = (getS sl i).rever o ver rv := by
 induction sl with
 | nil => rfl
 | cons x r ih =>
  obtain ⟨j,v⟩ := x
  simp only [reverS,getS]
  split
  ·rfl
  ·exact ih
def AObj.rever (o ver rv n : Nat) : AObj → AObj
 | .box cs => .box (AV.rever.go o ver rv cs)
 | .arr e v r0 p => match Nat.beq n o with
  | true => .arr e 0 0 p
  | false => .arr e v r0 p
 | .hol e v r0 p k => .hol e v r0 p k
theorem getO_rever (o ver rv : Nat) (ob : List (Nat × AObj)) (n : Nat) : getO (reverO o ver rv ob) n = (getO ob n).map (·.rever o ver rv n) := by
 induction ob with
 | nil => rfl
 | cons x r ih =>
  obtain ⟨j,v⟩ := x
  cases v <;> simp only [reverO,getO] <;> split <;> first | exact ih | (rename_i h; subst h; rfl)
mutual
theorem RelV.ren {R : View} {L L' : Locs} {f : Nat → Nat} (hL : ∀ o,L' (f o) = L o) : ∀ (a : AV) (v : Value),RelV R L a v → RelV R L' (a.ren f) v
 | .dead,_,_ => by simp [AV.ren,RelV]
 | .undf,v,h => by simpa [AV.ren,RelV] using h
 | .anyb _,v,h => by simpa [AV.ren,RelV] using h
 | .lst _ _,v,h => by simpa [AV.ren,RelV] using h
 | .int k n,v,h => by simpa [AV.ren,RelV] using h
 | .bool b,v,h => by simpa [AV.ren,RelV] using h
 | .blit b,v,h => by simpa [AV.ren,RelV] using h
 | .str l,v,h => by simpa [AV.ren,RelV] using h
 | .nilp,v,h => by simpa [AV.ren,RelV] using h
 | .nil p,v,h => by simpa [AV.ren,RelV] using h
 | .list p,v,h => by simpa [AV.ren,RelV] using h
 | .pelt p e fo,v,h => by simpa [AV.ren,RelV] using h
 | .agg cs,v,h => by
  simp only [AV.ren,RelV] at h ⊢
  obtain ⟨vs,h1,h2,h3⟩ := h
  exact ⟨vs,h1,RelVs.ren hL cs _ h2,h3⟩
 | .tuple cs,v,h => by
  simp only [AV.ren,RelV] at h ⊢
  obtain ⟨vs,h1,h2⟩ := h
  exact ⟨vs,h1,RelVs.ren hL cs _ h2⟩
 | .pbox cs i,v,h => by
  simp only [AV.ren,RelV] at h ⊢
  obtain ⟨b,vs,h1,h2,h3⟩ := h
  exact ⟨b,vs,h1,RelVs.ren hL cs _ h2,h3⟩
 | .func g a b,v,h => by
  simp only [AV.ren,RelV] at h ⊢
  obtain ⟨x,y,h1,h2,h3⟩ := h
  exact ⟨x,y,h1,RelVs.ren hL a _ h2,RelVs.ren hL b _ h3⟩
 | .ptr o i,v,h => by simp only [AV.ren,RelV] at h ⊢; rw [hL]; exact h
 | .sl o ver,v,h => by simp only [AV.ren,RelV,ArrV] at h ⊢; rw [hL]; exact h
 | .slp o ver off len,v,h => by simp only [AV.ren,RelV,ArrV] at h ⊢; rw [hL]; exact h
 | .sub o ver rv k,v,h => by simp only [AV.ren,RelV,ArrV] at h ⊢; rw [hL]; exact h
 | .eptr o ver e fo,v,h => by simp only [AV.ren,RelV,ArrV] at h ⊢; rw [hL]; exact h
 | .selt o ver rv k e fo,v,h => by simp only [AV.ren,RelV,ArrV] at h ⊢; rw [hL]; exact h
 | .subp o ver rv k off len,v,h => by simp only [AV.ren,RelV,ArrV] at h ⊢; rw [hL]; exact h
theorem RelVs.ren {R : View} {L L' : Locs} {f : Nat → Nat} (hL : ∀ o,L' (f o) = L o) : ∀ (as : List AV) (vs : List Value),RelVs R L as vs → RelVs R L' (AV.ren.go f as) vs
 | [],[],_ => by simp [AV.ren.go,RelVs]
 | [],_ :: _,h => by simp [RelVs] at h
 | _ :: _,[],h => by simp [RelVs] at h
 | a :: as,v :: vs,h => by
  simp only [AV.ren.go,RelVs] at h ⊢
  exact ⟨RelV.ren hL a v h.1,RelVs.ren hL as vs h.2⟩
end
section
variable {R : View} {L : Locs} {o ver rv sz szi : Nat} {hdr : Value} {inn : List Value}
theorem ArrV.rever {n v : Nat} {u : Value} {K : (rv sz szi : Nat) → (hdr : Value) → (inn : List Value) → Prop} {L' : Locs} (h : ArrV L n v u K) (hn : L' n = L n) : ArrV L' n v u K := by
 unfold ArrV at *
 rw [hn]
 exact h
theorem ArrV.rever0 {u : Value} {K K' : (rv sz szi : Nat) → (hdr : Value) → (inn : List Value) → Prop} {L' : Locs} (h : ArrV L o ver u K) (hL : L o = some (.arr ver rv sz szi hdr inn)) (hL' : L' o = some (.arr 0 0 sz szi hdr inn))
  (hK : K rv sz szi hdr inn → K' 0 sz szi hdr inn) : ArrV L' o 0 u K' := by
 obtain ⟨h0,ver',rv',sz',szi',hdr',inn',h1,h2,h3⟩ := h
 rw [hL] at h1
 injection h1 with h1
 injection h1 with e1 e2 e3 e4 e5 e6
 subst e1 e2 e3 e4 e5 e6
 exact ⟨h0,0,0,_,_,_,_,hL',Nat.le_refl _,fun _ => hK (h3 rfl)⟩
mutual
theorem RelV.rever {L' : Locs} (hL : L o = some (.arr ver rv sz szi hdr inn)) (hL' : L' o = some (.arr 0 0 sz szi hdr inn)) (hLn : ∀ n,n ≠ o → L' n = L n) : ∀ (a : AV) (v : Value),RelV R L a v → RelV R L' (a.rever o ver rv) v
 | .dead,_,_ => by simp [AV.rever,RelV]
 | .undf,v,h => by simpa [AV.rever,RelV] using h
 | .anyb _,v,h => by simpa [AV.rever,RelV] using h
 | .lst _ _,v,h => by simpa [AV.rever,RelV] using h
 | .int k n,v,h => by simpa [AV.rever,RelV] using h
 | .bool b,v,h => by simpa [AV.rever,RelV] using h
 | .blit b,v,h => by simpa [AV.rever,RelV] using h
 | .str l,v,h => by simpa [AV.rever,RelV] using h
 | .nilp,v,h => by simpa [AV.rever,RelV] using h
 | .nil p,v,h => by simpa [AV.rever,RelV] using h
 | .list p,v,h => by simpa [AV.rever,RelV] using h
 | .pelt p e fo,v,h => by simpa [AV.rever,RelV] using h
 | .agg cs,v,h => by
  simp only [AV.rever,RelV] at h ⊢
  obtain ⟨vs,h1,h2,h3⟩ := h
  exact ⟨vs,h1,RelVs.rever hL hL' hLn cs _ h2,h3⟩
 | .tuple cs,v,h => by
  simp only [AV.rever,RelV] at h ⊢
  obtain ⟨vs,h1,h2⟩ := h
  exact ⟨vs,h1,RelVs.rever hL hL' hLn cs _ h2⟩
 | .pbox cs i,v,h => by
  simp only [AV.rever,RelV] at h ⊢
  obtain ⟨b,vs,h1,h2,h3⟩ := h
  exact ⟨b,vs,h1,RelVs.rever hL hL' hLn cs _ h2,h3⟩
 | .func g a b,v,h => by
  simp only [AV.rever,RelV] at h ⊢
  obtain ⟨x,y,h1,h2,h3⟩ := h
  exact ⟨x,y,h1,RelVs.rever hL hL' hLn a _ h2,RelVs.rever hL hL' hLn b _ h3⟩
 | .ptr n i,v,h => by
  simp only [AV.rever]
  split
  ·simp [RelV]
  ·rename_i hb
   simp only [RelV] at h ⊢
   rw [hLn n (Nat.ne_of_beq_eq_false hb)]
   exact h
 | .sl n v0,v,h => by
  simp only [AV.rever]
  split
  ·rename_i hb
   have hn := Nat.eq_of_beq_eq_true hb
   subst hn
   split
   ·rename_i hv
    have hv := Nat.eq_of_beq_eq_true hv
    subst hv
    simp only [RelV] at h ⊢
    exact h.rever0 hL hL' id
   ·simp [RelV]
  ·rename_i hb
   simp only [RelV] at h ⊢
   exact h.rever (hLn n (Nat.ne_of_beq_eq_false hb))
 | .slp n v0 off len,v,h => by
  simp only [AV.rever]
  split
  ·rename_i hb
   have hn := Nat.eq_of_beq_eq_true hb
   subst hn
   split
   ·rename_i hv
    have hv := Nat.eq_of_beq_eq_true hv
    subst hv
    simp only [RelV] at h ⊢
    exact h.rever0 hL hL' id
   ·simp [RelV]
  ·rename_i hb
   simp only [RelV] at h ⊢
   exact h.rever (hLn n (Nat.ne_of_beq_eq_false hb))
 | .sub n v0 r0 k,v,h => by
  simp only [AV.rever]
  split
  ·rename_i hb
   have hn := Nat.eq_of_beq_eq_true hb
   subst hn
   split
   ·rename_i hv hr
    have hv := Nat.eq_of_beq_eq_true hv
    have hr := Nat.eq_of_beq_eq_true hr
    subst hv hr
    simp only [RelV] at h ⊢
    exact h.rever0 hL hL' fun hk => ⟨Nat.le_refl _,fun _ => hk.2 rfl⟩
   ·simp [RelV]
  ·rename_i hb
   simp only [RelV] at h ⊢
   exact h.rever (hLn n (Nat.ne_of_beq_eq_false hb))
 | .eptr n v0 e fo,v,h => by
  simp only [AV.rever]
  split
  ·rename_i hb
   have hn := Nat.eq_of_beq_eq_true hb
   subst hn
   split
   ·rename_i hv
    have hv := Nat.eq_of_beq_eq_true hv
    subst hv
    simp only [RelV] at h ⊢
    exact h.rever0 hL hL' id
   ·simp [RelV]
  ·rename_i hb
   simp only [RelV] at h ⊢
   exact h.rever (hLn n (Nat.ne_of_beq_eq_false hb))
 | .subp n v0 r0 k off len,v,h => by
  simp only [AV.rever]
  split
  ·simp [RelV]
  ·rename_i hb
   simp only [RelV] at h ⊢
   exact h.rever (hLn n (Nat.ne_of_beq_eq_false hb))
 | .selt n v0 r0 k e fo,v,h => by
  simp only [AV.rever]
  split
  ·rename_i hb
   have hn := Nat.eq_of_beq_eq_true hb
   subst hn
   split
   ·rename_i hv hr
    have hv := Nat.eq_of_beq_eq_true hv
    have hr := Nat.eq_of_beq_eq_true hr
    subst hv hr
    simp only [RelV] at h ⊢
    exact h.rever0 hL hL' fun hk => ⟨Nat.le_refl _,fun _ => hk.2 rfl⟩
   ·simp [RelV]
  ·rename_i hb
   simp only [RelV] at h ⊢
   exact h.rever (hLn n (Nat.ne_of_beq_eq_false hb))
theorem RelVs.rever {L' : Locs} (hL : L o = some (.arr ver rv sz szi hdr inn)) (hL' : L' o = some (.arr 0 0 sz szi hdr inn)) (hLn : ∀ n,n ≠ o → L' n = L n) : ∀ (as : List AV) (vs : List Value),RelVs R L as vs → RelVs R L' (AV.rever.go o ver rv as) vs
 | [],[],_ => by simp [AV.rever.go,RelVs]
 | [],_ :: _,h => by simp [RelVs] at h
 | _ :: _,[],h => by simp [RelVs] at h
 | a :: as,v :: vs,h => by
  simp only [AV.rever.go,RelVs] at h ⊢
  exact ⟨RelV.rever hL hL' hLn a v h.1,RelVs.rever hL hL' hLn as vs h.2⟩
end
end
end Go.AM
namespace Go.AM
section
variable {P : Program} {T : TEnv} {w0 : World} {F0 : Nat → Prop} {L0 : Locs} {nt : Nat} {σ σ' : ASt} {a : Act} {w : World} {L : Locs} {fp : Nat → List Nat}
theorem ghost_keep {s o : List Nat} (h : StW w0 F0 L0 nt σ a w L fp) : StW w0 F0 L0 nt ⟨keepS σ.sl s,keepO σ.ob o⟩ a w L fp := by
 have hsome : ∀ n x,getO (keepO σ.ob o) n = some x → getO σ.ob n = some x := by
  intro n x hx
  rw [getO_keep] at hx
  split at hx
  ·exact hx
  ·cases hx
 have hs : ∀ n,(getO (keepO σ.ob o) n).isSome = true → (getO σ.ob n).isSome = true := by
  intro n hn
  cases hx : getO (keepO σ.ob o) n with
  | none => rw [hx] at hn; cases hn
  | some x => rw [hsome n x hx]; rfl
 have hsub : ∀ b,Owned (keepO σ.ob o) fp b → Owned σ.ob fp b := fun b ⟨n,h1,h2⟩ => ⟨n,hs n h1,h2⟩
 have hv : ViewLe (view w (Owned σ.ob fp)) (view w (Owned (keepO σ.ob o) fp)) := view_change (fun _ _ _ => rfl) fun b hb => .inl (hsub b hb)
 refine ⟨⟨fun n x hx => ?_,fun n b hn => h.owns.lt n b (hs n hn),fun n hn => h.owns.nodup n (hs n hn),fun n n' b hn hn' => h.owns.disj n n' b (hs n hn) (hs n' hn')⟩,h.kept,fun b hb => h.fresh b (hsub b hb),fun i => ?_,h.defers,h.size,h.le⟩
 ·obtain ⟨l,h1,h2⟩ := h.owns.obj n x (hsome n x hx)
  exact ⟨l,h1,h2.keep hv (fun _ _ => LocsLe.refl _ _) fun _ _ => rfl⟩
 ·show RelV _ _ (getS (keepS σ.sl s) i) _
  rw [getS_keep]
  split
  ·exact (h.slots i).mono hv _ _ (LocsLe.refl _ _)
  ·simp [RelV]
theorem ghost_swap {x y : Nat} (hle : ∀ o l,L0 o = some l → L (swapN x y o) = L o) (h : StW w0 F0 L0 nt σ a w L fp) :
  StW w0 F0 L0 nt ⟨renS (swapN x y) σ.sl,renO (swapN x y) σ.ob⟩ a w (fun o => L (swapN x y o)) (fun o => fp (swapN x y o)) := by
 have hinv := swapN_inv x y
 have hg : ∀ n,getO (renO (swapN x y) σ.ob) n = (getO σ.ob (swapN x y n)).map (·.ren (swapN x y)) := fun n => by
  have := getO_ren (f := swapN x y) (fun a b h => swapN_inj h) σ.ob (swapN x y n)
  rwa [hinv] at this
 have hs : ∀ n,(getO (renO (swapN x y) σ.ob) n).isSome = true → (getO σ.ob (swapN x y n)).isSome = true := fun n hn => by rw [hg] at hn; simpa using hn
 have hown : ∀ b,Owned (renO (swapN x y) σ.ob) (fun o => fp (swapN x y o)) b → Owned σ.ob fp b := fun b ⟨n,h1,h2⟩ => ⟨swapN x y n,hs n h1,h2⟩
 have hv : ViewLe (view w (Owned σ.ob fp)) (view w (Owned (renO (swapN x y) σ.ob) (fun o => fp (swapN x y o)))) := view_change (fun _ _ _ => rfl) fun b hb => .inl (hown b hb)
 have hLr : ∀ o,(fun o => L (swapN x y o)) (swapN x y o) = L o := fun o => by simp only [hinv]
 refine ⟨⟨fun n z hz => ?_,fun n b hn => h.owns.lt _ b (hs n hn),fun n hn => h.owns.nodup _ (hs n hn),fun n n' b hn hn' hne => h.owns.disj _ _ b (hs n hn) (hs n' hn') (fun e => hne (swapN_inj e))⟩,h.kept,fun b hb => h.fresh b (hown b hb),fun i => ?_,h.defers,h.size,?_⟩
 ·rw [hg] at hz
  cases hz0 : getO σ.ob (swapN x y n) with
  | none => rw [hz0] at hz; cases hz
  | some z0 =>
   rw [hz0] at hz
   simp only [Option.map_some,Option.some.injEq] at hz
   subst hz
   obtain ⟨l,h1,h2⟩ := h.owns.obj _ z0 hz0
   refine ⟨l,h1,?_⟩
   cases z0 with
   | arr e ver rv p => exact h2
   | hol e ver rv p kk => exact h2
   | box cs =>
    obtain ⟨b,t,us,k1,k2,k3,k4,k5⟩ := h2
    exact ⟨b,t,us,k1,k2,k3,RelVs.ren (L' := fun o => L (swapN x y o)) (f := swapN x y) hLr _ _ (k4.mono hv _ _ (LocsLe.refl _ _)),k5⟩
 ·show RelV _ _ (getS (renS (swapN x y) σ.sl) i) _
  rw [getS_ren]
  exact RelV.ren (L' := fun o => L (swapN x y o)) (f := swapN x y) hLr _ _ ((h.slots i).mono hv _ _ (LocsLe.refl _ _))
 ·intro o b _ hb
  have h2 := h.le o b trivial hb
  simpa only [hle o b hb] using h2
theorem ghost_loc {y : Nat} (l : Option Loc) (hf : σ.free y = true) (hy : y < 2000) (hL0 : ∀ o l,L0 o = some l → 2000 ≤ o) (h : StW w0 F0 L0 nt σ a w L fp) : StW w0 F0 L0 nt σ a w (updN L y l) fp := by
 obtain ⟨g1,g2,g3⟩ := free_parts hf
 have hLn : ∀ n,n ≠ y → updN L y l n = L n := fun n hn => updN_other _ _ _ hn
 refine ⟨⟨fun o x hx => ?_,h.owns.lt,h.owns.nodup,h.owns.disj⟩,h.kept,h.fresh,fun i => ?_,h.defers,h.size,fun o m _ hm => ?_⟩
 ·have ho : o ≠ y := fun e => by subst e; rw [g1] at hx; cases hx
  obtain ⟨m,h1,h2⟩ := h.owns.obj o x hx
  refine ⟨m,by rw [hLn o ho]; exact h1,?_⟩
  cases x with
  | arr e ver rv p => exact h2
  | hol e ver rv p kk => exact h2
  | box cs =>
   obtain ⟨b,t,us,k1,k2,k3,k4,k5⟩ := h2
   refine ⟨b,t,us,k1,k2,k3,k4.mono (ViewLe.refl _) _ _ fun n m hn hm => ⟨m,?_,LocLe.refl _⟩,k5⟩
   have : n ≠ y := fun e => by subst e; have hn' : AV.free.go n cs = false := hn; rw [freeO_get g3 hx] at hn'; cases hn'
   rw [hLn n this]
   exact hm
 ·refine (h.slots i).mono (ViewLe.refl _) _ _ fun n m hn hm => ⟨m,?_,LocLe.refl _⟩
  have : n ≠ y := fun e => by subst e; have hn' : (getS σ.sl i).free n = false := hn; rw [freeS_get g2 i] at hn'; cases hn'
  rw [hLn n this]
  exact hm
 ·have : o ≠ y := fun e => by have := hL0 o m hm; omega
  rw [hLn o this]
  exact h.le o m trivial hm
theorem ghost_rever {o e ver rv : Nat} {p : Pay} (hL0 : ∀ o l,L0 o = some l → 2000 ≤ o) (ho : o < 2000) (h : StW w0 F0 L0 nt σ a w L fp) (hg : getO σ.ob o = some (.arr e ver rv p)) :
  ∃ L',StW w0 F0 L0 nt ⟨reverS o ver rv σ.sl,reverO o ver rv σ.ob⟩ a w L' fp := by
 obtain ⟨l,h1,hdr,inn,rfl,h3⟩ := h.owns.obj o _ hg
 have hL' : updN L o (some (.arr 0 0 p.size p.sizei hdr inn)) o = some (.arr 0 0 p.size p.sizei hdr inn) := updN_same _ _ _
 have hLn : ∀ n,n ≠ o → updN L o (some (.arr 0 0 p.size p.sizei hdr inn)) n = L n := fun n hn => updN_other _ _ _ hn
 have hs : ∀ n,(getO (reverO o ver rv σ.ob) n).isSome = (getO σ.ob n).isSome := fun n => by rw [getO_rever]; simp
 have hown : ∀ b,Owned (reverO o ver rv σ.ob) fp b → Owned σ.ob fp b := fun b ⟨n,h1,h2⟩ => ⟨n,by rw [← hs]; exact h1,h2⟩
 have hv : ViewLe (view w (Owned σ.ob fp)) (view w (Owned (reverO o ver rv σ.ob) fp)) := view_change (fun _ _ _ => rfl) fun b hb => .inl (hown b hb)
 refine ⟨updN L o (some (.arr 0 0 p.size p.sizei hdr inn)),⟨fun n x hx => ?_,fun n b hn => h.owns.lt n b (by rw [← hs]; exact hn),fun n hn => h.owns.nodup n (by rw [← hs]; exact hn),fun n n' b hn hn' => h.owns.disj n n' b (by rw [← hs]; exact hn) (by rw [← hs]; exact hn')⟩,
  h.kept,fun b hb => h.fresh b (hown b hb),fun i => ?_,h.defers,h.size,?_⟩
 ·rw [getO_rever] at hx
  cases hx0 : getO σ.ob n with
  | none => rw [hx0] at hx; cases hx
  | some x0 =>
   rw [hx0] at hx
   simp only [Option.map_some,Option.some.injEq] at hx
   subst hx
   obtain ⟨l,k1,k2⟩ := h.owns.obj n x0 hx0
   cases x0 with
   | box cs =>
    obtain ⟨b,t,us,rfl,m2,m3,m4,m5⟩ := k2
    have hne : n ≠ o := fun e => by subst e; rw [k1] at h1; cases h1
    exact ⟨.box b,by rw [hLn n hne]; exact k1,b,t,us,rfl,m2,m3,RelVs.rever h1 hL' hLn _ _ (m4.mono hv _ _ (LocsLe.refl _ _)),m5⟩
   | arr e' v' r' p' =>
    obtain ⟨hdr',inn',rfl,m2⟩ := k2
    simp only [AObj.rever]
    split
    ·rename_i hb
     have hn := Nat.eq_of_beq_eq_true hb
     subst hn
     rw [hg] at hx0
     cases hx0
     rw [k1] at h1
     injection h1 with h1
     injection h1 with _ _ _ _ e5 e6
     subst e5 e6
     exact ⟨_,hL',hdr',inn',rfl,m2⟩
    ·rename_i hb
     exact ⟨_,(hLn n (Nat.ne_of_beq_eq_false hb)).trans k1,hdr',inn',rfl,m2⟩
   | hol e' v' r' p' kk =>
    obtain ⟨hdr',inn',rfl,m2⟩ := k2
    have hne : n ≠ o := fun e => by subst e; rw [hg] at hx0; cases hx0
    exact ⟨_,(hLn n hne).trans k1,hdr',inn',rfl,m2⟩
 ·show RelV _ _ (getS (reverS o ver rv σ.sl) i) _
  rw [getS_rever]
  exact RelV.rever h1 hL' hLn _ _ ((h.slots i).mono hv _ _ (LocsLe.refl _ _))
 ·intro n b _ hb
  have h2 := h.le n b trivial hb
  have hne : n ≠ o := fun e => by subst e; have := hL0 n b hb; omega
  rw [hLn n hne]
  exact h2
theorem own_new {d e : Nat} {p : Pay} (hL0 : ∀ o l,L0 o = some l → 2000 ≤ o) (hf : σ.free d = true) (hd2 : d < 2000) (h0 : p.len = 0) (h : StW w0 F0 L0 nt σ a w L fp) :
  StW w0 F0 L0 nt ⟨σ.sl,(d,.arr e 0 0 p) :: σ.ob⟩ a w (updN L d (some (.arr 0 0 p.size p.sizei (.slice none 0 0) []))) (updN fp d []) ∧
   ViewLe (view w (Owned σ.ob fp)) (view w (Owned ((d,.arr e 0 0 p) :: σ.ob) (updN fp d []))) ∧ LocsLe L (updN L d (some (.arr 0 0 p.size p.sizei (.slice none 0 0) []))) (fun o => o ≠ d) := by
 have h1 := h.new hL0 (w' := w) (x := .arr e 0 0 p) (l := .arr 0 0 p.size p.sizei (.slice none 0 0) []) (f := []) (used := none) (dst := none) (av := .dead) (v := undef) hf hd2 (by simp) (Kept.refl _ _) (by simp) (by simp)
  (fun ob' fp' hR hLle => ⟨_,_,rfl,own_nil h0⟩) rfl (fun _ _ _ => by simp [RelV])
 refine ⟨h1,view_change (fun _ _ _ => rfl) fun b hb => .inl ?_,fun o l ho hl => ⟨l,by rw [updN_other _ _ _ ho]; exact hl,LocLe.refl _⟩⟩
 obtain ⟨n,h2,h3⟩ := hb
 by_cases e : n = d
 ·subst e; rw [updN_same] at h3; cases h3
 ·rw [updN_other _ _ _ e] at h3
  refine ⟨n,?_,h3⟩
  have : ¬ d = n := fun e' => e e'.symm
  simpa [getO,this] using h2
theorem free_at : ∀ (k : Nat) (cs : List AV) (x : AV),cs[k]? = some x → ∀ o,x.free o = false → AV.free.go o cs = false
 | _,[],_,h,_,_ => by simp at h
 | 0,y :: r,x,h,o,ho => by
  simp at h
  subst h
  simp [AV.free.go,ho]
 | k + 1,y :: r,x,h,o,ho => by
  have := free_at k r x (by simpa using h) o ho
  simp [AV.free.go,this]
theorem ownAt_rel {R : View} {L : Locs} {d : Nat} : ∀ (path : List Nat) (v v' : AV) (p : Pay) (u : Value),ownAt d path v = some (v',p) → RelV R L v u →
  p.len = 0 ∧ ∀ (R' : View) (L' : Locs),ViewLe R R' → LocsLe L L' (fun o => v.free o = false) → L' d = some (.arr 0 0 p.size p.sizei (.slice none 0 0) []) → RelV R' L' v' u := by
 intro path
 induction path with
 | nil =>
  intro v v' p u hv hr
  cases v <;> simp only [ownAt,reduceCtorEq,Option.some.injEq,Prod.mk.injEq] at hv
  obtain ⟨rfl,rfl⟩ := hv
  simp only [RelV] at hr
  obtain ⟨rfl,h0⟩ := hr
  refine ⟨h0,fun R' L' _ _ hd => ?_⟩
  simp only [RelV]
  exact ⟨rfl,_,_,_,_,_,_,hd,Nat.le_refl _,fun _ => rfl⟩
 | cons k ks ih =>
  intro v v' p u hv hr
  cases v <;> simp only [ownAt,reduceCtorEq] at hv
  case agg cs =>
   split at hv
   case h_2 => cases hv
   rename_i x hx
   split at hv
   case h_2 => cases hv
   rename_i x' q hq
   cases hv
   simp only [RelV] at hr
   obtain ⟨vs,rfl,h2,h3⟩ := hr
   have hk : k < cs.length := (List.getElem?_eq_some_iff.1 hx).1
   have hu : vs.toList[k]? = some (vs.toList[k]'(by rw [← h2.length]; exact hk)) := List.getElem?_eq_getElem _
   obtain ⟨g1,g2⟩ := ih x x' _ _ hq (h2.get k x _ hx hu)
   refine ⟨g1,fun R' L' hR hL hd => ?_⟩
   simp only [RelV]
   refine ⟨vs,rfl,?_,h3⟩
   have hm : RelVs R' L' cs vs.toList := h2.mono hR _ _ (hL.mono fun o ho => by simpa [AV.free] using ho)
   have := hm.set k (g2 R' L' hR (hL.mono fun o ho => by simpa [AV.free] using free_at k cs x hx o ho) hd)
   rwa [List.set_getElem_self] at this
  case tuple cs =>
   split at hv
   case h_2 => cases hv
   rename_i x hx
   split at hv
   case h_2 => cases hv
   rename_i x' q hq
   cases hv
   simp only [RelV] at hr
   obtain ⟨vs,rfl,h2⟩ := hr
   have hk : k < cs.length := (List.getElem?_eq_some_iff.1 hx).1
   have hu : vs.toList[k]? = some (vs.toList[k]'(by rw [← h2.length]; exact hk)) := List.getElem?_eq_getElem _
   obtain ⟨g1,g2⟩ := ih x x' _ _ hq (h2.get k x _ hx hu)
   refine ⟨g1,fun R' L' hR hL hd => ?_⟩
   simp only [RelV]
   refine ⟨vs,rfl,?_⟩
   have hm : RelVs R' L' cs vs.toList := h2.mono hR _ _ (hL.mono fun o ho => by simpa [AV.free] using ho)
   have := hm.set k (g2 R' L' hR (hL.mono fun o ho => by simpa [AV.free] using free_at k cs x hx o ho) hd)
   rwa [List.set_getElem_self] at this
theorem rebox {n : Nat} {cs cs' : List AV} (hn : getO σ.ob n = some (.box cs)) (hc : ∀ (R : View) (us : List Value),RelVs R L cs us → RelVs R L cs' us) (h : StW w0 F0 L0 nt σ a w L fp) :
  StW w0 F0 L0 nt ⟨σ.sl,(n,.box cs') :: σ.ob⟩ a w L fp := by
 have hs : ∀ o,(getO ((n,AObj.box cs') :: σ.ob) o).isSome = (getO σ.ob o).isSome := fun o => by
  simp only [getO]
  split
  ·rename_i e; subst e; rw [hn]; rfl
  ·rfl
 have hown : Owned ((n,AObj.box cs') :: σ.ob) fp = Owned σ.ob fp := by
  funext b
  unfold Owned
  simp only [hs]
 refine ⟨⟨fun o x hx => ?_,fun o b ho => h.owns.lt o b (by rw [← hs]; exact ho),fun o ho => h.owns.nodup o (by rw [← hs]; exact ho),fun o o' b ho ho' => h.owns.disj o o' b (by rw [← hs]; exact ho) (by rw [← hs]; exact ho')⟩,h.kept,fun b hb => h.fresh b (by rw [← hown]; exact hb),fun i => ?_,h.defers,h.size,h.le⟩
 ·show ∃ l,L o = some l ∧ ObjRel (view w (Owned ((n,AObj.box cs') :: σ.ob) fp)) L w x l (fp o)
  rw [hown]
  by_cases e : n = o
  ·subst e
   have hx' : getO ((n,AObj.box cs') :: σ.ob) n = some x := hx
   simp only [getO,if_true] at hx'
   cases hx'
   obtain ⟨l,h1,b,t,us,k1,k2,k3,k4,k5⟩ := h.owns.obj n _ hn
   exact ⟨l,h1,b,t,us,k1,k2,k3,hc _ _ k4,k5⟩
  ·have hx' : getO ((n,AObj.box cs') :: σ.ob) o = some x := hx
   simp only [getO,if_neg e] at hx'
   exact h.owns.obj o x hx'
 ·show RelV (view w (Owned ((n,AObj.box cs') :: σ.ob) fp)) L _ _
  rw [hown]
  exact h.slots i
theorem take_flat {p : Pay} (h : p.subs = none) (n : Nat) : (p.take n).subs = none ∧ (p.take n).size = p.size ∧ (p.take n).sizei = p.sizei ∧ (p.take n).vals = p.vals.take (n * p.size) := by
 have hr : ∀ (l : List Q) (n : Nat),(Pay.rats (l.take n)).vals = (Pay.rats l).vals.take (n * 2) := by
  intro l
  induction l with
  | nil => intro n; simp [Pay.vals]
  | cons x r ih =>
   intro n
   cases n with
   | zero => simp [Pay.vals]
   | succ n =>
    have := ih n
    simp only [Pay.vals,List.take_succ_cons,List.flatMap_cons] at this ⊢
    rw [this,show (n + 1) * 2 = n * 2 + 1 + 1 by omega]
    rfl
 cases p <;> simp only [Pay.subs,reduceCtorEq] at h <;> refine ⟨rfl,rfl,rfl,?_⟩ <;> first | exact hr _ _ | simp [Pay.take,Pay.vals,Pay.size,List.map_take]
theorem ghost_trunc {o e i ver rv len : Nat} {p : Pay} (h : StW w0 F0 L0 nt σ a w L fp) (hg : getO σ.ob o = some (.arr e ver rv p)) (hp : p.isDeep = false) (hi : getS σ.sl i = .slp o ver 0 len) :
  ∃ L' fp',StW w0 F0 L0 nt ⟨(i,.sl o (ver + 1)) :: σ.sl,(o,.arr e (ver + 1) 0 (p.take len)) :: σ.ob⟩ a w L' fp' := by
 have hs := h.slots i
 rw [hi] at hs
 simp only [RelV] at hs
 obtain ⟨hdr,inn,hL,hS,hown⟩ := arr_get h.owns hg hs
 have hone := hs.1
 obtain ⟨A,n,c,A',c',s1,s2,s3,s4,_,s6⟩ := hS
 obtain ⟨rfl,rfl⟩ := s6 rfl
 have hsub := subs_flat.1 hp
 obtain ⟨t1,t2,t3,t4⟩ := take_flat hsub len
 unfold OwnAt at hown
 rw [hsub] at hown
 obtain ⟨hinn,hrow,hfp⟩ := hown
 have hn : n = p.len ∧ p.vals.length = p.len * p.size := by
  obtain ⟨r1,r2⟩ := hrow
  refine ⟨?_,r1⟩
  rcases r2 with ⟨r2,r3⟩ | ⟨g,cap,cur,r2,_⟩
  ·rw [s1] at r2; injection r2 with _ r4 _; omega
  ·rw [s1] at r2; injection r2
 have hlen : (p.take len).len = len := by
  have hle : len ≤ p.len := by omega
  cases p <;> simp only [Pay.take,Pay.len,List.length_take] at hle ⊢ <;> omega
 have hrow' : w.ownsRow 0 e (p.take len).size (a.tmps.getD i undef) (p.take len).len (p.take len).vals := by
  rw [t2,hlen,t4]
  obtain ⟨r1,r2⟩ := hrow
  refine ⟨by rw [List.length_take,r1]; exact Nat.min_eq_left (Nat.mul_le_mul_right _ (by omega)),?_⟩
  rcases r2 with ⟨r2,r3⟩ | ⟨g,cap,cur,r2,r3,r4,r5,r6,r7,r8⟩
  ·rw [s1] at r2
   injection r2 with q1 q2 q3
   subst q1 q2 q3
   refine .inl ⟨by rw [s3,show len = 0 by omega],by omega⟩
  ·rw [s1] at r2
   injection r2 with q1 q2 q3
   subst q1 q2 q3
   refine .inr ⟨g,c',cur,s3,r3,r4,s4,r6,r7,?_⟩
   rw [← r8,List.take_take,Nat.min_eq_left (Nat.mul_le_mul_right _ (by omega))]
 have hblk : hdr.ownBlock = (a.tmps.getD i undef).ownBlock := by rw [s1,s3]; cases A' <;> rfl
 have k := h.upd (w' := w) (l := .arr (ver + 1) 0 (p.take len).size (p.take len).sizei (a.tmps.getD i undef) []) (f := fp o) (used := none) (x := .arr e (ver + 1) 0 (p.take len)) (dst := none) (av := .dead) (v := undef) hg hL
  ⟨by omega,fun e => by omega⟩ (by simp) (Kept.refl _ _) (fun b hb => ⟨h.owns.lt o b (by rw [hg]; rfl) hb,.inr (.inl hb)⟩) (h.owns.nodup o (by rw [hg]; rfl))
  (fun ob' fp' hR hLle => ⟨_,_,rfl,by
   unfold OwnAt
   rw [t1]
   exact ⟨rfl,hrow',by rw [hfp,hblk]⟩⟩) rfl (fun _ _ _ => by simp [RelV])
 refine ⟨_,_,k.owns,k.kept,k.fresh,fun j => ?_,k.defers,k.size,k.le⟩
 simp only [getS]
 split
 ·rename_i e1
  subst e1
  simp only [RelV]
  exact ⟨hone,_,_,_,_,_,_,updN_same _ _ _,Nat.le_refl _,fun _ => rfl⟩
 ·exact k.slots j
theorem getS_give (io : List Nat) (ob : List (Nat × AObj)) : ∀ (sl : List (Nat × AV)) (i : Nat),getS (giveS io ob sl) i = seen3 io ob (getS sl i)
 | [],i => rfl
 | (j,v) :: r,i => by
  simp only [giveS,getS]
  split
  ·rfl
  ·exact getS_give io ob r i
theorem ghost_give {io : List Nat} (h : StW w0 F0 L0 nt σ a w L fp) : StW w0 F0 L0 nt ⟨giveS io σ.ob σ.sl,pickO io σ.ob io⟩ a w L fp := by
 obtain ⟨hpo,hsub,hnot⟩ := pick_owns h.owns io
 have hv0 : ViewLe (view w (Owned σ.ob fp)) (view w (Owned (pickO io σ.ob io) fp)) := view_change (fun _ _ _ => rfl) fun b hb => .inl (hsub b hb)
 refine ⟨hpo,h.kept,fun b hb => h.fresh b (hsub b hb),fun i => ?_,h.defers,h.size,h.le⟩
 show RelV _ _ (getS (giveS io σ.ob σ.sl) i) _
 rw [getS_give]
 exact seen3_rel h.owns hv0 (fun o x b hio hg hb c t fr hh => view_of (hnot o x b hio hg hb) hh) (h.slots i)
theorem ghost_ok {g : Gh} (hL0 : ∀ o l,L0 o = some l → 2000 ≤ o) (h : St w0 F0 L0 nt σ a w) (hg : ghost σ g = some σ') : St w0 F0 L0 nt σ' a w := by
 obtain ⟨L,fp,h⟩ := h
 cases g with
 | keep s o =>
  simp only [ghost,Option.some.injEq] at hg
  subst hg
  exact ⟨L,fp,ghost_keep h⟩
 | swap x y =>
  simp only [ghost] at hg
  split at hg
  ·rename_i h1 h2
   cases hg
   have hx := Nat.le_of_ble_eq_true h1
   have hy := Nat.le_of_ble_eq_true h2
   exact ⟨_,_,ghost_swap (fun o l ho => by
    have h1 := hL0 o _ ho
    have : swapN x y o = o := by unfold swapN; rw [if_neg (by omega),if_neg (by omega)]
    rw [this]) h⟩
  ·rename_i h1 h2
   split at hg
   ·rename_i hf
    cases hg
    have hy := Nat.le_of_ble_eq_true h2
    have hx : ¬ x < 2000 := fun hx => by
     have := Nat.ble_eq_true_of_le hx
     unfold Nat.blt at h1
     rw [this] at h1
     cases h1
    refine ⟨_,_,ghost_swap (fun o l ho => ?_) (ghost_loc (L x) hf hy hL0 h)⟩
    have h3 := hL0 o _ ho
    have hne : x ≠ y := by omega
    by_cases e : o = x
    ·subst e
     have : swapN o y o = y := by unfold swapN; rw [if_pos rfl]
     rw [this,updN_same,updN_other _ _ _ hne]
    ·have : swapN x y o = o := by unfold swapN; rw [if_neg e,if_neg (by omega)]
     rw [this]
   ·cases hg
  ·cases hg
 | rever o =>
  simp only [ghost] at hg
  split at hg
  ·rename_i e ver rv p hp ho
   cases hg
   obtain ⟨L',h'⟩ := ghost_rever hL0 (Nat.le_of_ble_eq_true ho) h hp
   exact ⟨L',fp,h'⟩
  ·cases hg
 | give io =>
  simp only [ghost,Option.some.injEq] at hg
  subst hg
  exact ⟨L,fp,ghost_give h⟩
 | trunc i =>
  simp only [ghost] at hg
  split at hg
  case h_2 => cases hg
  rename_i o ver off len hi
  split at hg
  case h_2 => cases hg
  rename_i e v rv p h0 hgo
  split at hg
  case h_2 => cases hg
  rename_i hv hp
  cases hg
  have h0 := Nat.eq_of_beq_eq_true h0
  have hv := Nat.eq_of_beq_eq_true hv
  subst h0 hv
  exact ghost_trunc h hgo hp hi
 | own i path d e =>
  simp only [ghost] at hg
  split at hg
  case h_2 => cases hg
  rename_i v p hf hd hv
  cases hg
  obtain ⟨h0,h1⟩ := ownAt_rel path _ _ _ _ hv (h.slots i)
  obtain ⟨k1,k2,k3⟩ := own_new (e := e) hL0 hf (Nat.le_of_ble_eq_true hd) h0 h
  refine ⟨_,_,k1.owns,k1.kept,k1.fresh,fun j => ?_,k1.defers,k1.size,k1.le⟩
  simp only [getS]
  split
  ·rename_i e1
   subst e1
   refine h1 _ _ k2 (k3.mono fun o ho e2 => ?_) (updN_same _ _ _)
   subst e2
   have := freeS_get (free_parts hf).2.1 i
   rw [this] at ho
   cases ho
  ·exact k1.slots j
 | unb i =>
  simp only [ghost] at hg
  split at hg
  ·rename_i b hb
   cases hg
   refine ⟨L,fp,h.owns,h.kept,h.fresh,fun j => ?_,h.defers,h.size,h.le⟩
   simp only [getS]
   split
   ·rename_i e
    subst e
    have := h.slots i
    rw [hb] at this
    simpa only [RelV] using this
   ·exact h.slots j
  ·cases hg
 | unbc n j =>
  simp only [ghost] at hg
  split at hg
  ·rename_i cs hn
   split at hg
   ·rename_i b hb
    cases hg
    refine ⟨L,fp,rebox hn (fun R us hr => ?_) h⟩
    have hk : j < cs.length := (List.getElem?_eq_some_iff.1 hb).1
    have hu : us[j]? = some (us[j]'(by rw [← hr.length]; exact hk)) := List.getElem?_eq_getElem _
    have h1 := hr.get j _ _ hb hu
    have hset := hr.set j (a := .bool b) (v := us[j]'(by rw [← hr.length]; exact hk)) (by simpa only [RelV] using h1)
    rwa [List.set_getElem_self] at hset
   ·cases hg
  ·cases hg
 | ownc n j d e =>
  simp only [ghost] at hg
  split at hg
  case h_2 => cases hg
  rename_i cs hf hd hn
  split at hg
  case h_2 => cases hg
  rename_i p hj
  cases hg
  obtain ⟨l,h1,b,t,us,rfl,m2,m3,m4,m5⟩ := h.owns.obj n _ hn
  have hk : j < cs.length := (List.getElem?_eq_some_iff.1 hj).1
  have hu : us.toList[j]? = some (us.toList[j]'(by rw [← m4.length]; exact hk)) := List.getElem?_eq_getElem _
  have hr := m4.get j _ _ hj hu
  simp only [RelV] at hr
  obtain ⟨k1,k2,k3⟩ := own_new (e := e) hL0 hf (Nat.le_of_ble_eq_true hd) hr.2 h
  have hdn : ¬ d = n := fun e1 => by subst e1; rw [(free_parts hf).1] at hn; cases hn
  have hg' : ∀ o,¬ n = o → getO ((d,AObj.arr e 0 0 p) :: (n,.box (cs.set j (.sl d 0))) :: σ.ob) o = getO ((d,AObj.arr e 0 0 p) :: σ.ob) o := fun o ho => by
   simp only [getO]
   rw [if_neg ho]
  have hgn : getO ((d,AObj.arr e 0 0 p) :: (n,.box (cs.set j (.sl d 0))) :: σ.ob) n = some (.box (cs.set j (.sl d 0))) := by simp [getO,hdn]
  have hs : ∀ o,(getO ((d,AObj.arr e 0 0 p) :: (n,.box (cs.set j (.sl d 0))) :: σ.ob) o).isSome = (getO ((d,AObj.arr e 0 0 p) :: σ.ob) o).isSome := fun o => by
   by_cases ho : n = o
   ·subst ho
    rw [hgn]
    simp [getO,hdn,hn]
   ·rw [hg' o ho]
  have hown : ∀ c,Owned ((d,AObj.arr e 0 0 p) :: (n,.box (cs.set j (.sl d 0))) :: σ.ob) (updN fp d []) c = Owned ((d,AObj.arr e 0 0 p) :: σ.ob) (updN fp d []) c := fun c => by
   unfold Owned
   simp only [hs]
  have hown' : Owned ((d,AObj.arr e 0 0 p) :: (n,.box (cs.set j (.sl d 0))) :: σ.ob) (updN fp d []) = Owned ((d,AObj.arr e 0 0 p) :: σ.ob) (updN fp d []) := funext hown
  have ho := k1.owns
  refine ⟨updN L d (some (.arr 0 0 p.size p.sizei (.slice none 0 0) [])),updN fp d [],⟨fun o x hx => ?_,fun o c hc => ?_,fun o hc => ?_,fun o o' c hc hc' => ?_⟩,k1.kept,fun c hc => k1.fresh c (by rw [← hown]; exact hc),fun i => ?_,k1.defers,k1.size,k1.le⟩
  ·show ∃ l,_ ∧ ObjRel (view w (Owned ((d,AObj.arr e 0 0 p) :: (n,.box (cs.set j (.sl d 0))) :: σ.ob) (updN fp d []))) _ w x l _
   rw [hown']
   by_cases hno : n = o
   ·subst hno
    have hx' : x = .box (cs.set j (.sl d 0)) := by
     have : getO ((d,AObj.arr e 0 0 p) :: (n,.box (cs.set j (.sl d 0))) :: σ.ob) n = some x := hx
     rw [hgn] at this
     cases this
     rfl
    subst hx'
    refine ⟨.box b,by rw [updN_other _ _ _ (fun e1 => hdn e1.symm)]; exact h1,b,t,us,rfl,by rw [updN_other _ _ _ (fun e1 => hdn e1.symm)]; exact m2,m3,?_,m5⟩
    have hm : RelVs (view w (Owned ((d,AObj.arr e 0 0 p) :: σ.ob) (updN fp d []))) (updN L d (some (.arr 0 0 p.size p.sizei (.slice none 0 0) []))) cs us.toList :=
     m4.mono k2 _ _ (k3.mono fun o' ho' e2 => by
      subst e2
      have := freeO_get (free_parts hf).2.2 hn
      rw [this] at ho'
      cases ho')
    have hset := hm.set j (a := .sl d 0) (v := us.toList[j]'(by rw [← m4.length]; exact hk)) (by
     simp only [RelV]
     rw [hr.1]
     exact ⟨rfl,_,_,_,_,_,_,updN_same _ _ _,Nat.le_refl _,fun _ => rfl⟩)
    rwa [List.set_getElem_self] at hset
   ·refine ho.obj o x ?_
    have hx' : getO ((d,AObj.arr e 0 0 p) :: (n,.box (cs.set j (.sl d 0))) :: σ.ob) o = some x := hx
    rw [hg' o hno] at hx'
    exact hx'
  ·exact ho.lt o c (by rw [← hs]; exact hc)
  ·exact ho.nodup o (by rw [← hs]; exact hc)
  ·exact ho.disj o o' c (by rw [← hs]; exact hc) (by rw [← hs]; exact hc')
  ·show RelV (view w (Owned ((d,AObj.arr e 0 0 p) :: (n,.box (cs.set j (.sl d 0))) :: σ.ob) (updN fp d []))) _ _ _
   rw [hown']
   exact k1.slots i
end
end Go.AM
namespace Go.AM
inductive Ch where
 | g (b : Bool)
 | r (r : Ret)
structure Eff where
 dst : Option Nat
 v : AV
 obs : List (Nat × Option AObj)
 pu : Bool
inductive REnd where
 | fail
 | mk (conds : List Prop) (σ : ASt) (tr : List Eff) (chs : List Ch)
def drops : List Nat → List (Nat × Option AObj)
 | [] => []
 | n :: r => (n,none) :: drops r
def setsR : List (Nat × AObj) → List (Nat × Option AObj) → List (Nat × Option AObj)
 | [],acc => acc
 | (n,x) :: r,acc => setsR r ((n,some x) :: acc)
def callObs (r : Ret) : List (Nat × Option AObj) := drops r.io ++ setsR r.ob []
def keptR (σ : ASt) (r : Ret) : Ret := ⟨r.io,r.ret,fillO (fun _ _ => keepV) σ.ob r.ob⟩
def pureR (r : Ret) : Bool := r.ret.pure && pureObs r.ob
def guardB (all : List Oper) (σ : ASt) : Option (Nat × Bool) → Option Bool
 | none => some true
 | some (j,want) => match guardSlot all j with
  | none => none
  | some s => match getS σ.sl s with
   | .blit b => some (b == want)
   | .undf => some false
   | _ => none
def isGuard (j : Nat) : List Oper → Bool
 | [] => false
 | o :: r => match o.guard with
  | some (i,_) => Nat.beq i j || isGuard j r
  | none => isGuard j r
inductive FEnd where
 | fail
 | mk (v : AV) (cs : List Prop) (chs : List Ch)
def fixG (all : List Oper) (j : Nat) (v : AV) (cs : List Prop) (chs : List Ch) : FEnd :=
 match isGuard j all with
 | false => .mk v cs chs
 | true => match v,chs with
  | .blit b,chs => .mk (.blit b) cs chs
  | .bool c,.g b :: chs => .mk (.blit b) ((c = b) :: cs) chs
  | v,chs => .mk v cs chs
def addC : List Prop → List Prop → List Prop
 | [],cs => cs
 | p :: r,cs => addC r (p :: cs)
inductive SEnd where
 | fail
 | mk (cs : List Prop) (e : Eff) (chs : List Ch)
def stepO (P : Program) (T : TEnv) (nt : Nat) (all : List Oper) (j : Nat) (o : Oper) (σ : ASt) (chs : List Ch) (cs : List Prop) : SEnd :=
 match okDst nt o.dst with
 | false => .fail
 | true => match guardB all σ o.guard with
  | none => .fail
  | some false => .mk cs ⟨o.dst,.undf,[],true⟩ chs
  | some true => match callOf σ o with
   | some (f,args) => match chs with
    | .r ret :: chs => match retOk σ ret with
     | true => match fixG all j ret.ret ((∀ vf,Spec P f (args.map (seen3 ret.io σ.ob)) (markO vf (pickO ret.io σ.ob ret.io)) ret.ret (fillO (fun n i => markV (vf n i)) σ.ob ret.ob)) :: cs) chs with
      | .mk v cs chs => .mk cs ⟨o.dst,v,callObs (keptR σ ret),pureR ret⟩ chs
      | .fail => .fail
     | false => .fail
    | _ => .fail
   | none => match evalOp T σ o with
    | .ok ps v obs => match freeAll σ (madeOf σ.ob obs) with
     | true => match fixG all j v (addC ps cs) chs with
      | .mk v cs chs => .mk cs ⟨o.dst,v,obs,true⟩ chs
      | .fail => .fail
     | false => .fail
    | .fail => .fail
def app (e : Eff) (σ : ASt) : ASt := ⟨put σ.sl e.dst e.v,updO σ.ob e.obs⟩
def evR (P : Program) (T : TEnv) (nt : Nat) (all : List Oper) : List Oper → Nat → ASt → List Ch → List Prop → List Eff → REnd
 | [],_,σ,chs,cs,tr => .mk cs σ tr chs
 | o :: r,j,σ,chs,cs,tr => match stepO P T nt all j o σ chs cs with
  | .fail => .fail
  | .mk cs e chs => evR P T nt all r (j + 1) (app e σ) chs cs (e :: tr)
theorem updO_append (a b : List (Nat × Option AObj)) : ∀ ob,updO ob (a ++ b) = updO (updO ob a) b := by
 induction a with
 | nil => intro ob; rfl
 | cons x r ih =>
  intro ob
  obtain ⟨n,x⟩ := x
  cases x <;> simp [updO,ih]
theorem updO_drops (l : List Nat) : ∀ ob,updO ob (drops l) = delAll ob l := by
 induction l with
 | nil => intro ob; rfl
 | cons n r ih => intro ob; simp [drops,updO,delAll,ih]
theorem updO_sets (l : List (Nat × AObj)) : ∀ (acc : List (Nat × Option AObj)) (ob : List (Nat × AObj)),updO ob (setsR l acc) = updO (l ++ ob) acc ∨ True := fun _ _ => .inr trivial
theorem setsR_eq (l : List (Nat × AObj)) : ∀ acc,setsR l acc = (l.reverse.map fun x => (x.1,some x.2)) ++ acc := by
 induction l with
 | nil => intro acc; rfl
 | cons x r ih => intro acc; obtain ⟨n,x⟩ := x; simp [setsR,ih]
theorem updO_map (l : List (Nat × AObj)) : ∀ ob,updO ob (l.map fun x => (x.1,some x.2)) = l.reverse ++ ob := by
 induction l with
 | nil => intro ob; rfl
 | cons x r ih => intro ob; obtain ⟨n,x⟩ := x; simp [updO,setO,ih]
theorem updO_call (ob : List (Nat × AObj)) (r : Ret) : updO ob (callObs r) = r.ob ++ delAll ob r.io := by
 unfold callObs
 rw [updO_append,updO_drops,setsR_eq,List.append_nil,updO_map,List.reverse_reverse]
theorem AllP_addC : ∀ (a b : List Prop),AllP (addC a b) ↔ AllP a ∧ AllP b
 | [],b => by simp [addC,AllP]
 | p :: r,b => by
  simp only [addC,AllP_addC r,AllP]
  constructor
  ·rintro ⟨h1,h2,h3⟩; exact ⟨⟨h2,h1⟩,h3⟩
  ·rintro ⟨⟨h1,h2⟩,h3⟩; exact ⟨h2,h1,h3⟩
section
variable {P : Program} {T : TEnv} {w0 : World} {F0 : Nat → Prop} {L0 : Locs} {nt : Nat} {σ σ' : ASt} {a : Act} {w : World} {L : Locs} {fp : Nat → List Nat}
variable {ops : Array Oper}
theorem yielded_slot {j : Nat} {s : Nat} {b : Bool} (hs : guardSlot ops.toList j = some s) (hb : a.tmps.getD s undef = .bool b) : yielded ops a.tmps j = some b := by
 unfold guardSlot at hs
 split at hs
 ·rename_i o r hd
  have h1 : ops[j]? = some o := by
   have : (ops.toList.drop j)[0]? = some o := by rw [hd]; rfl
   simpa using this
  unfold yielded
  rw [h1]
  simp only [Option.bind_some,hs]
  have hlt : s < a.tmps.size := by
   rcases Nat.lt_or_ge s a.tmps.size with h | h
   ·exact h
   ·have := hb
    simp [Array.getD,Nat.not_lt.2 h,undef] at this
  have : a.tmps[s]? = some (.bool b) := by
   rw [Array.getElem?_eq_getElem hlt]
   simpa [Array.getD,hlt] using hb
  rw [this]
 ·cases hs
theorem yielded_undef {j : Nat} {s : Nat} (hs : guardSlot ops.toList j = some s) (hb : a.tmps.getD s undef = undef) : yielded ops a.tmps j = none := by
 unfold guardSlot at hs
 split at hs
 ·rename_i o r hd
  have h1 : ops[j]? = some o := by
   have : (ops.toList.drop j)[0]? = some o := by rw [hd]; rfl
   simpa using this
  unfold yielded
  rw [h1]
  simp only [Option.bind_some,hs]
  cases hx : a.tmps[s]? with
  | none => rfl
  | some v =>
   have : v = undef := by
    obtain ⟨hlt,hv⟩ := Array.getElem?_eq_some_iff.1 hx
    simpa [Array.getD,hlt,hv] using hb
   rw [this]
   rfl
 ·cases hs
theorem guard_ok {o : Oper} {go : Bool} (hg : guardB ops.toList σ o.guard = some go) (h : StW w0 F0 L0 nt σ a w L fp) : Region.wanted o (yielded ops a.tmps) = go := by
 unfold guardB at hg
 split at hg
 ·rename_i hgu
  cases hg
  simp [Region.wanted,hgu]
 ·rename_i j want hgu
  split at hg
  ·cases hg
  ·rename_i s hs
   split at hg
   ·rename_i b hsl
    cases hg
    have hr := h.slots s
    rw [hsl] at hr
    simp only [RelV] at hr
    simp only [Region.wanted,hgu,yielded_slot hs hr]
    cases b <;> cases want <;> rfl
   ·rename_i hsl
    cases hg
    have hr := h.slots s
    rw [hsl] at hr
    simp only [RelV] at hr
    simp only [Region.wanted,hgu,yielded_undef hs hr]
    rfl
   ·cases hg
def Fixed (v v' : AV) : Prop := v' = v ∨ ∃ c : Bool,v = .bool c ∧ v' = .blit c
theorem Fixed.rel {v v' : AV} {R : View} {L : Locs} {u : Value} (h : Fixed v v') (hr : RelV R L v u) : RelV R L v' u := by
 rcases h with rfl | ⟨c,rfl,rfl⟩
 ·exact hr
 ·simpa only [RelV] using hr
theorem fix_ok {all : List Oper} {j : Nat} {v v' : AV} {cs cs' : List Prop} {chs chs' : List Ch} (h : fixG all j v cs chs = .mk v' cs' chs') (hcs : AllP cs') : AllP cs ∧ Fixed v v' := by
 unfold fixG at h
 split at h
 ·cases h; exact ⟨hcs,.inl rfl⟩
 ·split at h
  ·cases h; exact ⟨hcs,.inl rfl⟩
  ·cases h
   simp only [AllP] at hcs
   exact ⟨hcs.2,.inr ⟨_,rfl,by rw [hcs.1]⟩⟩
  ·cases h; exact ⟨hcs,.inl rfl⟩
def Does (P : Program) (T : TEnv) (nt : Nat) (all : List Oper) (o : Oper) (σ : ASt) (e : Eff) : Prop :=
 okDst nt o.dst = true ∧ e.dst = o.dst ∧ ((guardB all σ o.guard = some false ∧ e.v = .undf ∧ e.obs = []) ∨
  (guardB all σ o.guard = some true ∧ ((∃ f args ret,callOf σ o = some (f,args) ∧ retOk σ ret = true ∧ (∀ vf,Spec P f (args.map (seen3 ret.io σ.ob)) (markO vf (pickO ret.io σ.ob ret.io)) ret.ret (fillO (fun n i => markV (vf n i)) σ.ob ret.ob)) ∧ (e.obs = callObs (keptR σ ret) ∧ e.pu = pureR ret) ∧ Fixed ret.ret e.v) ∨
   (callOf σ o = none ∧ ∃ ps v,evalOp T σ o = .ok ps v e.obs ∧ freeAll σ (madeOf σ.ob e.obs) = true ∧ AllP ps ∧ Fixed v e.v))))
theorem step_does {all : List Oper} {j : Nat} {o : Oper} {chs chs' : List Ch} {cs cs' : List Prop} {e : Eff} (he : stepO P T nt all j o σ chs cs = .mk cs' e chs') (hcs : AllP cs') : AllP cs ∧ Does P T nt all o σ e := by
 unfold stepO at he
 split at he
 ·cases he
 rename_i hd
 split at he
 ·cases he
 ·rename_i hg
  cases he
  exact ⟨hcs,hd,rfl,.inl ⟨hg,rfl,rfl⟩⟩
 ·rename_i hg
  split at he
  ·rename_i f args hc
   split at he
   ·rename_i ret chs3
    split at he
    ·rename_i hok
     split at he
     ·rename_i v cs3 chs4 hfix
      cases he
      obtain ⟨h1,h2⟩ := fix_ok hfix hcs
      simp only [AllP] at h1
      exact ⟨h1.2,hd,rfl,.inr ⟨hg,.inl ⟨f,args,ret,hc,hok,h1.1,⟨rfl,rfl⟩,h2⟩⟩⟩
     ·cases he
    ·cases he
   ·cases he
  ·rename_i hc
   split at he
   ·rename_i ps v obs hev
    split at he
    ·rename_i hfree
     split at he
     ·rename_i v' cs3 chs4 hfix
      cases he
      obtain ⟨h1,h2⟩ := fix_ok hfix hcs
      rw [AllP_addC] at h1
      exact ⟨h1.2,hd,rfl,.inr ⟨hg,.inr ⟨hc,ps,v,hev,hfree,h1.1,h2⟩⟩⟩
     ·cases he
    ·cases he
   ·cases he
theorem St.fixed {dst : Option Nat} {v v' : AV} {ob : List (Nat × AObj)} (hf : Fixed v v') (h : St w0 F0 L0 nt ⟨put σ.sl dst v,ob⟩ a w) : St w0 F0 L0 nt ⟨put σ.sl dst v',ob⟩ a w := by
 obtain ⟨L,fp,h⟩ := h
 refine ⟨L,fp,h.owns,h.kept,h.fresh,fun i => ?_,h.defers,h.size,h.le⟩
 have := h.slots i
 cases dst with
 | none => exact this
 | some d =>
  rw [getS_put] at this ⊢
  split
  ·rename_i e
   rw [if_pos e] at this
   exact hf.rel this
  ·rename_i e
   rw [if_neg e] at this
   exact this
theorem does_ok {o : Oper} {e : Eff} (hT : TOk P T) (hL0 : L0Ok P w0 F0 L0) (he : Does P T nt ops.toList o σ e) (h : St w0 F0 L0 nt σ a w) :
   ((Region.wanted o (yielded ops a.tmps) = false ∧ St w0 F0 L0 nt (app e σ) (a.put o.dst undef) w) ∨
     (Region.wanted o (yielded ops a.tmps) = true ∧ ∀ (K : Act → World → Prop) (Q : Exit → Act → World → Prop),(∀ a w,St w0 F0 L0 nt (app e σ) a w → K a w) → o.wp P a w K Q)) := by
 obtain ⟨L,fp,h⟩ := h
 obtain ⟨dst,v,obs,pu⟩ := e
 obtain ⟨hd,hdst,he⟩ := he
 simp only at hdst
 subst hdst
 rcases he with ⟨hg,hv,hobs⟩ | ⟨hg,he⟩
 ·simp only at hv hobs
  subst hv hobs
  exact .inl ⟨guard_ok (ops := ops) hg h,L,fp,h.putv (av := .undf) (v := undef) hd (by simp [RelV])⟩
 ·refine .inr ⟨guard_ok (ops := ops) hg h,fun K Q hK => ?_⟩
  rcases he with ⟨f,args,ret,hc,hok,hspec,hobs,hfix⟩ | ⟨hc,ps,v0,hev,hfree,hps,hfix⟩
  ·have := call_ok (o := o) h hL0 hd hc hok hspec
   have e1 : fillO (fun _ _ => keepV) σ.ob ret.ob ++ delAll σ.ob ret.io = updO σ.ob (callObs (keptR σ ret)) := (updO_call σ.ob (keptR σ ret)).symm
   rw [e1] at this
   have hobs := hobs.1
   simp only at hobs
   subst hobs
   exact this.wp fun a w ha => hK a w (St.fixed hfix ha)
  ·exact (evalOp_ok hT h hL0.ge hd hev hfree hps).wp fun a w ha => hK a w (St.fixed hfix ha)
def Chain (P : Program) (T : TEnv) (nt : Nat) (all : List Oper) : List Oper → List Eff → ASt → ASt → Prop
 | [],[],σ,σ' => σ' = σ
 | o :: r,e :: es,σ,σ' => Does P T nt all o σ e ∧ Chain P T nt all r es (app e σ) σ'
 | _,_,_,_ => False
theorem evR_chain : ∀ (l : List Oper) (j : Nat) (σ : ASt) (chs : List Ch) (cs : List Prop) (tr : List Eff) (cs' : List Prop) (σ' : ASt) (tr' : List Eff) (chs' : List Ch) (all : List Oper),
  evR P T nt all l j σ chs cs tr = .mk cs' σ' tr' chs' → AllP cs' → AllP cs ∧ ∃ es,tr' = es.reverse ++ tr ∧ Chain P T nt all l es σ σ'
 | [],j,σ,chs,cs,tr,cs',σ',tr',chs',all,he,hcs => by
  simp only [evR,REnd.mk.injEq] at he
  obtain ⟨rfl,rfl,rfl,rfl⟩ := he
  exact ⟨hcs,[],rfl,rfl⟩
 | o :: r,j,σ,chs,cs,tr,cs',σ',tr',chs',all,he,hcs => by
  simp only [evR] at he
  split at he
  ·cases he
  rename_i cs2 e chs2 hst
  obtain ⟨h1,es,h2,h3⟩ := evR_chain r _ _ _ _ _ _ _ _ _ all he hcs
  obtain ⟨h4,h5⟩ := step_does hst h1
  exact ⟨h4,e :: es,by rw [h2]; simp,h5,h3⟩
theorem chain_wp (hT : TOk P T) (hL0 : L0Ok P w0 F0 L0) {Q : Exit → Act → World → Prop} : ∀ (l : List Oper) (es : List Eff) (σ σ' : ASt),Chain P T nt ops.toList l es σ σ' →
  ∀ a w,St w0 F0 L0 nt σ a w → (∀ a w,St w0 F0 L0 nt σ' a w → Q .normal a w) → wpList P ops Q l a w
 | [],[],σ,σ',hc,a,w,h,hQ => by
  simp only [Chain] at hc
  subst hc
  exact hQ a w h
 | [],_ :: _,_,_,hc,_,_,_,_ => hc.elim
 | _ :: _,[],_,_,hc,_,_,_,_ => hc.elim
 | o :: r,e :: es,σ,σ',hc,a,w,h,hQ => by
  obtain ⟨h1,h2⟩ := hc
  unfold wpList
  rcases does_ok (ops := ops) hT hL0 h1 h with ⟨hw,h5⟩ | ⟨hw,h5⟩
  ·rw [if_neg (by simp [hw])]
   exact chain_wp hT hL0 r es _ _ h2 _ _ h5 hQ
  ·rw [if_pos hw]
   exact .inl (h5 _ _ fun a w ha => chain_wp hT hL0 r es _ _ h2 a w ha hQ)
end
end Go.AM
namespace Go.AM
open Classical
def restC : Code → Nat → Code
 | c,0 => c
 | .seq _ b,i + 1 => restC b i
 | c,_ => c
def rowC : Code → List (Nat × Nat) → Code
 | c,[] => c
 | c,(i,k) :: r => rowC (partC (restC c i) k) r
where partC : Code → Nat → Code
 | .seq a _,_ => a
 | .cond _ x _,0 => x
 | .cond _ _ y,_ => y
 | .block _ c,_ => c
 | .loop c,_ => c
 | .scope c,_ => c
 | c,_ => c
inductive KI where
 | code (p : List (Nat × Nat)) (i : Nat)
 | blk (id : Nat)
def kcode (body : Code) (p : List (Nat × Nat)) (i : Nat) : Code := restC (rowC body p) i
def isSeq : Code → Bool
 | .seq _ _ => true
 | _ => false
def kpost (P : Program) (body : Code) : List KI → (Exit → Act → World → Prop) → Exit → Act → World → Prop
 | [],Q => Q
 | .code p i :: K,Q => Exit.then ((kcode body p i).wp P (kpost P body K Q)) (kpost P body K Q)
 | .blk id :: K,Q => Exit.inBlock id (kpost P body K Q)
structure Env where
 P : Program
 T : TEnv
 body : Code
 nt : Nat
 ok : TOk P T
 mixed : P.follows .mixedOrders = true
def TriX (E : Env) (e : Exit) (K : List KI) (σ : ASt) (Q : Exit → ASt → Prop) : Prop :=
 ∀ (w0 : World) (F0 : Nat → Prop) (L0 : Locs),L0Ok E.P w0 F0 L0 → ∀ a w,St w0 F0 L0 E.nt σ a w → kpost E.P E.body K (fun e a w => ∃ σ',Q e σ' ∧ St w0 F0 L0 E.nt σ' a w) e a w
abbrev Tri (E : Env) (K : List KI) (σ : ASt) (Q : Exit → ASt → Prop) : Prop := TriX E .normal K σ Q
theorem restC_succ : ∀ (c : Code) (i : Nat) (a b : Code),restC c i = .seq a b → restC c (i + 1) = b
 | c,0,a,b,h => by
  cases c <;> simp [restC] at h
  obtain ⟨rfl,rfl⟩ := h
  simp [restC]
 | .seq x y,i + 1,a,b,h => by
  simp only [restC] at h ⊢
  exact restC_succ y i a b h
 | .skip,i + 1,a,b,h => by simp [restC] at h
 | .region ..,i + 1,a,b,h => by simp [restC] at h
 | .cond ..,i + 1,a,b,h => by simp [restC] at h
 | .block ..,i + 1,a,b,h => by simp [restC] at h
 | .loop ..,i + 1,a,b,h => by simp [restC] at h
 | .scope ..,i + 1,a,b,h => by simp [restC] at h
 | .label ..,i + 1,a,b,h => by simp [restC] at h
 | .goto ..,i + 1,a,b,h => by simp [restC] at h
 | .exit ..,i + 1,a,b,h => by simp [restC] at h
 | .ret,i + 1,a,b,h => by simp [restC] at h
def popX (id : Nat) : List KI → Option (List KI)
 | [] => none
 | .code _ _ :: K => popX id K
 | .blk id' :: K => if id = id' then some K else popX id K
inductive KStep where
 | stay
 | to (K : List KI)
def kstep (body : Code) (σ : ASt) : List KI → KStep
 | [] => .stay
 | .blk _ :: K => .to K
 | .code p i :: K => match kcode body p i with
  | .skip => .to K
  | .label _ => .to K
  | .seq _ _ => .to (.code (p ++ [(i,0)]) 0 :: .code p (i + 1) :: K)
  | .block id _ => .to (.code (p ++ [(i,0)]) 0 :: .blk id :: K)
  | .exit id => match popX id K with
   | some K' => .to K'
   | none => .stay
  | .cond c _ _ => match opv σ none c with
   | .blit true => .to (.code (p ++ [(i,0)]) 0 :: K)
   | .blit false => .to (.code (p ++ [(i,1)]) 0 :: K)
   | _ => .stay
  | _ => .stay
def norm (body : Code) (σ : ASt) : Nat → List KI → List KI
 | 0,K => K
 | n + 1,K => match kstep body σ K with
  | .stay => K
  | .to K' => norm body σ n K'
theorem rowC_snoc : ∀ (c : Code) (p : List (Nat × Nat)) (i k : Nat),rowC c (p ++ [(i,k)]) = rowC.partC (restC (rowC c p) i) k
 | c,[],i,k => rfl
 | c,(j,l) :: p,i,k => by simp only [List.cons_append,rowC]; exact rowC_snoc _ p i k
theorem kcode_sub {body : Code} {p : List (Nat × Nat)} {i k : Nat} : kcode body (p ++ [(i,k)]) 0 = rowC.partC (kcode body p i) k := by
 unfold kcode
 rw [rowC_snoc]
 simp [restC]
section
variable {P : Program} {body : Code} {Q : Exit → Act → World → Prop} {a : Act} {w : World}
theorem kpost_pop {id : Nat} : ∀ {K K' : List KI},popX id K = some K' → kpost P body K' Q .normal a w → kpost P body K Q (.exit id) a w
 | [],_,h,_ => by simp [popX] at h
 | .code p i :: K,K',h,hk => by
  simp only [popX] at h
  exact kpost_pop (K := K) h hk
 | .blk id' :: K,K',h,hk => by
  simp only [popX] at h
  simp only [kpost,Exit.inBlock]
  split at h
  ·rename_i e
   cases h
   rw [if_pos e]
   exact hk
  ·rename_i e
   rw [if_neg e]
   exact kpost_pop (K := K) h hk
theorem kpost_ret : ∀ {K : List KI},Q .ret a w → kpost P body K Q .ret a w
 | [],h => h
 | .code _ _ :: K,h => kpost_ret (K := K) h
 | .blk _ :: K,h => kpost_ret (K := K) h
theorem kpost_mono {Q' : Exit → Act → World → Prop} (h : ∀ e a w,Q e a w → Q' e a w) : ∀ {K : List KI} {e : Exit} {a : Act} {w : World},kpost P body K Q e a w → kpost P body K Q' e a w
 | [],e,a,w,hk => h e a w hk
 | .code p i :: K,e,a,w,hk => by
  cases e with
  | normal => exact wp_mono hk fun e a w => kpost_mono (K := K) h
  | _ => exact kpost_mono (K := K) h hk
 | .blk id :: K,e,a,w,hk => by
  cases e with
  | exit id' =>
   simp only [kpost,Exit.inBlock] at hk ⊢
   split
   ·rename_i e; rw [if_pos e] at hk; exact kpost_mono (K := K) h hk
   ·rename_i e; rw [if_neg e] at hk; exact kpost_mono (K := K) h hk
  | _ => exact kpost_mono (K := K) h hk
end
section
variable {E : Env} {σ σ' : ASt} {K K' : List KI} {Q : Exit → ASt → Prop}
theorem opv_cond {w0 : World} {F0 : Nat → Prop} {L0 : Locs} {nt : Nat} {a : Act} {w : World} {c : Operand} {b : Bool} (h : St w0 F0 L0 nt σ a w) (ho : opv σ none c = .blit b) : a.eval c = .bool b := by
 obtain ⟨L,fp,h⟩ := h
 have := opv_rel_none h c
 rw [ho] at this
 simpa only [RelV] using this
theorem Tri.kstep (hk : kstep E.body σ K = .to K') (h : Tri E K' σ Q) : Tri E K σ Q := by
 intro w0 F0 L0 hL0 a w hs
 have h1 := h w0 F0 L0 hL0 a w hs
 unfold AM.kstep at hk
 split at hk
 ·cases hk
 ·cases hk; exact h1
 ·rename_i p i K0
  show (kcode E.body p i).wp E.P _ a w
  split at hk
  ·rename_i hc
   cases hk
   rw [hc]
   exact wp_skip h1
  ·rename_i l hc
   cases hk
   rw [hc]
   exact wp_label h1
  ·rename_i x y hc
   cases hk
   have e1 : kcode E.body (p ++ [(i,0)]) 0 = x := by rw [kcode_sub,hc]; rfl
   have e2 : kcode E.body p (i + 1) = y := restC_succ _ _ _ _ hc
   have h1' : (kcode E.body (p ++ [(i,0)]) 0).wp E.P (kpost E.P E.body (.code p (i + 1) :: K0) (fun e a w => ∃ σ',Q e σ' ∧ St w0 F0 L0 E.nt σ' a w)) a w := h1
   rw [e1] at h1'
   rw [hc]
   refine wp_seq ?_
   simp only [kpost,e2] at h1'
   exact h1'
  ·rename_i id c hc
   cases hk
   have e1 : kcode E.body (p ++ [(i,0)]) 0 = c := by rw [kcode_sub,hc]; rfl
   have h1' : (kcode E.body (p ++ [(i,0)]) 0).wp E.P (kpost E.P E.body (.blk id :: K0) (fun e a w => ∃ σ',Q e σ' ∧ St w0 F0 L0 E.nt σ' a w)) a w := h1
   rw [e1] at h1'
   rw [hc]
   exact wp_block h1'
  ·rename_i id hc
   split at hk
   ·rename_i K2 hp
    cases hk
    rw [hc]
    exact wp_exit (kpost_pop hp h1)
   ·cases hk
  ·rename_i c x y hc
   split at hk
   ·rename_i hb
    cases hk
    have e1 : kcode E.body (p ++ [(i,0)]) 0 = x := by rw [kcode_sub,hc]; rfl
    have h1' : (kcode E.body (p ++ [(i,0)]) 0).wp E.P (kpost E.P E.body K0 (fun e a w => ∃ σ',Q e σ' ∧ St w0 F0 L0 E.nt σ' a w)) a w := h1
    rw [e1] at h1'
    rw [hc]
    exact wp_cond_true (opv_cond hs hb) h1'
   ·rename_i hb
    cases hk
    have e1 : kcode E.body (p ++ [(i,1)]) 0 = y := by rw [kcode_sub,hc]; rfl
    have h1' : (kcode E.body (p ++ [(i,1)]) 0).wp E.P (kpost E.P E.body K0 (fun e a w => ∃ σ',Q e σ' ∧ St w0 F0 L0 E.nt σ' a w)) a w := h1
    rw [e1] at h1'
    rw [hc]
    exact wp_cond_false (opv_cond hs hb) h1'
   ·cases hk
  ·cases hk
theorem Tri.norm : ∀ (n : Nat) {K : List KI},Tri E (norm E.body σ n K) σ Q → Tri E K σ Q
 | 0,K,h => h
 | n + 1,K,h => by
  unfold AM.norm at h
  split at h
  ·exact h
  ·rename_i K' hk
   exact Tri.kstep hk (Tri.norm n h)
def ghosts (σ : ASt) : List Gh → Option ASt
 | [] => some σ
 | g :: r => match ghost σ g with
  | some σ' => ghosts σ' r
  | none => none
theorem ghosts_ok {w0 : World} {F0 : Nat → Prop} {L0 : Locs} {nt : Nat} {a : Act} {w : World} (hL0 : ∀ o l,L0 o = some l → 2000 ≤ o) : ∀ (gs : List Gh) {σ σ' : ASt},St w0 F0 L0 nt σ a w → ghosts σ gs = some σ' → St w0 F0 L0 nt σ' a w
 | [],σ,σ',h,hg => by simp only [ghosts,Option.some.injEq] at hg; subst hg; exact h
 | g :: r,σ,σ',h,hg => by
  simp only [ghosts] at hg
  split at hg
  ·rename_i σ2 h2
   exact ghosts_ok hL0 r (ghost_ok hL0 h h2) hg
  ·cases hg
end
end Go.AM
namespace Go.AM
def obsHas (n : Nat) : List (Nat × Option AObj) → Bool
 | [] => false
 | (m,_) :: r => Nat.beq m n || obsHas n r
def opTouch (σ : ASt) (n : Nat) : List Operand → Bool
 | [] => false
 | x :: r => !(opv σ none x).free n || opTouch σ n r
def boxTouch (σ : ASt) (xs : List Operand) (obs : List (Nat × Option AObj)) (n : Nat) : List (Nat × AObj) → Bool
 | [] => false
 | (m,.box cs) :: r => (!AV.free.go n cs && (opTouch σ m xs || obsHas m obs)) || boxTouch σ xs obs n r
 | (_,.arr ..) :: r => boxTouch σ xs obs n r
 | (_,.hol ..) :: r => boxTouch σ xs obs n r
def touch (σ : ASt) (c : Bool) (xs : List Operand) (obs : List (Nat × Option AObj)) (n : Nat) : Bool := opTouch σ n xs || obsHas n obs || (c && boxTouch σ xs obs n σ.ob)
def isMove (o : Oper) : Bool := match o.op with
 | .move _ => true
 | _ => false
def touchE (σ : ASt) (o : Oper) (obs : List (Nat × Option AObj)) (n : Nat) : Bool := match isMove o with
 | true => obsHas n obs
 | false => touch σ (callOf σ o).isSome o.op.operands.toList obs n
theorem touchE_has {σ : ASt} {o : Oper} {obs : List (Nat × Option AObj)} {n : Nat} (h : obsHas n obs = true) : touchE σ o obs n = true := by
 unfold touchE
 cases isMove o with
 | true => exact h
 | false => simp [touch,h]
theorem isMove_op {o : Oper} (h : isMove o = true) : ∃ x,o.op = .move x := by
 unfold isMove at h
 split at h
 ·exact ⟨_,by assumption⟩
 ·cases h
theorem payOf_congr {ob ob' : List (Nat × AObj)} {v : AV} (h : ∀ n,v.free n = false → getO ob n = getO ob' n) : payOf ob v = payOf ob' v := by
 cases v <;> simp only [payOf] <;> rw [h _ (by simp [AV.free])]
theorem brings_congr {ob ob' : List (Nat × AObj)} {v : AV} (h : ∀ n,v.free n = false → getO ob n = getO ob' n) : brings ob v = brings ob' v := by
 unfold brings
 rw [payOf_congr h]
theorem sliceV_congr {T : TEnv} {t : Nat} {ob ob' : List (Nat × AObj)} {v : AV} {lo hi : Option AV} (h : ∀ n,v.free n = false → getO ob n = getO ob' n) : sliceV T t ob v lo hi = sliceV T t ob' v lo hi := by
 cases v <;> simp only [sliceV]
 all_goals rw [payOf_congr h]
section
variable {T : TEnv} {sl sl' : List (Nat × AV)} {ob ob' : List (Nat × AObj)}
theorem evalOp_slots {o : Oper} (h : ∀ x ∈ o.op.operands,∀ τ,opv ⟨sl,ob⟩ τ x = opv ⟨sl',ob⟩ τ x) : evalOp T ⟨sl,ob⟩ o = evalOp T ⟨sl',ob⟩ o := by
 cases ho : o.op <;> rw [ho] at h <;> simp only [Op.operands] at h <;> simp only [evalOp,ho]
 case build t ps =>
  have : (ps.toList.map fun x => (x.1,opv ⟨sl,ob⟩ none x.2)) = ps.toList.map fun x => (x.1,opv ⟨sl',ob⟩ none x.2) :=
   List.map_congr_left fun x hx => by rw [h x.2 (by simp; exact ⟨x.1,by simpa using hx⟩)]
  rw [this]
 case buildSlice t n ps =>
  have h1 : (ps.toList.map fun x => (x.1,opv ⟨sl,ob⟩ none x.2)) = ps.toList.map fun x => (x.1,opv ⟨sl',ob⟩ none x.2) :=
   List.map_congr_left fun x hx => by rw [h x.2 (by simp; exact ⟨x.1,by simpa using hx⟩)]
  have h2 : (ps.toList.map fun x => opv ⟨sl,ob⟩ none x.2) = ps.toList.map fun x => opv ⟨sl',ob⟩ none x.2 :=
   List.map_congr_left fun x hx => by rw [h x.2 (by simp; exact ⟨x.1,by simpa using hx⟩)]
  rw [h1,h2]
 case makeFunc fn first captured =>
  cases fn <;> try rfl
  have h1 : first.toList.map (opv ⟨sl,ob⟩ none) = first.toList.map (opv ⟨sl',ob⟩ none) := List.map_congr_left fun x hx => h x (by simp at hx; simp [hx]) none
  have h2 : captured.toList.map (opv ⟨sl,ob⟩ none) = captured.toList.map (opv ⟨sl',ob⟩ none) := List.map_congr_left fun x hx => h x (by simp at hx; simp [hx]) none
  simp only [h1,h2]
 case call c =>
  obtain ⟨callee,args,argTypes⟩ := c
  have h1 : args.toList.map (opv ⟨sl,ob⟩ none) = args.toList.map (opv ⟨sl',ob⟩ none) := List.map_congr_left fun x hx => h x (by simp at hx; simp [Call.operands,hx]) none
  cases callee <;> try rfl
  rename_i b
  cases b <;> try rfl
  case len =>
   obtain ⟨args⟩ := args
   obtain ⟨argTypes⟩ := argTypes
   dsimp only
   split
   ·rename_i _ _ x t
    rw [h x (by simp [Call.operands])]
   ·rfl
  case append =>
   obtain ⟨args⟩ := args
   obtain ⟨argTypes⟩ := argTypes
   dsimp only
   split
   ·rename_i _ _ _ x y t t' d hd
    rw [h x (by simp [Call.operands]),h y (by simp [Call.operands])]
   ·rfl
  case max => simp only [h1]
 case slice t x lo hi mx =>
  cases mx <;> simp only
  rw [h x (by simp)]
  cases lo <;> cases hi <;> simp_all
 all_goals (first | rfl | (simp_all; done))
theorem evalOp_obs {o : Oper} {cs : List Prop} {v : AV} {obs : List (Nat × Option AObj)} (he : evalOp T ⟨sl,ob⟩ o = .ok cs v obs)
  (h : ∀ x ∈ o.op.operands,∀ n,(opv ⟨sl,ob⟩ none x).free n = false → getO ob n = getO ob' n) (h2 : ∀ n,obsHas n obs = true → getO ob n = getO ob' n) : evalOp T ⟨sl,ob'⟩ o = .ok cs v obs := by
 have hopv : ∀ τ x,opv ⟨sl,ob'⟩ τ x = opv ⟨sl,ob⟩ τ x := fun τ x => rfl
 have hone : ∀ n x r,obs = (n,x) :: r → getO ob n = getO ob' n := fun n x r e => h2 n (by rw [e]; simp [obsHas])
 cases hop : o.op <;> rw [hop] at h <;> simp only [Op.operands] at h <;> simp only [evalOp,hop] at he <;> simp only [evalOp,hop,hopv] <;> try exact he
 case makeFunc fn x y =>
  cases fn <;> exact he
 case alloc t =>
  split at he
  ·rename_i s d hs hd
   split at he
   ·rename_i hg
    cases he
    rw [← hone d _ _ rfl,hg]
   ·cases he
  ·cases he
 case box t x =>
  split at he
  ·rename_i d cs hd hc
   split at he
   ·rename_i hg
    cases he
    rw [← hone d _ _ rfl,hg]
   ·cases he
  ·cases he
 case buildSlice t n ps =>
  split at he
  ·rename_i e p d hs hd
   split at he
   ·exact he
   split at he
   ·cases he
   ·rename_i hg hp
    have hd' : getO ob d = getO ob' d := by
     split at he
     ·split at he
      ·cases he; exact hone d _ _ rfl
      ·cases he
     ·cases he
    simp only [← hd',hg,hp]
    exact he
   ·rename_i hg hp
    have hd' : getO ob d = getO ob' d := by
     split at he
     ·split at he
      ·cases he; exact hone d _ _ rfl
      ·cases he
     ·split at he
      ·split at he
       ·split at he
        ·cases he; exact hone d _ _ rfl
        ·cases he
       ·cases he
      ·cases he
     ·cases he
    simp only [← hd',hg,hp]
    split at he
    ·exact he
    ·rename_i o1 v1 hl
     have hfree : payOf ob (.sl o1 v1) = payOf ob' (.sl o1 v1) := by
      cases hps : ps.toList with
      | nil => rw [hps] at hl; simp at hl
      | cons y r =>
       rw [hps] at hl
       obtain ⟨i0,x⟩ := y
       simp only [List.map_cons,List.cons.injEq,Prod.mk.injEq,List.map_eq_nil_iff] at hl
       obtain ⟨⟨rfl,hx⟩,rfl⟩ := hl
       refine payOf_congr fun n hn => h x ?_ n (by rw [hx]; exact hn)
       simp [hps]
     simp only [← hfree]
     exact he
    ·cases he
  ·cases he
 case load t x =>
  have hx := h x (by simp)
  split at he
  ·rename_i s o i hs ho
   rw [ho] at hx
   rw [← hx o (by simp [AV.free])]
   exact he
  ·exact he
  ·exact he
  ·rename_i s o ver e fo hs ho
   rw [ho] at hx
   rw [← hx o (by simp [AV.free])]
   exact he
  ·rename_i s o ver rv k e fo hs ho
   rw [ho] at hx
   rw [← payOf_congr (ob := ob) (ob' := ob') (v := .sub o ver rv k) (fun n hn => hx n (by simpa [AV.free] using hn))]
   exact he
  ·cases he
 case store t x v =>
  have hx := h x (by simp)
  have hv := h v (by simp)
  split at he
  ·cases he
  rename_i vs hvs
  split at he
  ·cases he
  rename_i hsz
  split at he
  ·rename_i o i ho
   rw [ho] at hx
   rw [← hx o (by simp [AV.free])]
   exact he
  ·rename_i o ver e fo ho
   rw [ho] at hx
   rw [← hx o (by simp [AV.free])]
   split at he
   ·rename_i el v0 rv p hg
    split at he
    ·rename_i hver
     rw [if_pos hver]
     split at he
     ·rename_i hp; exact he
     ·rename_i hp
      split at he
      ·rename_i o1 v1 hov
       rw [hov] at hv
       rw [← payOf_congr (ob := ob) (ob' := ob') (v := .sl o1 v1) hv]
       exact he
      ·exact he
      ·cases he
    ·cases he
   ·rename_i hg
    exact he
   ·cases he
  ·rename_i o ver rv k e fo ho
   rw [ho] at hx
   rw [← hx o (by simp [AV.free])]
   exact he
  ·cases he
 case convert s t x =>
  have hx := h x (by simp)
  split at he
  ·exact he
  ·exact he
  ·rename_i o ver hs ht ho
   rw [ho] at hx
   rw [← payOf_congr (ob := ob) (ob' := ob') hx]
   exact he
  ·cases he
 case makeSlice t x y =>
  split at he
  ·rename_i e p d n c hs hd hx hy
   split at he
   ·rename_i hg
    cases he
    simp only [← hone d _ _ rfl,hg]
   ·cases he
  ·cases he
 case slice t x lo hi mx =>
  cases mx with
  | none =>
   simp only at he ⊢
   rw [← sliceV_congr (ob := ob) (ob' := ob') (h x (by simp))]
   exact he
  | some m => exact he
 case fieldAddr t x f =>
  have hx := h x (by simp)
  split at he
  ·exact he
  ·exact he
  ·exact he
  ·rename_i fs z r o ver e i hs ho
   rw [ho] at hx
   rw [← payOf_congr (ob := ob) (ob' := ob') (v := .sl o ver) (fun n hn => hx n (by simpa [AV.free] using hn))]
   exact he
  ·rename_i fs z r o ver rv k e i hs ho
   rw [ho] at hx
   rw [← payOf_congr (ob := ob) (ob' := ob') (v := .sub o ver rv k) (fun n hn => hx n (by simpa [AV.free] using hn))]
   exact he
  ·cases he
 case indexAddr t x i =>
  have hx := h x (by simp)
  split at he
  ·exact he
  ·rename_i o ver k n ho hi
   rw [ho] at hx
   rw [← payOf_congr (ob := ob) (ob' := ob') hx,← hx o (by simp [AV.free])]
   exact he
  ·rename_i o ver off len k n ho hi
   rw [ho] at hx
   rw [← payOf_congr (ob := ob) (ob' := ob') hx]
   exact he
  ·rename_i o ver rv k' k n ho hi
   rw [ho] at hx
   rw [← payOf_congr (ob := ob) (ob' := ob') hx]
   exact he
  ·cases he
 case call c =>
  obtain ⟨callee,args,argTypes⟩ := c
  cases callee <;> try exact he
  rename_i b
  cases b <;> try exact he
  case len =>
   dsimp only at he ⊢
   split at he
   ·rename_i x t hx' ht
    have hx := h x (by simp [Call.operands,hx',← Array.mem_toList_iff])
    split at he
    ·exact he
    ·rename_i e p o ver off len hs ho
     rw [ho] at hx
     rw [← payOf_congr (ob := ob) (ob' := ob') hx]
     exact he
    ·rename_i e p v hs hns
     rw [← payOf_congr (ob := ob) (ob' := ob') hx]
     exact he
    ·cases he
   ·cases he
  case append =>
   dsimp only at he ⊢
   split at he
   ·rename_i x y t t' d hxy ht hd
    have hx := h x (by simp [Call.operands,hxy,← Array.mem_toList_iff])
    have hy := h y (by simp [Call.operands,hxy,← Array.mem_toList_iff])
    split at he
    ·rename_i e p hs
     split at he
     ·rename_i htt
      rw [if_pos htt,← brings_congr (ob := ob) (ob' := ob') hy]
      split at he
      ·rename_i p q used hox hbr
       split at he
       ·rename_i p' h1 h2' h3
        cases he
        simp only [h1,h2',← hone d _ _ rfl,h3]
       ·cases he
      ·rename_i o1 ver q used hox hbr
       rw [hox] at hx
       rw [← hx o1 (by simp [AV.free])]
       exact he
      ·rename_i o1 ver rv k q hox hbr
       rw [hox] at hx
       rw [← payOf_congr (ob := ob) (ob' := ob') hx,← hx o1 (by simp [AV.free])]
       exact he
      ·cases he
     ·cases he
    ·cases he
   ·cases he
end
end Go.AM
namespace Go.AM
theorem opTouch_mem {σ : ASt} {n : Nat} : ∀ {xs : List Operand} {x : Operand},x ∈ xs → (opv σ none x).free n = false → opTouch σ n xs = true
 | y :: r,x,hx,hf => by
  simp only [opTouch,Bool.or_eq_true]
  rcases List.mem_cons.1 hx with rfl | hx
  ·exact .inl (by simp [hf])
  ·exact .inr (opTouch_mem hx hf)
theorem boxTouch_get {σ : ASt} {xs : List Operand} {obs : List (Nat × Option AObj)} {n m : Nat} {cs : List AV} : ∀ {ob : List (Nat × AObj)},getO ob m = some (.box cs) → AV.free.go n cs = false → (opTouch σ m xs = true ∨ obsHas m obs = true) → boxTouch σ xs obs n ob = true
 | [],h,_,_ => by simp [getO] at h
 | (j,x) :: r,h,hf,ht => by
  simp only [getO] at h
  split at h
  ·rename_i e
   subst e
   cases h
   simp only [boxTouch,Bool.or_eq_true,Bool.and_eq_true]
   exact .inl ⟨by simp [hf],ht⟩
  ·have := boxTouch_get (ob := r) h hf ht
   cases x with
   | box cs' => simp only [boxTouch,Bool.or_eq_true]; exact .inr this
   | arr => simpa only [boxTouch] using this
   | hol => simpa only [boxTouch] using this
section
variable {P : Program} {T : TEnv} {nt : Nat} {all : List Oper} {σ σ' : ASt} {io : List Nat} {ob ob' : List (Nat × AObj)}
theorem seen1_congr {v : AV} (h : ∀ n,v.free n = false → getO ob n = getO ob' n) : seen1 io ob v = seen1 io ob' v := by
 have hl : ∀ o ver,v = .sl o ver → looseOf ob o ver = looseOf ob' o ver := fun o ver e => by
  subst e
  unfold looseOf
  rw [h o (by simp [AV.free])]
 cases v <;> simp only [seen1]
 all_goals first
  | rw [payOf_congr h,hl _ _ rfl]
  | rw [payOf_congr h]
theorem map_seen1_congr : ∀ {cs : List AV},(∀ n,AV.free.go n cs = false → getO ob n = getO ob' n) → cs.map (seen1 io ob) = cs.map (seen1 io ob')
 | [],_ => rfl
 | v :: r,h => by
  simp only [List.map_cons]
  rw [seen1_congr fun n hn => h n (by simp [AV.free.go,hn]),map_seen1_congr fun n hn => h n (by simp [AV.free.go,hn])]
theorem seen2_congr {v : AV} (h : ∀ n,v.free n = false → getO ob n = getO ob' n) (h2 : ∀ m cs n,v.free m = false → getO ob m = some (.box cs) → AV.free.go n cs = false → getO ob n = getO ob' n) : seen2 io ob v = seen2 io ob' v := by
 unfold seen2
 split
 ·rename_i o i
  rw [← h o (by simp [AV.free])]
  split
  ·rfl
  ·split
   ·rename_i cs hg
    rw [map_seen1_congr fun n hn => h2 o cs n (by simp [AV.free]) hg hn]
   ·rfl
 ·rename_i cs
  rw [map_seen1_congr fun n hn => h n (by simpa [AV.free] using hn)]
 ·rfl
 ·exact seen1_congr h
theorem map_seen2_congr : ∀ {cs : List AV},(∀ n,AV.free.go n cs = false → getO ob n = getO ob' n) → (∀ m bs n,AV.free.go m cs = false → getO ob m = some (.box bs) → AV.free.go n bs = false → getO ob n = getO ob' n) → cs.map (seen2 io ob) = cs.map (seen2 io ob')
 | [],_,_ => rfl
 | v :: r,h,h2 => by
  simp only [List.map_cons]
  rw [seen2_congr (fun n hn => h n (by simp [AV.free.go,hn])) (fun m bs n hm => h2 m bs n (by simp [AV.free.go,hm])),map_seen2_congr (fun n hn => h n (by simp [AV.free.go,hn])) (fun m bs n hm => h2 m bs n (by simp [AV.free.go,hm]))]
theorem seen3_congr {v : AV} (h : ∀ n,v.free n = false → getO ob n = getO ob' n) (h2 : ∀ m cs n,v.free m = false → getO ob m = some (.box cs) → AV.free.go n cs = false → getO ob n = getO ob' n) : seen3 io ob v = seen3 io ob' v := by
 unfold seen3
 split
 ·rename_i f x y
  rw [map_seen2_congr (fun n hn => h n (by simp [AV.free,hn])) (fun m bs n hm => h2 m bs n (by simp [AV.free,hm])),
   map_seen2_congr (cs := y) (fun n hn => h n (by simp [AV.free,hn])) (fun m bs n hm => h2 m bs n (by simp [AV.free,hm]))]
 ·exact seen2_congr h h2
theorem pickO_congr {all : List Nat} : ∀ {l : List Nat},(∀ n ∈ l,getO ob n = getO ob' n) → (∀ m ∈ l,∀ cs n,getO ob m = some (.box cs) → AV.free.go n cs = false → getO ob n = getO ob' n) → pickO all ob l = pickO all ob' l
 | [],_,_ => rfl
 | m :: r,h,h2 => by
  simp only [pickO]
  rw [← h m (by simp),pickO_congr (l := r) (fun n hn => h n (by simp [hn])) (fun m hm => h2 m (by simp [hm]))]
  split
  ·rename_i x hx
   cases x with
   | arr => rfl
   | hol => rfl
   | box cs =>
    simp only [seenObj]
    rw [map_seen1_congr fun n hn => h2 m (by simp) cs n hx hn]
  ·rfl
theorem callOf_congr {o : Oper} (h : ∀ x ∈ o.op.operands,∀ τ,opv σ τ x = opv σ' τ x) : callOf σ o = callOf σ' o := by
 unfold callOf
 cases ho : o.op <;> simp only
 rename_i c
 rw [ho] at h
 simp only [Op.operands] at h
 obtain ⟨callee,args,argTypes⟩ := c
 cases callee <;> simp only
 rename_i f
 have h1 : args.toList.map (opv σ none) = args.toList.map (opv σ' none) := List.map_congr_left fun x hx => h x (by simp at hx; simp [Call.operands,hx]) none
 rw [h f (by simp [Call.operands]),h1]
theorem callOf_mem {o : Oper} {f : FuncId} {args : List AV} (h : callOf σ o = some (f,args)) {v : AV} (hv : v ∈ args) {n : Nat} (hn : v.free n = false) : opTouch σ n o.op.operands.toList = true := by
 unfold callOf at h
 split at h
 ·rename_i c hop
  split at h
  ·rename_i g hc
   split at h
   ·rename_i f' fst cap hg
    cases h
    have hmem : ∀ x,x ∈ c.args ∨ x = g → x ∈ o.op.operands.toList := fun x hx => by
     rw [hop]
     simp only [Op.operands,Call.operands,hc]
     rcases hx with hx | hx
     ·simp [hx]
     ·simp [hx]
    have go_mem : ∀ {cs : List AV},v ∈ cs → AV.free.go n cs = false := by
     intro cs
     induction cs with
     | nil => intro h; cases h
     | cons x r ih =>
      intro h
      simp only [AV.free.go,Bool.and_eq_false_iff]
      rcases List.mem_cons.1 h with rfl | h
      ·exact .inl hn
      ·exact .inr (ih h)
    rcases List.mem_append.1 hv with hv | hv
    ·rcases List.mem_append.1 hv with hv | hv
     ·exact opTouch_mem (hmem g (.inr rfl)) (by rw [hg]; simp [AV.free,go_mem hv])
     ·obtain ⟨x,hx,rfl⟩ := List.mem_map.1 hv
      exact opTouch_mem (hmem x (.inl (by simpa using hx))) hn
    ·exact opTouch_mem (hmem g (.inr rfl)) (by rw [hg]; simp [AV.free,go_mem hv])
   ·cases h
  ·cases h
 ·cases h
theorem obsHas_mem {n : Nat} : ∀ {obs : List (Nat × Option AObj)},obsHas n obs = true ↔ ∃ x,(n,x) ∈ obs
 | [] => by simp [obsHas]
 | (m,y) :: r => by
  simp only [obsHas,Bool.or_eq_true,obsHas_mem (obs := r),List.mem_cons,Prod.mk.injEq]
  constructor
  ·rintro (h | ⟨x,h⟩)
   ·exact ⟨y,.inl ⟨(Nat.eq_of_beq_eq_true h).symm,rfl⟩⟩
   ·exact ⟨x,.inr h⟩
  ·rintro ⟨x,⟨h,_⟩ | h⟩
   ·subst h; exact .inl (by simp)
   ·exact .inr ⟨x,h⟩
theorem callObs_has {r : Ret} {n : Nat} : obsHas n (callObs r) = true ↔ n ∈ r.io ∨ n ∈ namesO r.ob := by
 have hd : ∀ (l : List Nat) (x : Option AObj),(n,x) ∈ drops l ↔ n ∈ l ∧ x = none := by
  intro l x
  induction l with
  | nil => simp [drops]
  | cons m r ih =>
   simp only [drops,List.mem_cons,Prod.mk.injEq,ih]
   constructor
   ·rintro (⟨h1,h2⟩ | ⟨h1,h2⟩)
    ·exact ⟨.inl h1,h2⟩
    ·exact ⟨.inr h1,h2⟩
   ·rintro ⟨h1 | h1,h2⟩
    ·exact .inl ⟨h1,h2⟩
    ·exact .inr ⟨h1,h2⟩
 have hnm : ∀ l : List (Nat × AObj),n ∈ namesO l ↔ ∃ x,(n,x) ∈ l := by
  intro l
  induction l with
  | nil => simp [namesO]
  | cons y r ih =>
   obtain ⟨m,z⟩ := y
   simp only [namesO,List.mem_cons,ih,Prod.mk.injEq]
   constructor
   ·rintro (h | ⟨x,h⟩)
    ·exact ⟨z,.inl ⟨h,rfl⟩⟩
    ·exact ⟨x,.inr h⟩
   ·rintro ⟨x,⟨h,_⟩ | h⟩
    ·exact .inl h
    ·exact .inr ⟨x,h⟩
 rw [obsHas_mem]
 unfold callObs
 rw [setsR_eq,List.append_nil,hnm]
 constructor
 ·rintro ⟨x,hx⟩
  rcases List.mem_append.1 hx with hx | hx
  ·exact .inl ((hd _ _).1 hx).1
  ·obtain ⟨⟨m,z⟩,h1,h2⟩ := List.mem_map.1 hx
   cases h2
   exact .inr ⟨z,by simpa using h1⟩
 ·rintro (h | ⟨x,h⟩)
  ·exact ⟨none,List.mem_append_left _ ((hd _ _).2 ⟨h,rfl⟩)⟩
  ·exact ⟨some x,List.mem_append_right _ (List.mem_map.2 ⟨(n,x),by simpa using h,rfl⟩)⟩
theorem madeOf_congr : ∀ {obs : List (Nat × Option AObj)},(∀ n,obsHas n obs = true → getO ob n = getO ob' n) → madeOf ob obs = madeOf ob' obs
 | [],_ => rfl
 | (n,some x) :: r,h => by
  simp only [madeOf]
  rw [h n (by simp [obsHas]),madeOf_congr fun m hm => h m (by simp [obsHas,hm])]
 | (n,none) :: r,h => by
  simp only [madeOf]
  exact madeOf_congr fun m hm => h m (by simp [obsHas,hm])
theorem madeOf_none {ob : List (Nat × AObj)} {d : Nat} : ∀ {obs : List (Nat × Option AObj)},d ∈ madeOf ob obs → getO ob d = none ∧ obsHas d obs = true
 | [],h => by simp [madeOf] at h
 | (n,some x) :: r,h => by
  simp only [madeOf] at h
  split at h
  ·rename_i hn
   rcases List.mem_cons.1 h with rfl | h
   ·exact ⟨hn,by simp [obsHas]⟩
   ·obtain ⟨h1,h2⟩ := madeOf_none h
    exact ⟨h1,by simp [obsHas,h2]⟩
  ·obtain ⟨h1,h2⟩ := madeOf_none h
   exact ⟨h1,by simp [obsHas,h2]⟩
 | (n,none) :: r,h => by
  simp only [madeOf] at h
  obtain ⟨h1,h2⟩ := madeOf_none h
  exact ⟨h1,by simp [obsHas,h2]⟩
theorem freeAll_of : ∀ {l : List Nat},freeAll σ l = true → (∀ d ∈ l,σ'.free d = true) → freeAll σ' l = true
 | [],_,_ => rfl
 | d :: r,h,h2 => by
  simp only [freeAll,Bool.and_eq_true] at h ⊢
  exact ⟨⟨h2 d (by simp),h.1.2⟩,freeAll_of h.2 fun m hm => h2 m (by simp [hm])⟩
theorem retNew_of {io : List Nat} : ∀ {l : List (Nat × AObj)},retNew σ io l = true → (∀ n ∈ io,getO σ.ob n = getO σ'.ob n) → (∀ d ∈ namesO l,getO σ.ob d = none → σ'.free d = true) → retNew σ' io l = true
 | [],_,_,_ => rfl
 | (n,x) :: r,h,h1,h2 => by
  simp only [retNew,Bool.and_eq_true,Bool.or_eq_true] at h ⊢
  refine ⟨?_,retNew_of h.2 h1 fun d hd => h2 d (by simp [namesO,hd])⟩
  rcases h.1 with ⟨k1,k2⟩ | ⟨k1,k2⟩
  ·obtain ⟨y,hy,hb⟩ := List.any_eq_true.1 k1
   have hn := Nat.eq_of_beq_eq_true hb
   exact .inl ⟨k1,by rw [← h1 n (by rw [hn]; exact hy)]; exact k2⟩
  ·exact .inr ⟨h2 n (by simp [namesO]) (free_parts k1).1,k2⟩
def pureE (e : Eff) : Bool := e.pu
theorem namesO_fill {g : Nat → Nat → AV → AV} {ob : List (Nat × AObj)} : ∀ l : List (Nat × AObj),namesO (fillO g ob l) = namesO l
 | [] => rfl
 | (n,.box cs) :: r => by simp only [fillO,namesO,namesO_fill r]
 | (n,.arr ..) :: r => by simp only [fillO,namesO,namesO_fill r]
 | (n,.hol ..) :: r => by simp only [fillO,namesO,namesO_fill r]
theorem fillO_congr {g : Nat → Nat → AV → AV} {ob ob' : List (Nat × AObj)} : ∀ {l : List (Nat × AObj)},(∀ n ∈ namesO l,getO ob n = getO ob' n) → fillO g ob l = fillO g ob' l
 | [],_ => rfl
 | (n,.box cs) :: r,h => by
  simp only [fillO]
  rw [h n (by simp [namesO]),fillO_congr fun m hm => h m (by simp [namesO,hm])]
 | (n,.arr ..) :: r,h => by
  simp only [fillO]
  rw [fillO_congr fun m hm => h m (by simp [namesO,hm])]
 | (n,.hol ..) :: r,h => by
  simp only [fillO]
  rw [fillO_congr fun m hm => h m (by simp [namesO,hm])]
theorem Does.at {o : Oper} {e : Eff} (h : Does P T nt all o σ e) (hs : ∀ x ∈ o.op.operands,∀ τ,opv σ τ x = opv σ' τ x) (hg : guardB all σ o.guard = guardB all σ' o.guard)
  (ho : ∀ n,touchE σ o e.obs n = true → getO σ.ob n = getO σ'.ob n)
  (hf : ∀ d,getO σ.ob d = none → obsHas d e.obs = true → σ'.free d = true)
  (ha : (callOf σ o).isSome = true → pureE e = true ∨ σ'.ob = σ.ob) : Does P T nt all o σ' e := by
 obtain ⟨h1,h2,h3⟩ := h
 have hobs : ∀ n,obsHas n e.obs = true → getO σ.ob n = getO σ'.ob n := fun n hn => ho n (touchE_has hn)
 cases hmv : isMove o with
 | true =>
  obtain ⟨x,hx⟩ := isMove_op hmv
  have hcall : callOf σ o = none := by unfold callOf; rw [hx]
  refine ⟨h1,h2,?_⟩
  rw [← hg,← callOf_congr hs]
  rcases h3 with h3 | ⟨h3,h4⟩
  ·exact .inl h3
  refine .inr ⟨h3,?_⟩
  rcases h4 with ⟨f,args,ret,k1,_⟩ | ⟨k1,ps,v,k2,k3,k4,k5⟩
  ·rw [hcall] at k1
   cases k1
  ·refine .inr ⟨k1,ps,v,?_,?_,k4,k5⟩
   ·simp only [evalOp,hx] at k2 ⊢
    rw [← hs x (by rw [hx]; simp [Op.operands]) _]
    exact k2
   ·rw [← madeOf_congr hobs]
    exact freeAll_of k3 fun d hd => hf d (madeOf_none hd).1 (madeOf_none hd).2
 | false =>
 have ho : ∀ n,touch σ (callOf σ o).isSome o.op.operands.toList e.obs n = true → getO σ.ob n = getO σ'.ob n := fun n hn => ho n (by unfold touchE; rw [hmv]; exact hn)
 refine ⟨h1,h2,?_⟩
 rw [← hg,← callOf_congr hs]
 rcases h3 with h3 | ⟨h3,h4⟩
 ·exact .inl h3
 refine .inr ⟨h3,?_⟩
 rcases h4 with ⟨f,args,ret,k1,k2,k3,k4,k5⟩ | ⟨k1,ps,v,k2,k3,k4,k5⟩
 ·have hio : ∀ n ∈ ret.io,getO σ.ob n = getO σ'.ob n := fun n hn => hobs n (by rw [k4.1]; exact callObs_has.2 (.inl hn))
  have hio2 : ∀ m ∈ ret.io,∀ cs n,getO σ.ob m = some (.box cs) → AV.free.go n cs = false → getO σ.ob n = getO σ'.ob n := fun m hm cs n hg' hn =>
   ho n (by
    have := boxTouch_get (σ := σ) (xs := o.op.operands.toList) (obs := e.obs) hg' hn (.inr (by rw [k4.1]; exact callObs_has.2 (.inl hm)))
    simp [touch,this,k1])
  have hargs : args.map (seen3 ret.io σ.ob) = args.map (seen3 ret.io σ'.ob) := List.map_congr_left fun v hv => by
   refine seen3_congr (fun n hn => ho n ?_) (fun m cs n hm hg' hn => ho n ?_)
   ·have := callOf_mem k1 hv hn
    simp [touch,this,k1]
   ·have := boxTouch_get (σ := σ) (xs := o.op.operands.toList) (obs := e.obs) hg' hn (.inl (callOf_mem k1 hv hm))
    simp [touch,this,k1]
  have hnm : ∀ n ∈ namesO ret.ob,getO σ.ob n = getO σ'.ob n := fun n hn => hobs n (by rw [k4.1]; exact callObs_has.2 (.inr (by show n ∈ namesO (fillO _ _ _); rw [namesO_fill]; exact hn)))
  have hkr : keptR σ ret = keptR σ' ret := by unfold keptR; rw [fillO_congr hnm]
  refine .inl ⟨f,args,ret,k1,?_,?_,⟨by rw [← hkr]; exact k4.1,k4.2⟩,k5⟩
  ·simp only [retOk,Bool.and_eq_true] at k2 ⊢
   obtain ⟨⟨⟨p1',p2⟩,p3⟩,p4⟩ := k2
   have p1 : (ret.ret.pure && pureObs ret.ob || allIn σ' ret.io) = true := by
    rcases ha (by rw [k1]; rfl) with hp | hp
    ·unfold pureE at hp
     have : pureR ret = true := k4.2.symm.trans hp
     unfold pureR at this
     rw [this]
     rfl
    ·have e1 : allIn σ' ret.io = allIn σ ret.io := by unfold allIn; rw [hp]
     rw [e1]
     simpa [Bool.or_eq_true,Bool.and_eq_true] using p1'
   exact ⟨⟨⟨p1,p2⟩,p3⟩,retNew_of p4 hio fun d hd hn => hf d hn (by rw [k4.1]; exact callObs_has.2 (.inr (by show d ∈ namesO (fillO _ _ _); rw [namesO_fill]; exact hd)))⟩
  ·intro vf
   rw [← hargs,← pickO_congr hio hio2,← fillO_congr hnm]
   exact k3 vf
 ·refine .inr ⟨k1,ps,v,?_,?_,k4,k5⟩
  ·have e1 : evalOp T ⟨σ'.sl,σ.ob⟩ o = .ok ps v e.obs := by
    rw [← k2]
    exact (evalOp_slots (sl := σ.sl) (sl' := σ'.sl) (ob := σ.ob) hs).symm
   exact evalOp_obs (ob := σ.ob) (ob' := σ'.ob) e1 (fun x hx n hn => ho n (by
    have : (opv σ none x).free n = false := by
     rw [hs x hx none]
     exact hn
    have := opTouch_mem (xs := o.op.operands.toList) (by simpa using hx) this
    simp [touch,this])) hobs
  ·rw [← madeOf_congr hobs]
   exact freeAll_of k3 fun d hd => hf d (madeOf_none hd).1 (madeOf_none hd).2
end
end Go.AM
namespace Go.AM
def maskOf (acc : List Nat) : List Edge → Nat
 | [] => 0
 | e :: r => match Region.binds .any e with
  | true => (2 ^ e.on) ||| (acc.getD e.on 0 ||| maskOf acc r)
  | false => maskOf acc r
def masks : List Oper → List Nat → List Nat
 | [],acc => acc
 | o :: r,acc => masks r (acc ++ [maskOf acc o.after.toList])
def backE (j : Nat) : List Edge → Bool
 | [] => true
 | e :: r => (!(Region.binds .any e) || Nat.blt e.on j) && backE j r
def backB : Nat → List Oper → Bool
 | _,[] => true
 | j,o :: r => backE j o.after.toList && backB (j + 1) r
structure DI where
 o : Oper
 e : Eff
 σ : ASt
 g : Option Nat
def gSlot (all : List Oper) : Option (Nat × Bool) → Option Nat
 | none => none
 | some (j,_) => guardSlot all j
def infos (all : List Oper) : List Oper → List Eff → ASt → List DI
 | o :: r,e :: es,σ => ⟨o,e,σ,gSlot all o.guard⟩ :: infos all r es (app e σ)
 | _,_,_ => []
def hasTmp (d : Nat) : List Operand → Bool
 | [] => false
 | .tmp t :: r => Nat.beq t d || hasTmp d r
 | _ :: r => hasTmp d r
def rdSlot (x : DI) (d : Nat) : Bool := hasTmp d x.o.op.operands.toList || (match x.g with
 | some s => Nat.beq s d
 | none => false)
def apart1 (x y : DI) : Bool := (match x.e.dst with
 | none => true
 | some d => !rdSlot y d && (match y.e.dst with
  | some d' => !Nat.beq d d'
  | none => true)) && objs x.e.obs
where objs : List (Nat × Option AObj) → Bool
 | [] => true
 | (n,_) :: r => !touchE y.σ y.o y.e.obs n && objs r
def freeObs (n : Nat) : List (Nat × Option AObj) → Bool
 | [] => true
 | (_,some (.box cs)) :: r => AV.free.go n cs && freeObs n r
 | _ :: r => freeObs n r
def fresh1 (x y : DI) : Bool := go x.e.obs
where go : List (Nat × Option AObj) → Bool
 | [] => true
 | (n,_) :: r => (match getO x.σ.ob n with
  | some _ => true
  | none => y.e.v.free n && freeObs n y.e.obs) && go r
def impOk (x y : DI) : Bool := !(callOf x.σ x.o).isSome || (pureE x.e || y.e.obs.isEmpty)
def pairB (b : Bool) (x y : DI) : Bool := (b || (apart1 x y && (apart1 y x && (fresh1 x y && (impOk x y && impOk y x))))) && fresh1 y x
def allB (M : List Nat) (i : Nat) (x : DI) : Nat → List DI → Bool
 | _,[] => true
 | j,y :: r => pairB (Nat.testBit (M.getD j 0) i) x y && allB M i x (j + 1) r
def pairsB (M : List Nat) : Nat → List DI → Bool
 | _,[] => true
 | i,x :: r => allB M i x (i + 1) r && pairsB M (i + 1) r
def selfB (σ0 : ASt) : List DI → Bool
 | [] => true
 | x :: r => go x x.e.obs && selfB σ0 r
where go (x : DI) : List (Nat × Option AObj) → Bool
 | [] => true
 | (n,_) :: r => (match getO x.σ.ob n with
  | some _ => true
  | none => freeS n σ0.sl && freeO n σ0.ob) && go x r
def drawB (ops : List Oper) (es : List Eff) (σ0 : ASt) : Bool :=
 let I := infos ops ops es σ0
 backB 0 ops && (pairsB (masks ops []) 0 I && selfB σ0 I)
theorem maskOf_bit {acc : List Nat} : ∀ {es : List Edge} {i : Nat},Nat.testBit (maskOf acc es) i = true → ∃ e ∈ es,Region.binds .any e = true ∧ (e.on = i ∨ Nat.testBit (acc.getD e.on 0) i = true)
 | [],i,h => by simp [maskOf] at h
 | e :: r,i,h => by
  simp only [maskOf] at h
  split at h
  ·rename_i hb
   simp only [Nat.testBit_or,Nat.testBit_two_pow,Bool.or_eq_true,decide_eq_true_eq] at h
   rcases h with h | h | h
   ·exact ⟨e,by simp,hb,.inl h⟩
   ·exact ⟨e,by simp,hb,.inr h⟩
   ·obtain ⟨e',h1,h2⟩ := maskOf_bit h
    exact ⟨e',by simp [h1],h2⟩
  ·obtain ⟨e',h1,h2⟩ := maskOf_bit h
   exact ⟨e',by simp [h1],h2⟩
theorem masks_get : ∀ (l : List Oper) (acc : List Nat),(∀ k,k < acc.length → (masks l acc).getD k 0 = acc.getD k 0) ∧ (masks l acc).length = acc.length + l.length ∧
  ∀ (j : Nat) (o : Oper),l[j]? = some o → (masks l acc).getD (acc.length + j) 0 = maskOf ((masks l acc).take (acc.length + j)) o.after.toList
 | [],acc => ⟨fun _ _ => rfl,rfl,fun j o h => by simp at h⟩
 | o :: r,acc => by
  obtain ⟨h1,h2,h3⟩ := masks_get r (acc ++ [maskOf acc o.after.toList])
  simp only [List.length_append,List.length_singleton] at h1 h2 h3
  have h1' : ∀ k,k < acc.length → (masks (o :: r) acc).getD k 0 = acc.getD k 0 := fun k hk => by
   simp only [masks]
   rw [h1 k (by omega)]
   simp [List.getD,List.getElem?_append_left hk]
  refine ⟨h1',by simp only [masks,h2,List.length_cons]; omega,fun j p hp => ?_⟩
  cases j with
  | zero =>
   simp only [List.getElem?_cons_zero,Option.some.injEq] at hp
   subst hp
   simp only [masks,Nat.add_zero]
   rw [h1 _ (by omega)]
   have htake : (masks r (acc ++ [maskOf acc o.after.toList])).take acc.length = acc := by
    apply List.ext_getElem?
    intro k
    rw [List.getElem?_take]
    by_cases hk : k < acc.length
    ·rw [if_pos hk]
     have := h1 k (by omega)
     simp only [List.getD] at this
     have hlt : k < (masks r (acc ++ [maskOf acc o.after.toList])).length := by omega
     rw [List.getElem?_eq_getElem hlt,List.getElem?_append_left hk,List.getElem?_eq_getElem hk] at this
     rw [List.getElem?_eq_getElem hlt,List.getElem?_eq_getElem hk]
     simpa using this
    ·rw [if_neg hk,List.getElem?_eq_none (by omega)]
   rw [htake]
   simp [List.getD]
  | succ j =>
   have := h3 j p (by simpa using hp)
   simp only [masks]
   rw [show acc.length + (j + 1) = acc.length + 1 + j by omega]
   exact this
theorem masks_bit {l : List Oper} {j i : Nat} {o : Oper} (ho : l[j]? = some o) (h : Nat.testBit ((masks l []).getD j 0) i = true) : ∃ e ∈ o.after.toList,Region.binds .any e = true ∧ (e.on = i ∨ (e.on < j ∧ Nat.testBit ((masks l []).getD e.on 0) i = true)) := by
 obtain ⟨_,h2,h3⟩ := masks_get l []
 have := h3 j o ho
 simp only [List.length_nil,Nat.zero_add] at this
 rw [this] at h
 obtain ⟨e,h4,h5,h6⟩ := maskOf_bit h
 refine ⟨e,h4,h5,h6.imp id fun h7 => ?_⟩
 simp only [List.getD,List.getElem?_take] at h7
 split at h7
 ·rename_i hlt
  exact ⟨hlt,by simpa [List.getD] using h7⟩
 ·simp at h7
theorem backE_get {j : Nat} : ∀ {es : List Edge},backE j es = true → ∀ e ∈ es,Region.binds .any e = true → e.on < j
 | [],_,e,he,_ => by cases he
 | x :: r,h,e,he,hb => by
  simp only [backE,Bool.and_eq_true,Bool.or_eq_true] at h
  rcases List.mem_cons.1 he with rfl | he
  ·rcases h.1 with h1 | h1
   ·simp [hb] at h1
   ·exact Nat.le_of_ble_eq_true h1
  ·exact backE_get h.2 e he hb
theorem backB_get : ∀ {l : List Oper} {k : Nat},backB k l = true → ∀ (j : Nat) (o : Oper),l[j]? = some o → ∀ e ∈ o.after.toList,Region.binds .any e = true → e.on < k + j
 | [],_,_,j,o,ho => by simp at ho
 | x :: r,k,h,j,o,ho => by
  simp only [backB,Bool.and_eq_true] at h
  cases j with
  | zero => simp at ho; subst ho; exact backE_get h.1
  | succ j =>
   intro e he hb
   have := backB_get h.2 j o (by simpa using ho) e he hb
   omega
theorem closed_mask {l : List Oper} {S : Nat → Prop} (hS : ∀ (j : Nat) (o : Oper),l[j]? = some o → S j → ∀ e ∈ o.after.toList,Region.binds .any e = true → S e.on) :
  ∀ (j : Nat) (o : Oper),l[j]? = some o → (∀ e ∈ o.after.toList,Region.binds .any e = true → S e.on) → ∀ i,Nat.testBit ((masks l []).getD j 0) i = true → S i := by
 intro j
 induction j using Nat.strongRecOn with
 | _ j ih =>
  intro o ho hd i hi
  obtain ⟨e,h1,h2,h3⟩ := masks_bit ho hi
  have hse := hd e h1 h2
  rcases h3 with h3 | ⟨h3,h4⟩
  ·rw [← h3]; exact hse
  ·have hlt : e.on < l.length := by
    have := (List.getElem?_eq_some_iff.1 ho).1
    omega
   exact ih e.on h3 l[e.on] (List.getElem?_eq_getElem hlt) (hS e.on _ (List.getElem?_eq_getElem hlt) hse) i h4
structure SEq (σ σ' : ASt) : Prop where
 sl : ∀ i,getS σ.sl i = getS σ'.sl i
 ob : ∀ o,getO σ.ob o = getO σ'.ob o
theorem SEq.refl (σ : ASt) : SEq σ σ := ⟨fun _ => rfl,fun _ => rfl⟩
theorem SEq.symm {σ σ' : ASt} (h : SEq σ σ') : SEq σ' σ := ⟨fun i => (h.sl i).symm,fun o => (h.ob o).symm⟩
theorem SEq.trans {σ σ' σ'' : ASt} (h : SEq σ σ') (k : SEq σ' σ'') : SEq σ σ'' := ⟨fun i => (h.sl i).trans (k.sl i),fun o => (h.ob o).trans (k.ob o)⟩
def lastO (n : Nat) : List (Nat × Option AObj) → Option (Option AObj)
 | [] => none
 | (m,x) :: r => match lastO n r with
  | some y => some y
  | none => if m = n then some x else none
theorem getO_updO (n : Nat) : ∀ (obs : List (Nat × Option AObj)) (ob : List (Nat × AObj)),getO (updO ob obs) n = match lastO n obs with
  | some y => y
  | none => getO ob n
 | [],ob => rfl
 | (m,some x) :: r,ob => by
  simp only [updO,lastO]
  rw [getO_updO n r]
  cases lastO n r with
  | some y => rfl
  | none =>
   simp only [getO_set]
   split <;> rfl
 | (m,none) :: r,ob => by
  simp only [updO,lastO]
  rw [getO_updO n r]
  cases lastO n r with
  | some y => rfl
  | none =>
   simp only [getO_del]
   by_cases h : m = n
   ·subst h; simp
   ·have h' : ¬ n = m := fun e => h e.symm
    simp [h,h']
theorem lastO_none {n : Nat} : ∀ {obs : List (Nat × Option AObj)},obsHas n obs = false → lastO n obs = none
 | [],_ => rfl
 | (m,x) :: r,h => by
  simp only [obsHas,Bool.or_eq_false_iff] at h
  simp only [lastO,lastO_none h.2]
  rw [if_neg (Nat.ne_of_beq_eq_false h.1)]
theorem getS_app (e : Eff) (σ : ASt) (x : Nat) : getS (app e σ).sl x = if e.dst = some x then e.v else getS σ.sl x := by
 unfold app
 cases hd : e.dst with
 | none => simp [put]
 | some d =>
  simp only [getS_put]
  by_cases h : d = x <;> simp [h]
theorem getO_app (e : Eff) (σ : ASt) (n : Nat) : getO (app e σ).ob n = match lastO n e.obs with
  | some y => y
  | none => getO σ.ob n := getO_updO n e.obs σ.ob
theorem getO_app_none {e : Eff} {σ : ASt} {n : Nat} (h : obsHas n e.obs = false) : getO (app e σ).ob n = getO σ.ob n := by
 rw [getO_app,lastO_none h]
theorem SEq.app {σ σ' : ASt} (h : SEq σ σ') (e : Eff) : SEq (app e σ) (app e σ') :=
 ⟨fun i => by rw [getS_app,getS_app,h.sl],fun o => by rw [getO_app,getO_app,h.ob]⟩
def disj (e f : Eff) : Prop := (∀ d,e.dst = some d → f.dst ≠ some d) ∧ ∀ n,obsHas n e.obs = true → obsHas n f.obs = false
theorem app_comm {e f : Eff} (h : disj e f) (σ : ASt) : SEq (app e (app f σ)) (app f (app e σ)) := by
 refine ⟨fun i => ?_,fun n => ?_⟩
 ·rw [getS_app,getS_app,getS_app,getS_app]
  by_cases h1 : e.dst = some i
  ·rw [if_pos h1,if_neg (h.1 i h1),if_pos h1]
  ·rw [if_neg h1,if_neg h1]
 ·by_cases h1 : obsHas n e.obs = true
  ·have h2 := h.2 n h1
   rw [getO_app e,getO_app_none (e := f) (σ := σ) h2,getO_app_none (e := f) (σ := app e σ) h2,getO_app e]
  ·have h1' : obsHas n e.obs = false := by simpa using h1
   rw [getO_app_none (e := e) (σ := app f σ) h1',getO_app f,getO_app f,getO_app_none (e := e) (σ := σ) h1']
def stS (S : Nat → Bool) : List Eff → Nat → ASt → ASt
 | [],_,σ => σ
 | e :: r,k,σ => stS S r (k + 1) (match S k with
  | true => app e σ
  | false => σ)
theorem stS_congr (S : Nat → Bool) : ∀ (l : List Eff) (k : Nat) {σ σ' : ASt},SEq σ σ' → SEq (stS S l k σ) (stS S l k σ')
 | [],k,σ,σ',h => h
 | e :: r,k,σ,σ',h => by
  simp only [stS]
  refine stS_congr S r (k + 1) ?_
  split
  ·exact h.app e
  ·exact h
theorem stS_sl {S S' : Nat → Bool} {x : Nat} : ∀ (l : List Eff) (k : Nat) (σ σ' : ASt),(∀ i e,l[i]? = some e → S (k + i) ≠ S' (k + i) → e.dst ≠ some x) → getS σ.sl x = getS σ'.sl x → getS (stS S l k σ).sl x = getS (stS S' l k σ').sl x
 | [],k,σ,σ',_,h => h
 | e :: r,k,σ,σ',hl,h => by
  simp only [stS]
  refine stS_sl r (k + 1) _ _ (fun i e' hi hne => hl (i + 1) e' (by simpa using hi) (by rwa [show k + (i + 1) = k + 1 + i by omega])) ?_
  have h0 := hl 0 e rfl
  simp only [Nat.add_zero] at h0
  cases h1 : S k <;> cases h2 : S' k <;> simp only
  ·exact h
  ·rw [getS_app,if_neg (h0 (by simp [h1,h2]))]; exact h
  ·rw [getS_app,if_neg (h0 (by simp [h1,h2]))]; exact h
  ·rw [getS_app,getS_app,h]
theorem stS_ob {S S' : Nat → Bool} {n : Nat} : ∀ (l : List Eff) (k : Nat) (σ σ' : ASt),(∀ i e,l[i]? = some e → S (k + i) ≠ S' (k + i) → obsHas n e.obs = false) → getO σ.ob n = getO σ'.ob n → getO (stS S l k σ).ob n = getO (stS S' l k σ').ob n
 | [],k,σ,σ',_,h => h
 | e :: r,k,σ,σ',hl,h => by
  simp only [stS]
  refine stS_ob r (k + 1) _ _ (fun i e' hi hne => hl (i + 1) e' (by simpa using hi) (by rwa [show k + (i + 1) = k + 1 + i by omega])) ?_
  have h0 := hl 0 e rfl
  simp only [Nat.add_zero] at h0
  cases h1 : S k <;> cases h2 : S' k <;> simp only
  ·exact h
  ·rw [getO_app_none (h0 (by simp [h1,h2]))]; exact h
  ·rw [getO_app_none (h0 (by simp [h1,h2]))]; exact h
  ·rw [getO_app,getO_app,h]
theorem stS_push (S : Nat → Bool) (e : Eff) : ∀ (l : List Eff) (k : Nat) (σ : ASt),(∀ i f,l[i]? = some f → S (k + i) = true → disj e f) → SEq (stS S l k (app e σ)) (app e (stS S l k σ))
 | [],k,σ,_ => SEq.refl _
 | f :: r,k,σ,h => by
  simp only [stS]
  have h0 := h 0 f rfl
  simp only [Nat.add_zero] at h0
  have hr := fun i f' (hi : r[i]? = some f') (hs : S (k + 1 + i) = true) => h (i + 1) f' (by simpa using hi) (by rwa [show k + (i + 1) = k + 1 + i by omega])
  cases hs : S k with
  | false => simp only; exact stS_push S e r (k + 1) σ hr
  | true =>
   simp only
   exact (stS_congr S r (k + 1) (app_comm (h0 hs) σ).symm).trans (stS_push S e r (k + 1) (app f σ) hr)
theorem stS_add {S S' : Nat → Bool} {j : Nat} {e : Eff} (hj : S j = false) (hj' : S' j = true) (hS : ∀ i,i ≠ j → S' i = S i) : ∀ (l : List Eff) (k : Nat) (σ : ASt),k ≤ j → l[j - k]? = some e →
  (∀ i f,l[i]? = some f → j < k + i → S (k + i) = true → disj e f) → SEq (stS S' l k σ) (app e (stS S l k σ))
 | [],k,σ,_,h,_ => by simp at h
 | f :: r,k,σ,hk,hl,hd => by
  simp only [stS]
  by_cases hkj : k = j
  ·subst hkj
   simp only [Nat.sub_self,List.getElem?_cons_zero,Option.some.injEq] at hl
   subst hl
   rw [hj,hj']
   simp only
   have e1 : ∀ (l : List Eff) (m : Nat) (τ : ASt),k < m → stS S' l m τ = stS S l m τ := by
    intro l
    induction l with
    | nil => intro m τ _; rfl
    | cons x y ih => intro m τ hm; simp only [stS]; rw [hS m (by omega),ih (m + 1) _ (by omega)]
   rw [e1 _ _ _ (by omega)]
   exact stS_push S f r (k + 1) σ fun i f' hi hs => hd (i + 1) f' (by simpa using hi) (by omega) (by rwa [show k + (i + 1) = k + 1 + i by omega])
  ·rw [hS k hkj]
   have hlt : k + 1 ≤ j := by omega
   have hl' : r[j - (k + 1)]? = some e := by
    have : j - k = (j - (k + 1)) + 1 := by omega
    rw [this] at hl
    simpa using hl
   exact stS_add hj hj' hS r (k + 1) _ hlt hl' fun i f' hi hlt' hs => hd (i + 1) f' (by simpa using hi) (by omega) (by rwa [show k + (i + 1) = k + 1 + i by omega])
end Go.AM
namespace Go.AM
section
variable {P : Program} {T : TEnv} {w0 : World} {F0 : Nat → Prop} {L0 : Locs} {nt : Nat} {σ σ' σ0 : ASt} {a : Act} {w : World} {L : Locs} {fp : Nat → List Nat}
variable {all : List Oper}
theorem StW.ext (h : StW w0 F0 L0 nt σ a w L fp) (he : SEq σ σ') : StW w0 F0 L0 nt σ' a w L fp := by
 have hown : Owned σ'.ob fp = Owned σ.ob fp := by
  funext b
  unfold Owned
  simp only [he.ob]
 refine ⟨⟨fun o x hx => ?_,fun o b ho => h.owns.lt o b (by rw [he.ob]; exact ho),fun o ho => h.owns.nodup o (by rw [he.ob]; exact ho),fun o o' b ho ho' => h.owns.disj o o' b (by rw [he.ob]; exact ho) (by rw [he.ob]; exact ho')⟩,h.kept,fun b hb => h.fresh b (by rw [← hown]; exact hb),fun i => ?_,h.defers,h.size,h.le⟩
 ·rw [hown]
  exact h.owns.obj o x (by rw [he.ob]; exact hx)
 ·rw [hown,← he.sl]
  exact h.slots i
theorem St.ext (h : St w0 F0 L0 nt σ a w) (he : SEq σ σ') : St w0 F0 L0 nt σ' a w := by
 obtain ⟨L,fp,h⟩ := h
 exact ⟨L,fp,h.ext he⟩
theorem St.drew (h : St w0 F0 L0 nt σ a w) : St w0 F0 L0 nt σ a { w with drawn := w.drawn + 1 } := by
 obtain ⟨L,fp,h⟩ := h
 exact ⟨L,fp,⟨h.owns.obj,h.owns.lt,h.owns.nodup,h.owns.disj⟩,⟨h.kept.os,h.kept.tape,h.kept.output,h.kept.size,h.kept.block,Nat.le_trans h.kept.drawn (Nat.le_succ _)⟩,h.fresh,h.slots,h.defers,h.size,h.le⟩
def pre (σ0 : ASt) (es : List Eff) (j : Nat) : ASt := (es.take j).foldl (fun σ e => app e σ) σ0
theorem chain_length : ∀ {l : List Oper} {es : List Eff} {σ σ' : ASt},Chain P T nt all l es σ σ' → l.length = es.length
 | [],[],_,_,_ => rfl
 | [],_ :: _,_,_,h => h.elim
 | _ :: _,[],_,_,h => h.elim
 | _ :: r,_ :: es,_,_,h => by simp [chain_length h.2]
theorem chain_pre : ∀ {l : List Oper} {es : List Eff} {σ σ' : ASt},Chain P T nt all l es σ σ' → (∀ (j : Nat) (o : Oper) (e : Eff),l[j]? = some o → es[j]? = some e → Does P T nt all o (pre σ es j) e) ∧ σ' = pre σ es es.length
 | [],[],_,_,h => ⟨fun j o e ho => by simp at ho,h⟩
 | [],_ :: _,_,_,h => h.elim
 | _ :: _,[],_,_,h => h.elim
 | o :: r,e :: es,σ,σ',h => by
  obtain ⟨h1,h2⟩ := chain_pre h.2
  refine ⟨fun j o' e' ho he => ?_,by rw [h2]; simp [pre]⟩
  cases j with
  | zero =>
   simp at ho he
   subst ho he
   exact h.1
  | succ j => simpa [pre] using h1 j o' e' (by simpa using ho) (by simpa using he)
theorem pre_stS : ∀ (es : List Eff) (k j : Nat) (σ : ASt),pre σ es j = stS (fun i => decide (i < k + j)) es k σ
 | [],k,j,σ => by simp [pre,stS]
 | e :: r,k,0,σ => by
  simp only [stS,Nat.add_zero,Nat.lt_irrefl,decide_false]
  have e1 : ∀ (l : List Eff) (m : Nat) (τ : ASt),k ≤ m → stS (fun i => decide (i < k)) l m τ = τ := by
   intro l
   induction l with
   | nil => intro m τ _; rfl
   | cons x y ih =>
    intro m τ hm
    have : decide (m < k) = false := by simp; omega
    simp only [stS,this]
    exact ih (m + 1) τ (by omega)
  rw [e1 _ _ _ (by omega)]
  simp [pre]
 | e :: r,k,j + 1,σ => by
  have h1 : decide (k < k + (j + 1)) = true := by simp
  simp only [stS,h1]
  have := pre_stS r (k + 1) j (app e σ)
  rw [show k + 1 + j = k + (j + 1) by omega] at this
  rw [← this]
  simp [pre]
theorem infos_get : ∀ {l : List Oper} {es : List Eff} {σ : ASt} (j : Nat) (o : Oper) (e : Eff),l[j]? = some o → es[j]? = some e → (infos all l es σ)[j]? = some ⟨o,e,pre σ es j,gSlot all o.guard⟩
 | [],_,_,j,o,e,ho,_ => by simp at ho
 | _ :: _,[],_,j,o,e,_,he => by simp at he
 | x :: l,y :: es,σ,0,o,e,ho,he => by
  simp at ho he
  subst ho he
  simp [infos,pre]
 | x :: l,y :: es,σ,j + 1,o,e,ho,he => by
  have := infos_get (σ := app y σ) j o e (by simpa using ho) (by simpa using he)
  simp only [infos,List.getElem?_cons_succ]
  rw [this]
  simp [pre]
theorem allB_get {M : List Nat} {i : Nat} {x : DI} : ∀ {l : List DI} {j : Nat},allB M i x j l = true → ∀ (k : Nat) (y : DI),l[k]? = some y → pairB (Nat.testBit (M.getD (j + k) 0) i) x y = true
 | [],_,_,k,y,h => by simp at h
 | z :: r,j,h,k,y,hy => by
  simp only [allB,Bool.and_eq_true] at h
  cases k with
  | zero => simp at hy; subst hy; exact h.1
  | succ k =>
   have := allB_get h.2 k y (by simpa using hy)
   rwa [show j + 1 + k = j + (k + 1) by omega] at this
theorem pairsB_get {M : List Nat} : ∀ {l : List DI} {k : Nat},pairsB M k l = true → ∀ (i j : Nat) (x y : DI),i < j → l[i]? = some x → l[j]? = some y → pairB (Nat.testBit (M.getD (k + j) 0) (k + i)) x y = true
 | [],_,_,i,j,x,y,_,h,_ => by simp at h
 | z :: r,k,h,i,j,x,y,hij,hx,hy => by
  simp only [pairsB,Bool.and_eq_true] at h
  cases i with
  | zero =>
   simp at hx
   subst hx
   cases j with
   | zero => omega
   | succ j =>
    have := allB_get h.1 j y (by simpa using hy)
    rwa [show k + 1 + j = k + (j + 1) by omega] at this
  | succ i =>
   cases j with
   | zero => omega
   | succ j =>
    have := pairsB_get h.2 i j x y (by omega) (by simpa using hx) (by simpa using hy)
    rwa [show k + 1 + i = k + (i + 1) by omega,show k + 1 + j = k + (j + 1) by omega] at this
theorem selfB_get : ∀ {l : List DI},selfB σ0 l = true → ∀ x ∈ l,selfB.go σ0 x x.e.obs = true
 | [],_,x,hx => by cases hx
 | z :: r,h,x,hx => by
  simp only [selfB,Bool.and_eq_true] at h
  rcases List.mem_cons.1 hx with rfl | hx
  ·exact h.1
  ·exact selfB_get h.2 x hx
theorem selfGo_get {x : DI} {n : Nat} : ∀ {obs : List (Nat × Option AObj)},selfB.go σ0 x obs = true → obsHas n obs = true → (match getO x.σ.ob n with
  | some _ => true
  | none => freeS n σ0.sl && freeO n σ0.ob) = true
 | [],_,h => by simp [obsHas] at h
 | (m,y) :: r,h,hn => by
  simp only [selfB.go,Bool.and_eq_true] at h
  simp only [obsHas,Bool.or_eq_true] at hn
  rcases hn with hn | hn
  ·rw [← Nat.eq_of_beq_eq_true hn]; exact h.1
  ·exact selfGo_get h.2 hn
theorem apartObjs_get {y : DI} {n : Nat} : ∀ {obs : List (Nat × Option AObj)},apart1.objs y obs = true → obsHas n obs = true → touchE y.σ y.o y.e.obs n = false
 | [],_,h => by simp [obsHas] at h
 | (m,z) :: r,h,hn => by
  simp only [apart1.objs,Bool.and_eq_true,Bool.not_eq_true'] at h
  simp only [obsHas,Bool.or_eq_true] at hn
  rcases hn with hn | hn
  ·rw [← Nat.eq_of_beq_eq_true hn]; exact h.1
  ·exact apartObjs_get h.2 hn
theorem freshGo_get {x y : DI} {n : Nat} : ∀ {obs : List (Nat × Option AObj)},fresh1.go x y obs = true → obsHas n obs = true → getO x.σ.ob n = none → y.e.v.free n = true ∧ freeObs n y.e.obs = true
 | [],_,h,_ => by simp [obsHas] at h
 | (m,z) :: r,h,hn,hg => by
  simp only [fresh1.go,Bool.and_eq_true] at h
  simp only [obsHas,Bool.or_eq_true] at hn
  rcases hn with hn | hn
  ·have := Nat.eq_of_beq_eq_true hn
   subst this
   have h1 := h.1
   rw [hg] at h1
   simpa using h1
  ·exact freshGo_get h.2 hn hg
theorem hasTmp_mem {d : Nat} : ∀ {xs : List Operand},Operand.tmp d ∈ xs → hasTmp d xs = true
 | x :: r,h => by
  rcases List.mem_cons.1 h with h | h
  ·subst h; simp [hasTmp]
  ·have := hasTmp_mem h
   cases x <;> simp [hasTmp,this]
theorem freeS_put {d : Nat} {sl : List (Nat × AV)} {dst : Option Nat} {v : AV} (h : freeS d sl = true) (hv : v.free d = true) : freeS d (put sl dst v) = true := by
 cases dst with
 | none => exact h
 | some i => simp [put,freeS,h,hv]
theorem freeO_del {d u : Nat} : ∀ {ob : List (Nat × AObj)},freeO d ob = true → freeO d (delO ob u) = true
 | [],_ => rfl
 | (j,x) :: r,h => by
  simp only [delO]
  cases x with
  | box cs =>
   simp only [freeO,Bool.and_eq_true] at h
   split
   ·exact freeO_del h.2
   ·simp [freeO,h.1,freeO_del h.2]
  | arr =>
   simp only [freeO] at h
   split
   ·exact freeO_del h
   ·simp [freeO,freeO_del h]
  | hol =>
   simp only [freeO] at h
   split
   ·exact freeO_del h
   ·simp [freeO,freeO_del h]
theorem freeO_upd {d : Nat} : ∀ {obs : List (Nat × Option AObj)} {ob : List (Nat × AObj)},freeO d ob = true → freeObs d obs = true → freeO d (updO ob obs) = true
 | [],ob,h,_ => h
 | (m,none) :: r,ob,h,ho => by
  simp only [freeObs] at ho
  simp only [updO]
  exact freeO_upd (freeO_del h) ho
 | (m,some (.box cs)) :: r,ob,h,ho => by
  simp only [freeObs,Bool.and_eq_true] at ho
  simp only [updO]
  exact freeO_upd (by simp [setO,freeO,h,ho.1]) ho.2
 | (m,some (.arr e v r' p)) :: r,ob,h,ho => by
  simp only [freeObs] at ho
  simp only [updO]
  exact freeO_upd (by simp [setO,freeO,h]) ho
 | (m,some (.hol e v r' p kk)) :: r,ob,h,ho => by
  simp only [freeObs] at ho
  simp only [updO]
  exact freeO_upd (by simp [setO,freeO,h]) ho
theorem free_stS {S : Nat → Bool} {d : Nat} : ∀ (l : List Eff) (k : Nat) (σ : ASt),freeS d σ.sl = true → freeO d σ.ob = true → (∀ i e,l[i]? = some e → S (k + i) = true → e.v.free d = true ∧ freeObs d e.obs = true) →
  freeS d (stS S l k σ).sl = true ∧ freeO d (stS S l k σ).ob = true
 | [],k,σ,h1,h2,_ => ⟨h1,h2⟩
 | e :: r,k,σ,h1,h2,h => by
  simp only [stS]
  have h0 := h 0 e rfl
  simp only [Nat.add_zero] at h0
  have hr := fun i f (hi : r[i]? = some f) (hs : S (k + 1 + i) = true) => h (i + 1) f (by simpa using hi) (by rwa [show k + (i + 1) = k + 1 + i by omega])
  cases hs : S k with
  | false => exact free_stS r (k + 1) σ h1 h2 hr
  | true =>
   obtain ⟨g1,g2⟩ := h0 hs
   exact free_stS r (k + 1) (app e σ) (freeS_put h1 g1) (freeO_upd h2 g2) hr
def cnt : List Bool → Nat
 | [] => 0
 | true :: r => cnt r + 1
 | false :: r => cnt r
theorem cnt_le : ∀ l : List Bool,cnt l ≤ l.length
 | [] => Nat.le_refl _
 | true :: r => by simp [cnt,cnt_le r]
 | false :: r => by have := cnt_le r; simp [cnt]; omega
theorem cnt_set : ∀ (l : List Bool) (j : Nat),l[j]? = some false → cnt (l.set j true) = cnt l + 1
 | [],j,h => by simp at h
 | x :: r,0,h => by simp at h; subst h; simp [cnt]
 | x :: r,j + 1,h => by
  have := cnt_set r j (by simpa using h)
  cases x <;> simp [cnt,this]
theorem cnt_full : ∀ (l : List Bool),cnt l = l.length → ∀ j,j < l.length → l[j]? = some true
 | [],_,j,h => by simp at h
 | true :: r,h,j,hj => by
  simp only [cnt,List.length_cons] at h hj
  cases j with
  | zero => rfl
  | succ j => simpa using cnt_full r (by omega) j (by omega)
 | false :: r,h,j,hj => by
  have := cnt_le r
  simp only [cnt,List.length_cons] at h
  omega
theorem cnt_replicate (n : Nat) : cnt (List.replicate n false) = 0 := by
 induction n with
 | zero => rfl
 | succ n ih => simp [List.replicate_succ,cnt,ih]
end
section
variable {P : Program} {T : TEnv} {w0 : World} {F0 : Nat → Prop} {L0 : Locs} {nt : Nat} {σ σ' σ0 : ASt} {ops : Array Oper} {es : List Eff}
theorem opv_const {σ σ' : ASt} {τ : Option Sh} (v : Value) : opv σ τ (.const v) = opv σ' τ (.const v) := by
 unfold opv
 cases v <;> try rfl
 all_goals (split <;> rename_i h <;> first | rfl | cases h)
theorem pair_apart {M : List Nat} {l : List DI} (hp : pairsB M 0 l = true) {i j : Nat} {x y : DI} (hij : i < j) (hx : l[i]? = some x) (hy : l[j]? = some y) (hm : Nat.testBit (M.getD j 0) i = false) :
  apart1 x y = true ∧ apart1 y x = true ∧ fresh1 x y = true ∧ fresh1 y x = true ∧ impOk x y = true ∧ impOk y x = true := by
 have := pairsB_get hp i j x y hij hx hy
 simp only [pairB,Nat.zero_add,hm,Bool.false_or,Bool.and_eq_true] at this
 exact ⟨this.1.1,this.1.2.1,this.1.2.2.1,this.2,this.1.2.2.2.1,this.1.2.2.2.2⟩
theorem pair_fresh {M : List Nat} {l : List DI} (hp : pairsB M 0 l = true) {i j : Nat} {x y : DI} (hij : i < j) (hx : l[i]? = some x) (hy : l[j]? = some y) : fresh1 y x = true := by
 have := pairsB_get hp i j x y hij hx hy
 simp only [pairB,Bool.and_eq_true] at this
 exact this.2
theorem stS_obeq {S S' : Nat → Bool} : ∀ (l : List Eff) (k : Nat) (σ τ : ASt),(∀ i e,l[i]? = some e → S (k + i) ≠ S' (k + i) → e.obs = []) → σ.ob = τ.ob → (stS S l k σ).ob = (stS S' l k τ).ob
 | [],_,_,_,_,h => h
 | e :: r,k,σ,τ,h,h0 => by
  have hr := fun i f (hi : r[i]? = some f) (hs : S (k + 1 + i) ≠ S' (k + 1 + i)) => h (i + 1) f (by simpa using hi) (by rwa [show k + (i + 1) = k + 1 + i by omega])
  have hz := h 0 e rfl
  rw [Nat.add_zero] at hz
  simp only [stS]
  cases h1 : S k <;> cases h2 : S' k
  ·exact stS_obeq r (k + 1) σ τ hr h0
  ·refine stS_obeq r (k + 1) σ (app e τ) hr ?_
   have := hz (by rw [h1,h2]; decide)
   simp only [app,this,updO]
   exact h0
  ·refine stS_obeq r (k + 1) (app e σ) τ hr ?_
   have := hz (by rw [h1,h2]; decide)
   simp only [app,this,updO]
   exact h0
  ·refine stS_obeq r (k + 1) (app e σ) (app e τ) hr ?_
   simp only [app,h0]
theorem draw_step (hB : drawB ops.toList es σ0 = true) (hc : Chain P T nt ops.toList ops.toList es σ0 σ') (S : Nat → Bool)
  (hS : ∀ (j : Nat) (o : Oper),ops.toList[j]? = some o → S j = true → ∀ e ∈ o.after.toList,Region.binds .any e = true → S e.on = true)
  {j : Nat} {o : Oper} (ho : ops.toList[j]? = some o) (hj : S j = false) (hr : ∀ e ∈ o.after.toList,Region.binds .any e = true → S e.on = true) {S' : Nat → Bool} (hj' : S' j = true) (hS' : ∀ i,i ≠ j → S' i = S i) :
  ∃ e,Does P T nt ops.toList o (stS S es 0 σ0) e ∧ SEq (stS S' es 0 σ0) (app e (stS S es 0 σ0)) := by
 unfold drawB at hB
 simp only [Bool.and_eq_true] at hB
 obtain ⟨hback,hpairs,hself⟩ := hB
 have hlen := chain_length hc
 have hjl : j < ops.toList.length := (List.getElem?_eq_some_iff.1 ho).1
 obtain ⟨e,he⟩ : ∃ e,es[j]? = some e := ⟨es[j]'(by omega),List.getElem?_eq_getElem (by omega)⟩
 have hI := fun (i : Nat) (p : Oper) (f : Eff) (h1 : ops.toList[i]? = some p) (h2 : es[i]? = some f) => infos_get (all := ops.toList) (σ := σ0) i p f h1 h2
 have hIj := hI j o e ho he
 have hdoes := (chain_pre hc).1 j o e ho he
 have hpre : pre σ0 es j = stS (fun i => decide (i < 0 + j)) es 0 σ0 := pre_stS es 0 j σ0
 simp only [Nat.zero_add] at hpre
 have hop : ∀ i f,es[i]? = some f → ∃ p,ops.toList[i]? = some p := fun i f hf => ⟨ops.toList[i]'(by rw [hlen]; exact (List.getElem?_eq_some_iff.1 hf).1),List.getElem?_eq_getElem _⟩
 -- operations that are in one of the two sets only wait for nothing of each other
 have unord : ∀ i f p,es[i]? = some f → ops.toList[i]? = some p → i ≠ j → ((decide (i < j)) ≠ S i ∨ (j < i ∧ S i = true)) →
   apart1 ⟨p,f,pre σ0 es i,gSlot ops.toList p.guard⟩ ⟨o,e,pre σ0 es j,gSlot ops.toList o.guard⟩ = true ∧
   apart1 ⟨o,e,pre σ0 es j,gSlot ops.toList o.guard⟩ ⟨p,f,pre σ0 es i,gSlot ops.toList p.guard⟩ = true ∧ impOk ⟨o,e,pre σ0 es j,gSlot ops.toList o.guard⟩ ⟨p,f,pre σ0 es i,gSlot ops.toList p.guard⟩ = true := by
  intro i f p hf hp hij hor
  rcases Nat.lt_or_gt_of_ne hij with hlt | hlt
  ·have hSi : S i = false := by
    rcases hor with h | h
    ·simp only [hlt,decide_true] at h
     cases hs : S i with
     | false => rfl
     | true => rw [hs] at h; exact absurd rfl h
    ·omega
   have hm : Nat.testBit ((masks ops.toList []).getD j 0) i = false := by
    cases hb : Nat.testBit ((masks ops.toList []).getD j 0) i with
    | false => rfl
    | true =>
     have := closed_mask (S := fun i => S i = true) hS j o ho hr i hb
     rw [hSi] at this
     cases this
   have := pair_apart hpairs hlt (hI i p f hp hf) hIj hm
   exact ⟨this.1,this.2.1,this.2.2.2.2.2⟩
  ·have hSi : S i = true := by
    rcases hor with h | h
    ·have : decide (i < j) = false := by simp; omega
     rw [this] at h
     cases hs : S i with
     | true => rfl
     | false => rw [hs] at h; exact absurd rfl h
    ·exact h.2
   have hm : Nat.testBit ((masks ops.toList []).getD i 0) j = false := by
    cases hb : Nat.testBit ((masks ops.toList []).getD i 0) j with
    | false => rfl
    | true =>
     have := closed_mask (S := fun i => S i = true) hS i p hp (hS i p hp hSi) j hb
     rw [hj] at this
     cases this
   have := pair_apart hpairs hlt hIj (hI i p f hp hf) hm
   exact ⟨this.2.1,this.1,this.2.2.2.2.1⟩
 -- slots and objects that the operation looks at
 have hslot : ∀ d,rdSlot ⟨o,e,pre σ0 es j,gSlot ops.toList o.guard⟩ d = true → getS (pre σ0 es j).sl d = getS (stS S es 0 σ0).sl d := by
  intro d hd
  rw [hpre]
  refine stS_sl es 0 σ0 σ0 (fun i f hf hne hdst => ?_) rfl
  simp only [Nat.zero_add] at hne
  have hij : i ≠ j := fun e1 => by subst e1; simp [hj] at hne
  obtain ⟨p,hp⟩ := hop i f hf
  have := (unord i f p hf hp hij (.inl hne)).1
  simp only [apart1,hdst,Bool.and_eq_true,Bool.not_eq_true'] at this
  rw [hd] at this
  exact absurd this.1.1 (by simp)
 have hobj : ∀ n,touchE (pre σ0 es j) o e.obs n = true → getO (pre σ0 es j).ob n = getO (stS S es 0 σ0).ob n := by
  intro n hn
  rw [hpre]
  refine stS_ob es 0 σ0 σ0 (fun i f hf hne => ?_) rfl
  simp only [Nat.zero_add] at hne
  have hij : i ≠ j := fun e1 => by subst e1; simp [hj] at hne
  obtain ⟨p,hp⟩ := hop i f hf
  have := (unord i f p hf hp hij (.inl hne)).1
  simp only [apart1,Bool.and_eq_true] at this
  cases hb : obsHas n f.obs with
  | false => rfl
  | true =>
   have h2 := apartObjs_get this.2 hb
   simp only at h2
   rw [hn] at h2
   cases h2
 have hself' := selfB_get hself _ (List.mem_of_getElem? hIj)
 refine ⟨e,hdoes.at (fun x hx τ => ?_) ?_ hobj (fun d hd hobs => ?_) (fun hcall => ?_),stS_add hj hj' hS' es 0 σ0 (Nat.zero_le _) (by simpa using he) fun i f hf hlt hs => ?_⟩
 ·cases x with
  | tmp t =>
   have := hslot t (by
    simp only [rdSlot,Bool.or_eq_true]
    exact .inl (hasTmp_mem (by simpa using hx)))
   simp only [opv]
   exact this
  | const v => exact opv_const v
  | _ => rfl
 ·unfold guardB
  cases hgu : o.guard with
  | none => rfl
  | some g =>
   obtain ⟨k,want⟩ := g
   simp only
   cases hgs : guardSlot ops.toList k with
   | none => rfl
   | some s =>
    simp only
    rw [hslot s (by simp [rdSlot,hgu,gSlot,hgs])]
 ·have hn := hobj d (touchE_has hobs)
  have h3 := selfGo_get hself' hobs
  simp only at h3
  rw [hd] at h3
  simp only [Bool.and_eq_true] at h3
  obtain ⟨g1,g2⟩ := free_stS (S := S) (d := d) es 0 σ0 h3.1 h3.2 fun i f hf hs => by
   simp only [Nat.zero_add] at hs
   have hij : i ≠ j := fun e1 => by subst e1; rw [hj] at hs; cases hs
   obtain ⟨p,hp⟩ := hop i f hf
   have hfr : fresh1 ⟨o,e,pre σ0 es j,gSlot ops.toList o.guard⟩ ⟨p,f,pre σ0 es i,gSlot ops.toList p.guard⟩ = true := by
    rcases Nat.lt_or_gt_of_ne hij with hlt | hlt
    ·exact pair_fresh hpairs hlt (hI i p f hp hf) hIj
    ·have hm : Nat.testBit ((masks ops.toList []).getD i 0) j = false := by
      cases hb : Nat.testBit ((masks ops.toList []).getD i 0) j with
      | false => rfl
      | true =>
       have := closed_mask (S := fun i => S i = true) hS i p hp (hS i p hp hs) j hb
       rw [hj] at this
       cases this
     exact (pair_apart hpairs hlt hIj (hI i p f hp hf) hm).2.2.1
   exact freshGo_get hfr hobs hd
  unfold ASt.free
  rw [← hn,hd]
  simp [g1,g2]
 ·cases hpu : pureE e with
  | true => exact .inl rfl
  | false =>
   right
   rw [hpre]
   refine stS_obeq es 0 σ0 σ0 (fun i f hf hne => ?_) rfl
   simp only [Nat.zero_add] at hne
   have hij : i ≠ j := fun e1 => by subst e1; simp [hj] at hne
   obtain ⟨p,hp⟩ := hop i f hf
   have := (unord i f p hf hp hij (.inl fun h => hne h.symm)).2.2
   simp only [impOk,hcall,hpu,Bool.not_true,Bool.false_or] at this
   exact List.isEmpty_iff.1 this
 ·simp only [Nat.zero_add] at hs hlt
  have hij : i ≠ j := by omega
  obtain ⟨p,hp⟩ := hop i f hf
  have := (unord i f p hf hp hij (.inr ⟨hlt,hs⟩)).2.1
  simp only [apart1,Bool.and_eq_true] at this
  refine ⟨fun d hd hd2 => ?_,fun n hn => ?_⟩
  ·have h1 := this.1
   simp only [hd,hd2,Bool.and_eq_true,Bool.not_eq_true'] at h1
   have := h1.2
   simp at this
  ·have h2 := apartObjs_get this.2 hn
   cases hb : obsHas n f.obs with
   | false => rfl
   | true =>
    rw [touchE_has hb] at h2
    cases h2
theorem draw_any {Q : Exit → Act → World → Prop} (hT : TOk P T) (hL0 : L0Ok P w0 F0 L0) (hB : drawB ops.toList es σ0 = true) (hc : Chain P T nt ops.toList ops.toList es σ0 σ')
  (hQ : ∀ a w,St w0 F0 L0 nt σ' a w → Q .normal a w) : ∀ (fuel : Nat) (listed : Array Bool) (a : Act) (w : World),listed.size = ops.size → cnt listed.toList + fuel = ops.size →
   (∀ (j : Nat) (o : Oper),ops.toList[j]? = some o → listed.getD j false = true → ∀ e ∈ o.after.toList,Region.binds .any e = true → listed.getD e.on false = true) →
   St w0 F0 L0 nt (stS (fun j => listed.getD j false) es 0 σ0) a w → wpAny P .any ops Q fuel listed a w := by
 have hlen := chain_length hc
 have hback : backB 0 ops.toList = true := by
  unfold drawB at hB
  simp only [Bool.and_eq_true] at hB
  exact hB.1
 have fin : ∀ (listed : Array Bool) (a : Act) (w : World),(∀ j,j < ops.size → listed.getD j false = true) → St w0 F0 L0 nt (stS (fun j => listed.getD j false) es 0 σ0) a w → Q .normal a w := by
  intro listed a w hall hst
  refine hQ a w (hst.ext ?_)
  rw [(chain_pre hc).2,pre_stS es 0]
  have hlen' : es.length = ops.size := by rw [← hlen,Array.length_toList]
  refine ⟨fun i => stS_sl es 0 σ0 σ0 (fun k e hk hne => absurd ?_ hne) rfl,fun n => stS_ob es 0 σ0 σ0 (fun k e hk hne => absurd ?_ hne) rfl⟩
  ·have hk' := (List.getElem?_eq_some_iff.1 hk).1
   have := hall k (by omega)
   simp only [Nat.zero_add]
   rw [this]
   simp [hk']
  ·have hk' := (List.getElem?_eq_some_iff.1 hk).1
   have := hall k (by omega)
   simp only [Nat.zero_add]
   rw [this]
   simp [hk']
 -- while something is not listed,something is ready
 have hready : ∀ listed : Array Bool,listed.size = ops.size → Region.ready .any ops listed = [] → ∀ j,j < ops.size → listed.getD j false = true := by
  intro listed hsz hr j
  induction j using Nat.strongRecOn with
  | _ j ih =>
   intro hj
   cases hl : listed.getD j false with
   | true => rfl
   | false =>
    have hmem : j ∈ Region.ready .any ops listed := by
     rw [mem_ready]
     refine ⟨?_,ops[j],Array.getElem?_eq_getElem hj,fun e he hb => ?_⟩
     ·have hjs : j < listed.size := by omega
      simp [Array.getD,hjs] at hl ⊢
      exact hl
     ·have hlt := backB_get hback j ops[j] (by simp) e (by simpa using he) hb
      exact ih e.on (by omega) (by omega)
    rw [hr] at hmem
    cases hmem
 intro fuel
 induction fuel with
 | zero =>
  intro listed a w hsz hcnt hcl hst
  have hall : ∀ j,j < ops.size → listed.getD j false = true := fun j hj => by
   have := cnt_full listed.toList (by simp; omega) j (by simp; omega)
   have hjs : j < listed.size := by omega
   simp [Array.getD,hjs] at this ⊢
   exact this
  refine ⟨?_,fin listed a w hall hst⟩
  cases hr : Region.ready .any ops listed with
  | nil => rfl
  | cons x r =>
   have hx : x ∈ Region.ready .any ops listed := by rw [hr]; simp
   obtain ⟨h0,o,ho,_⟩ := mem_ready.1 hx
   have hxs : x < ops.size := (Array.getElem?_eq_some_iff.1 ho).1
   have h1 := hall x hxs
   have hxl : x < listed.size := by omega
   simp [Array.getD,hxl] at h0 h1
   rw [h1] at h0
   cases h0
 | succ fuel ih =>
  intro listed a w hsz hcnt hcl hst
  refine ⟨fun hr => fin listed a w (hready listed hsz hr) hst,fun i hi => ?_⟩
  obtain ⟨h0,o,ho,hdep⟩ := mem_ready.1 hi
  have his : i < ops.size := (Array.getElem?_eq_some_iff.1 ho).1
  have hil : i < listed.size := by omega
  have hi0 : listed.getD i false = false := by simp [Array.getD,hil] at h0 ⊢; exact h0
  have hol : ops.toList[i]? = some o := by simpa using ho
  have hset : ∀ k,k ≠ i → (listed.setIfInBounds i true).getD k false = listed.getD k false := fun k hk => getD_set_ne false (Ne.symm hk)
  have hset' : (listed.setIfInBounds i true).getD i false = true := by simp [Array.getD,hil]
  obtain ⟨e,hd,hseq⟩ := draw_step hB hc (fun j => listed.getD j false) hcl hol hi0 (fun e he hb => hdep e (by simpa using he) hb) (S' := fun j => (listed.setIfInBounds i true).getD j false) hset' hset
  have next : ∀ a w,St w0 F0 L0 nt (app e (stS (fun j => listed.getD j false) es 0 σ0)) a w → wpAny P .any ops Q fuel (listed.setIfInBounds i true) a w := fun a w ha => by
   refine ih _ a w (by simp [hsz]) ?_ (fun j p hp hj f hf hb => ?_) (ha.ext hseq.symm)
   ·have : (listed.setIfInBounds i true).toList = listed.toList.set i true := by simp
    rw [this,cnt_set _ _ (by
     rw [List.getElem?_eq_getElem (by simpa using hil)]
     simp [Array.getD,hil] at hi0
     simp [hi0])]
    omega
   ·by_cases hji : j = i
    ·subst hji
     rw [hol] at hp
     cases hp
     exact getD_set_true (hdep f (by simpa using hf) hb)
    ·rw [hset j hji] at hj
     exact getD_set_true (hcl j p hp hj f hf hb)
  unfold wpOp
  rw [ho]
  simp only
  rcases does_ok (ops := ops) hT hL0 hd hst with ⟨hw,h5⟩ | ⟨hw,h5⟩
  ·rw [if_neg (by simp [hw])]
   exact next _ _ h5
  ·rw [if_pos hw]
   exact .inl (h5 _ _ next)
theorem draw_wp {Q : Exit → Act → World → Prop} {id : Nat} {a : Act} {w : World} (hm : P.follows .mixedOrders = true) (hT : TOk P T) (hL0 : L0Ok P w0 F0 L0) (hB : drawB ops.toList es σ0 = true) (hc : Chain P T nt ops.toList ops.toList es σ0 σ')
  (h : St w0 F0 L0 nt σ0 a w) (hQ : ∀ a w,St w0 F0 L0 nt σ' a w → Q .normal a w) : (Code.region id ops true).wp P Q a w := by
 refine wp_region_any hm (draw_any hT hL0 hB hc hQ ops.size _ a _ (by simp) (by simp [cnt_replicate]) (fun j o ho hj => ?_) (St.ext h.drew ?_))
 ·have hjl : j < ops.size := by simpa using (List.getElem?_eq_some_iff.1 ho).1
  simp [Array.getD,hjl] at hj
 ·have hz : ∀ j,(Array.replicate ops.size false).getD j false = false := fun j => by
   by_cases hj : j < ops.size <;> simp [Array.getD,hj]
  have e1 : ∀ (l : List Eff) (k : Nat) (τ : ASt),stS (fun _ => false) l k τ = τ := by
   intro l
   induction l with
   | nil => intro k τ; rfl
   | cons x y ih => intro k τ; simp only [stS]; exact ih _ _
  rw [show (fun j => (Array.replicate ops.size false).getD j false) = fun _ => false from funext hz,e1]
  exact SEq.refl _
end
end Go.AM
namespace Go.AM
open Classical
inductive KOut where
 | fail
 | mk (cs : List Prop) (σ : ASt) (K : List KI)
def fuelK : Nat := 60
def runK (E : Env) : Nat → ASt → List KI → List Ch → List Prop → KOut
 | 0,σ,K,_,cs => .mk cs σ (norm E.body σ fuelK K)
 | n + 1,σ,K,chs,cs => match norm E.body σ fuelK K with
  | .code p i :: K => match kcode E.body p i with
   | .region _ ops draw => match evR E.P E.T E.nt ops.toList ops.toList 0 σ chs cs [] with
    | .fail => .fail
    | .mk cs σ' tr chs => match draw with
     | false => runK E n σ' K chs cs
     | true => match drawB ops.toList tr.reverse σ with
      | true => runK E n σ' K chs cs
      | false => .fail
   | .cond c _ _ => match opv σ none c,chs with
    | .bool b,.g t :: chs => runK E n σ (.code (p ++ [(i,match t with | true => 0 | false => 1)]) 0 :: K) chs ((b = t) :: cs)
    | _,_ => .fail
   | _ => .fail
  | _ => .fail
section
variable {E : Env} {σ σ' : ASt} {K K' : List KI} {Q : Exit → ASt → Prop}
theorem runK_ok : ∀ (n : Nat) {σ : ASt} {K : List KI} {chs : List Ch} {cs cs' : List Prop} {σ' : ASt} {K' : List KI},runK E n σ K chs cs = .mk cs' σ' K' → AllP cs' → AllP cs ∧ (Tri E K' σ' Q → Tri E K σ Q)
 | 0,σ,K,chs,cs,cs',σ',K',h,hcs => by
  simp only [runK,KOut.mk.injEq] at h
  obtain ⟨rfl,rfl,rfl⟩ := h
  exact ⟨hcs,fun h => Tri.norm _ h⟩
 | n + 1,σ,K,chs,cs,cs',σ',K',h,hcs => by
  unfold runK at h
  split at h
  ·rename_i p i K2 hK
   split at h
   ·rename_i id ops draw hc
    split at h
    ·cases h
    ·rename_i cs2 σ2 tr chs2 hev
     have main : AllP cs2 → (Tri E K' σ' Q → Tri E K2 σ2 Q) → (draw = true → drawB ops.toList tr.reverse σ = true) → AllP cs ∧ (Tri E K' σ' Q → Tri E K σ Q) := by
      intro h1 h2 hdr
      obtain ⟨g1,es,g2,g3⟩ := evR_chain _ _ _ _ _ _ _ _ _ _ _ hev h1
      refine ⟨g1,fun hk => Tri.norm fuelK ?_⟩
      rw [hK]
      intro w0 F0 L0 hL0 a w hs
      show (kcode E.body p i).wp E.P _ a w
      rw [hc]
      cases draw with
      | false => exact wp_region_list (chain_wp (ops := ops) E.ok hL0 _ _ _ _ g3 a w hs fun a' w' hs' => h2 hk w0 F0 L0 hL0 a' w' hs')
      | true =>
       have hB := hdr rfl
       rw [g2] at hB
       simp only [List.append_nil,List.reverse_reverse] at hB
       exact draw_wp (ops := ops) E.mixed E.ok hL0 hB g3 hs fun a' w' hs' => h2 hk w0 F0 L0 hL0 a' w' hs'
     split at h
     ·obtain ⟨h1,h2⟩ := runK_ok n h hcs
      exact main h1 h2 (fun h => by cases h)
     ·split at h
      ·rename_i hB
       obtain ⟨h1,h2⟩ := runK_ok n h hcs
       exact main h1 h2 (fun _ => hB)
      ·cases h
   ·rename_i c x y hc
    split at h
    ·rename_i b t chs2 hov
     obtain ⟨h1,h2⟩ := runK_ok n h hcs
     simp only [AllP] at h1
     refine ⟨h1.2,fun hk => Tri.norm fuelK ?_⟩
     rw [hK]
     intro w0 F0 L0 hL0 a w hs
     have h3 := h2 hk w0 F0 L0 hL0 a w hs
     show (kcode E.body p i).wp E.P _ a w
     have hcb : a.eval c = .bool t := by
      obtain ⟨L,fp,hs⟩ := hs
      have := opv_rel_none hs c
      rw [hov] at this
      simp only [RelV] at this
      rw [this,h1.1]
     rw [hc]
     cases t with
     | true =>
      have e1 : kcode E.body (p ++ [(i,0)]) 0 = x := by rw [kcode_sub,hc]; rfl
      refine wp_cond_true hcb ?_
      have h3' : (kcode E.body (p ++ [(i,0)]) 0).wp E.P (kpost E.P E.body K2 (fun e a w => ∃ σ',Q e σ' ∧ St w0 F0 L0 E.nt σ' a w)) a w := h3
      rwa [e1] at h3'
     | false =>
      have e1 : kcode E.body (p ++ [(i,1)]) 0 = y := by rw [kcode_sub,hc]; rfl
      refine wp_cond_false hcb ?_
      have h3' : (kcode E.body (p ++ [(i,1)]) 0).wp E.P (kpost E.P E.body K2 (fun e a w => ∃ σ',Q e σ' ∧ St w0 F0 L0 E.nt σ' a w)) a w := h3
      rwa [e1] at h3'
    ·cases h
   ·cases h
  ·cases h
theorem Tri.run (n : Nat) (chs : List Ch) (gs : List Gh) {cs : List Prop} {σ1 : ASt} (h : runK E n σ K chs [] = .mk cs σ1 K') (hcs : AllP cs) (hg : ghosts σ1 gs = some σ') (k : Tri E K' σ' Q) : Tri E K σ Q :=
 (runK_ok (Q := Q) n h hcs).2 fun w0 F0 L0 hL0 a w hs => k w0 F0 L0 hL0 a w (ghosts_ok hL0.ge gs hs hg)
theorem Tri.gh (gs : List Gh) (hg : ghosts σ gs = some σ') (k : Tri E K σ' Q) : Tri E K σ Q := fun w0 F0 L0 hL0 a w hs => k w0 F0 L0 hL0 a w (ghosts_ok hL0.ge gs hs hg)
def anyAt (body : Code) (σ : ASt) : List KI → Option (Pay × List KI × List KI)
 | .code p i :: K => match kcode body p i with
  | .cond c _ _ => match opv σ none c with
   | .anyb q => some (q,.code (p ++ [(i,0)]) 0 :: K,.code (p ++ [(i,1)]) 0 :: K)
   | _ => none
  | _ => none
 | _ => none
theorem Tri.any {p : Pay} {Kt Kf : List KI} (hK : anyAt E.body σ K = some (p,Kt,Kf)) (ht : p.len = 0 → Tri E Kt σ Q) (hf : Tri E Kf σ Q) : Tri E K σ Q := by
 intro w0 F0 L0 hL0 a w hs
 unfold anyAt at hK
 split at hK
 ·rename_i p0 i K2
  split at hK
  ·rename_i c x y hc
   split at hK
   ·rename_i q hov
    cases hK
    show (kcode E.body p0 i).wp E.P _ a w
    obtain ⟨b,hcb,hb⟩ : ∃ b,a.eval c = .bool b ∧ (b = true → p.len = 0) := by
     obtain ⟨L,fp,hs⟩ := hs
     have := opv_rel_none hs c
     rw [hov] at this
     simpa only [RelV] using this
    rw [hc]
    cases b with
    | true =>
     have h3 := ht (hb rfl) w0 F0 L0 hL0 a w hs
     have e1 : kcode E.body (p0 ++ [(i,0)]) 0 = x := by rw [kcode_sub,hc]; rfl
     refine wp_cond_true hcb ?_
     have h3' : (kcode E.body (p0 ++ [(i,0)]) 0).wp E.P (kpost E.P E.body K2 (fun e a w => ∃ σ',Q e σ' ∧ St w0 F0 L0 E.nt σ' a w)) a w := h3
     rwa [e1] at h3'
    | false =>
     have h3 := hf w0 F0 L0 hL0 a w hs
     have e1 : kcode E.body (p0 ++ [(i,1)]) 0 = y := by rw [kcode_sub,hc]; rfl
     refine wp_cond_false hcb ?_
     have h3' : (kcode E.body (p0 ++ [(i,1)]) 0).wp E.P (kpost E.P E.body K2 (fun e a w => ∃ σ',Q e σ' ∧ St w0 F0 L0 E.nt σ' a w)) a w := h3
     rwa [e1] at h3'
   ·cases hK
  ·cases hK
 ·cases hK
theorem Tri.nil (h : Q .normal σ) : Tri E [] σ Q := fun _ _ _ _ _ _ hs => ⟨σ,h,hs⟩
theorem Tri.mono {Q' : Exit → ASt → Prop} (h : Tri E K σ Q) (hq : ∀ e σ,Q e σ → Q' e σ) : Tri E K σ Q' := fun w0 F0 L0 hL0 a w hs =>
 kpost_mono (fun _ _ _ ⟨σ',h1,h2⟩ => ⟨σ',hq _ _ h1,h2⟩) (h w0 F0 L0 hL0 a w hs)
def isRet : Code → Bool
 | .ret => true
 | _ => false
def atRet (body : Code) : List KI → Bool
 | .code p i :: _ => isRet (kcode body p i)
 | _ => false
theorem Tri.ret (h : atRet E.body K = true) (hq : Q .ret σ) : Tri E K σ Q := by
 intro w0 F0 L0 hL0 a w hs
 unfold atRet at h
 split at h
 ·rename_i p i K2
  show (kcode E.body p i).wp E.P _ a w
  unfold isRet at h
  split at h
  ·rename_i hc
   rw [hc]
   exact wp_ret (kpost_ret ⟨σ,hq,hs⟩)
  ·cases h
 ·cases h
def isExit (id : Nat) : Code → Bool
 | .exit i => Nat.beq i id
 | _ => false
def atExit (body : Code) (id : Nat) : List KI → Bool
 | .code p i :: K => isExit id (kcode body p i) && (match popX id K with
  | none => true
  | some _ => false)
 | _ => false
theorem kpost_exit {P : Program} {body : Code} {Q : Exit → Act → World → Prop} {a : Act} {w : World} {id : Nat} : ∀ {K : List KI},popX id K = none → Q (.exit id) a w → kpost P body K Q (.exit id) a w
 | [],_,h => h
 | .code p i :: K,hp,h => kpost_exit (K := K) hp h
 | .blk id' :: K,hp,h => by
  simp only [popX] at hp
  split at hp
  ·cases hp
  ·rename_i hne
   simp only [kpost,Exit.inBlock,if_neg hne]
   exact kpost_exit (K := K) hp h
theorem Tri.out (id : Nat) (h : atExit E.body id K = true) (hq : Q (.exit id) σ) : Tri E K σ Q := by
 intro w0 F0 L0 hL0 a w hs
 unfold atExit at h
 split at h
 ·rename_i p i K2
  show (kcode E.body p i).wp E.P _ a w
  simp only [Bool.and_eq_true] at h
  obtain ⟨h1,h2⟩ := h
  unfold isExit at h1
  split at h1
  ·rename_i j hc
   have := Nat.eq_of_beq_eq_true h1
   subst this
   rw [hc]
   refine wp_exit (kpost_exit ?_ ⟨σ,hq,hs⟩)
   cases hp : popX j K2 with
   | none => rfl
   | some x => rw [hp] at h2; cases h2
  ·cases h1
 ·cases h
def iterN {S A : Type} (step : S → Option (S ⊕ A)) : Nat → S → Option A
 | 0,_ => none
 | n + 1,s => match step s with
  | some (.inl s') => iterN step n s'
  | some (.inr a) => some a
  | none => none
theorem iterN_mono {S A : Type} {step : S → Option (S ⊕ A)} : ∀ {n : Nat} {s : S} {a : A},iterN step n s = some a → ∀ m,n ≤ m → iterN step m s = some a
 | 0,s,a,h,_,_ => by simp [iterN] at h
 | n + 1,s,a,h,0,hm => by omega
 | n + 1,s,a,h,m + 1,hm => by
  simp only [iterN] at h ⊢
  split at h
  ·exact iterN_mono h m (by omega)
  ·exact h
  ·cases h
noncomputable def iter {S A : Type} (step : S → Option (S ⊕ A)) (s : S) : Option A := if h : ∃ n a,iterN step n s = some a then iterN step (Classical.choose h) s else none
theorem iter_some {S A : Type} {step : S → Option (S ⊕ A)} {s : S} {a : A} : iter step s = some a ↔ ∃ n,iterN step n s = some a := by
 unfold iter
 constructor
 ·intro h
  split at h
  ·exact ⟨_,h⟩
  ·cases h
 ·rintro ⟨n,h⟩
  rw [dif_pos ⟨n,a,h⟩]
  obtain ⟨b,hb⟩ := Classical.choose_spec (⟨n,a,h⟩ : ∃ n a,iterN step n s = some a)
  rcases Nat.le_total n (Classical.choose (⟨n,a,h⟩ : ∃ n a,iterN step n s = some a)) with hle | hle
  ·exact iterN_mono h _ hle
  ·have := iterN_mono hb _ hle
   rw [h] at this
   cases this
   exact hb
theorem iter_next {S A : Type} {step : S → Option (S ⊕ A)} {s s' : S} (h : step s = some (.inl s')) : iter step s = iter step s' := by
 apply Option.ext
 intro a
 rw [iter_some,iter_some]
 constructor
 ·rintro ⟨n,hn⟩
  cases n with
  | zero => simp [iterN] at hn
  | succ n => simp only [iterN,h] at hn; exact ⟨n,hn⟩
 ·rintro ⟨n,hn⟩
  exact ⟨n + 1,by simp only [iterN,h]; exact hn⟩
theorem iter_done {S A : Type} {step : S → Option (S ⊕ A)} {s : S} {a : A} (h : step s = some (.inr a)) : iter step s = some a := iter_some.2 ⟨1,by simp [iterN,h]⟩
theorem least {p : Nat → Prop} (h : ∃ n,p n) : ∃ n,p n ∧ ∀ m,p m → n ≤ m := by
 obtain ⟨n,hn⟩ := h
 induction n using Nat.strongRecOn with
 | _ n ih =>
  by_cases h : ∃ m,m < n ∧ p m
  ·obtain ⟨m,h1,h2⟩ := h
   exact ih m h1 h2
  ·exact ⟨n,hn,fun m hm => by
    rcases Nat.lt_or_ge m n with h' | h'
    ·exact absurd ⟨m,h',hm⟩ h
    ·exact h'⟩
def loopAt (body : Code) : List KI → Option (List KI × List KI)
 | .code p i :: K => match kcode body p i with
  | .loop _ => some ([.code (p ++ [(i,0)]) 0],K)
  | _ => none
 | _ => none
theorem Tri.loop {S A : Type} {step : S → Option (S ⊕ A)} (st : S → ASt) (QA : A → Exit → ASt → Prop) {s0 : S} {r : A} {K1 K2 : List KI} (hr : iter step s0 = some r) (hK : loopAt E.body K = some (K1,K2)) (hσ : σ = st s0)
  (hbody : ∀ s x,step s = some x → Tri E K1 (st s) (fun e σ' => match x with | .inl s' => e = .normal ∧ σ' = st s' | .inr a => e ≠ .normal ∧ QA a e σ'))
  (hrest : ∀ e σ',e ≠ .normal → QA r e σ' → TriX E e K2 σ' Q) : Tri E K σ Q := by
 subst hσ
 intro w0 F0 L0 hL0 a w hs
 unfold loopAt at hK
 split at hK
 ·rename_i p i K0
  split at hK
  ·rename_i c hc
   cases hK
   show (kcode E.body p i).wp E.P _ a w
   rw [hc]
   let I : Act → World → Prop := fun a w => ∃ n s,iterN step n s = some r ∧ St w0 F0 L0 E.nt (st s) a w
   let μ : Act → World → Nat := fun a w => if h : I a w then Classical.choose (least h) else 0
   have hμ : ∀ a w (h : I a w),(∃ s,iterN step (μ a w) s = some r ∧ St w0 F0 L0 E.nt (st s) a w) ∧ ∀ m s,iterN step m s = some r → St w0 F0 L0 E.nt (st s) a w → μ a w ≤ m := by
    intro a w h
    have h1 := Classical.choose_spec (least h)
    have h2 : μ a w = Classical.choose (least h) := dif_pos h
    rw [h2]
    exact ⟨h1.1,fun m s hm hs => h1.2 m ⟨s,hm,hs⟩⟩
   obtain ⟨n0,hn0⟩ := iter_some.1 hr
   refine wp_loop I μ ⟨n0,s0,hn0,hs⟩ fun a w hI => ?_
   obtain ⟨⟨s,hs1,hs2⟩,_⟩ := hμ a w hI
   cases hm : μ a w with
   | zero => rw [hm] at hs1; simp [iterN] at hs1
   | succ m =>
    rw [hm] at hs1
    simp only [iterN] at hs1
    have e1 : kcode E.body (p ++ [(i,0)]) 0 = c := by rw [kcode_sub,hc]; rfl
    cases hstep : step s with
    | none => rw [hstep] at hs1; cases hs1
    | some x =>
     rw [hstep] at hs1
     have hb := hbody s x hstep w0 F0 L0 hL0 a w hs2
     have hb' : (kcode E.body (p ++ [(i,0)]) 0).wp E.P (fun e a w => ∃ σ',(match x with | .inl s' => e = .normal ∧ σ' = st s' | .inr a => e ≠ .normal ∧ QA a e σ') ∧ St w0 F0 L0 E.nt σ' a w) a w := hb
     rw [e1] at hb'
     refine wp_mono hb' fun e a' w' he => ?_
     cases x with
     | inl s' =>
      simp only at hs1
      have : ∃ σ',(e = .normal ∧ σ' = st s') ∧ St w0 F0 L0 E.nt σ' a' w' := by
       cases e <;> exact he
      obtain ⟨σ',⟨rfl,rfl⟩,hs3⟩ := this
      show I a' w' ∧ μ a' w' < m + 1
      have hI' : I a' w' := ⟨m,s',hs1,hs3⟩
      exact ⟨hI',by have := (hμ a' w' hI').2 m s' hs1 hs3; omega⟩
     | inr b =>
      simp only [Option.some.injEq] at hs1
      subst hs1
      have : ∃ σ',(e ≠ .normal ∧ QA b e σ') ∧ St w0 F0 L0 E.nt σ' a' w' := by
       cases e <;> exact he
      obtain ⟨σ',⟨hne,hq⟩,hs3⟩ := this
      have := hrest e σ' hne hq w0 F0 L0 hL0 a' w' hs3
      cases e <;> first | exact absurd rfl hne | exact this
  ·cases hK
 ·cases hK
theorem TriX.exit {id : Nat} (hp : popX id K = some K') (h : Tri E K' σ Q) : TriX E (.exit id) K σ Q := fun w0 F0 L0 hL0 a w hs => kpost_pop hp (h w0 F0 L0 hL0 a w hs)
theorem TriX.ret (h : Q .ret σ) : TriX E .ret K σ Q := fun _ _ _ _ _ _ hs => kpost_ret ⟨σ,h,hs⟩
theorem TriX.out {id : Nat} (hp : popX id K = none) (h : Q (.exit id) σ) : TriX E (.exit id) K σ Q := fun _ _ _ _ _ _ hs => kpost_exit hp ⟨σ,h,hs⟩
end
end Go.AM
namespace Go.AM
open Classical
def reSub (ob v0 rv e o1 v1 : Nat) : AV → Option (List Prop × AV)
 | .sl o v => match Nat.beq o o1,Nat.beq v v1 with
  | true,true => some ([],.sub ob v0 (rv + 1) e)
  | _,_ => none
 | .sub o v r k => match Nat.beq o ob,Nat.beq v v0,Nat.beq r rv with
  | true,true,true => some ([e ≠ k],.sub ob v0 (rv + 1) k)
  | _,_,_ => none
 | _ => none
def reSubs (ob v0 rv e o1 v1 : Nat) (sl : List (Nat × AV)) : List Nat → Option (List Prop × List (Nat × AV))
 | [] => some ([],sl)
 | i :: r => match reSub ob v0 rv e o1 v1 (getS sl i),reSubs ob v0 rv e o1 v1 sl r with
  | some (ps,v),some (qs,l) => some (addC ps qs,(i,v) :: l)
  | _,_ => none
def rowV (T : TEnv) (σ : ASt) (o : Oper) (ns : List Nat) : Option (List Prop × ASt) := match o.op,o.guard,o.dst with
 | .store _ x v,none,none => match opv σ none x,opv σ none v with
  | .eptr ob ver e _,.sl o1 v1 => match getO σ.ob ob,evalOp T σ o with
   | some (.arr _ _ rv p),.ok [] .dead obs => match p.isDeep,reSubs ob ver rv e o1 v1 σ.sl ns with
    | true,some (ps,sl) => some (ps,⟨sl,updO σ.ob obs⟩)
    | _,_ => none
   | _,_ => none
  | _,_ => none
 | _,_,_ => none
theorem reSubs_rel {R R' : View} {L L' : Locs} {ob v0 rv e o1 v1 : Nat} {sl : List (Nat × AV)} {t : Nat → Value} (h0 : ∀ i,RelV R L (getS sl i) (t i)) (h1 : ∀ i,RelV R' L' (getS sl i) (t i))
  (ha : ∀ u,RelV R L (.sl o1 v1) u → RelV R' L' (.sub ob v0 (rv + 1) e) u) (hb : ∀ k u,e ≠ k → RelV R L (.sub ob v0 rv k) u → RelV R' L' (.sub ob v0 (rv + 1) k) u) :
  ∀ (ns : List Nat) (ps : List Prop) (sl' : List (Nat × AV)),reSubs ob v0 rv e o1 v1 sl ns = some (ps,sl') → AllP ps → ∀ i,RelV R' L' (getS sl' i) (t i)
 | [],ps,sl',h,_,i => by
  simp only [reSubs,Option.some.injEq,Prod.mk.injEq] at h
  rw [← h.2]
  exact h1 i
 | n :: r,ps,sl',h,hp,i => by
  simp only [reSubs] at h
  split at h
  ·rename_i ps1 v qs l hn hr
   simp only [Option.some.injEq,Prod.mk.injEq] at h
   obtain ⟨rfl,rfl⟩ := h
   obtain ⟨hp1,hp2⟩ := (AllP_addC _ _).1 hp
   simp only [getS]
   split
   ·rename_i e1
    subst e1
    have hs := h0 n
    unfold reSub at hn
    split at hn
    ·rename_i o v' hgs
     split at hn
     ·rename_i b1 b2
      cases hn
      have b1 := Nat.eq_of_beq_eq_true b1
      have b2 := Nat.eq_of_beq_eq_true b2
      subst b1 b2
      rw [hgs] at hs
      exact ha _ hs
     ·cases hn
    ·rename_i o v' r' k hgs
     split at hn
     ·rename_i b1 b2 b3
      cases hn
      have b1 := Nat.eq_of_beq_eq_true b1
      have b2 := Nat.eq_of_beq_eq_true b2
      have b3 := Nat.eq_of_beq_eq_true b3
      subst b1 b2 b3
      rw [hgs] at hs
      exact hb _ _ hp1.1 hs
     ·cases hn
    ·cases hn
   ·exact reSubs_rel h0 h1 ha hb r _ _ hr hp2 i
  ·cases h
section
variable {P : Program} {T : TEnv} {w0 : World} {F0 : Nat → Prop} {L0 : Locs} {nt : Nat} {σ σ' : ASt} {a : Act} {w : World} {L : Locs} {fp : Nat → List Nat}
variable {ops : Array Oper}
theorem rowV_ok {o : Oper} {ns : List Nat} {ps : List Prop} (hT : TOk P T) (h : StW w0 F0 L0 nt σ a w L fp) (he : rowV T σ o ns = some (ps,σ')) (hps : AllP ps) :
  o.guard = none ∧ Ran P o a w (St w0 F0 L0 nt σ') := by
 unfold rowV at he
 split at he
 case h_2 => cases he
 rename_i t x v ho hgu hdst
 refine ⟨hgu,?_⟩
 split at he
 case h_2 => cases he
 rename_i ob ver e fo o1 v1 hov hov1
 split at he
 case h_2 => cases he
 rename_i el v0 rv p obs hg hev
 split at he
 case h_2 => cases he
 rename_i sl' hpd hre
 simp only [Option.some.injEq,Prod.mk.injEq] at he
 obtain ⟨rfl,rfl⟩ := he
 have hx := opv_rel_none h x
 have hv := opv_rel_none h v
 simp only [evalOp,ho,hov,hov1,hg] at hev
 rw [hov] at hx
 rw [hov1] at hv
 have hvs : cellsOf (.sl o1 v1) = some [.sl o1 v1] := rfl
 rw [hvs] at hev
 simp only at hev
 split at hev
 ·cases hev
 rename_i hsz
 have hsz := szIs_info hT hsz
 obtain ⟨c1,c2⟩ := cellsOf_rel hv hvs
 have hlen : (a.eval v).cells.size = [AV.sl o1 v1].length := by have := c1.length; simpa using this.symm
 simp only [RelV] at hx
 split at hev
 case isFalse => cases hev
 rename_i hver
 subst hver
 obtain ⟨hdr,inn,hL,hK,hown⟩ := arr_get h.owns hg hx
 simp only [hpd] at hev
 split at hev
 case h_3 => cases hev
 case h_2 heq => cases heq
 rename_i o1' v1' heq
 injection heq with heq1 heq2
 subst heq1 heq2
 split at hev
 case h_2 => cases hev
 rename_i q hq
 split at hev
 case h_2 => cases hev
 rename_i p' hrow1
 split at hev
 ·cases hev
 rename_i hne
 cases hev
 have hv0 := hv
 simp only [RelV] at hv
 obtain ⟨e1,rv1,hg1⟩ := payOf_sl hq
 obtain ⟨hdr1,inn1,hL1,hx1,hown1⟩ := arr_get h.owns hg1 hv
 obtain ⟨s1,s2,s3,s4,s5,s6,s7,ps',s8,s9⟩ := setRow_some hrow1
 obtain ⟨r1,r2⟩ := row_own s1 hown1
 have hone1 := ownsRow_one r1
 have hcells : (a.eval v).cells.toList = [hdr1] := by rw [hx1,size_one hone1]
 unfold OwnAt at hown
 rw [s8] at hown
 obtain ⟨hrow,hil,fps,hfl,hrows,hfp⟩ := hown
 have hp1 := deep_size hpd
 have hpl := (subs_get s8).1
 have hil' : inn.length = p.len := hil.trans hpl
 obtain ⟨b,o0,n,c,hhdr,hen,hax⟩ := hK
 obtain ⟨A,c',hs1,_,hs3⟩ := own_slice hrow
 rw [hhdr] at hs1
 injection hs1 with hA hn hc
 subst hA hn hc
 obtain ⟨b',hb'⟩ := hs3 (by omega)
 injection hb' with hb'
 injection hb' with hb1 hb2
 subst hb1 hb2
 have hb : hdr.ownBlock = some b := by rw [hhdr]; rfl
 obtain ⟨cur,k1,k2,k3⟩ := ownsRow_set hrow hb (us := [hdr1]) (off := e) (by simp; omega)
 have hnd := h.owns.nodup ob (by rw [hg]; rfl)
 have hnd1 := h.owns.nodup o1 (by rw [hg1]; rfl)
 have hdj : ∀ k,k ∈ fp ob → k ∈ fp o1 → False := fun k hk hk' => h.owns.disj ob o1 k (by rw [hg]; rfl) (by rw [hg1]; rfl) (fun e => hne e.symm) hk hk'
 rw [hfp] at hnd hdj
 have hbm : b ∈ hdr.ownBlock.toList := by rw [hb]; simp
 have helt : e < fps.length := by omega
 obtain ⟨n1,n2,n3⟩ := List.nodup_append.1 hnd
 obtain ⟨n4,n5⟩ := List.pairwise_flatten.1 n2
 have hmem : ∀ k,k ∈ (fps.set e (fp o1)).flatten → k ∈ fps.flatten ∨ k ∈ fp o1 := by
  intro k hk
  obtain ⟨g,hg',hk'⟩ := List.mem_flatten.1 hk
  rcases List.mem_or_eq_of_mem_set hg' with h1 | h1
  ·exact .inl (List.mem_flatten.2 ⟨g,h1,hk'⟩)
  ·subst h1; exact .inr hk'
 have hst := run_storeAt_row (P := P) (u := a.eval v) hsz hlen k1 (off := e) (by rw [← Array.length_toList,hcells]; simpa using k2) c2
 rw [hcells] at hst
 have hko : ∀ k,k ≠ b → (w.setRow b (setVals cur.toList e [hdr1]).toArray).heap[k]? = w.heap[k]? := fun k hk => setRow_other w b k _ hk
 have hd : okDst nt (none : Option Nat) = true := rfl
 have key : StW w0 F0 L0 nt ⟨put σ.sl none .dead,updO σ.ob [(ob,some (.arr el v0 (rv + 1) p')),(o1,none)]⟩ (a.put none undef) (w.setRow b (setVals cur.toList e [hdr1]).toArray)
   (updN L ob (some (.arr v0 (rv + 1) p.size p.sizei hdr (inn.set e hdr1)))) (updN fp ob (hdr.ownBlock.toList ++ (fps.set e (fp o1)).flatten)) := by
  refine h.upd (l := .arr v0 (rv + 1) p.size p.sizei hdr (inn.set e hdr1)) (used := some o1) hg hL ⟨Nat.le_refl _,fun _ => ⟨rfl,rfl,rfl,by omega,fun e => by omega⟩⟩ (fun e => hne (Option.some.inj e)) ?_ (fun b' hb' => ⟨?_,?_⟩) ?_ (fun ob' fp' hR hLle => ?_) hd (fun ob' fp' hR => by simp [RelV])
  ·have := kept_setRow w b (setVals cur.toList e [hdr1]).toArray
   refine ⟨this.os,this.tape,this.output,this.size,fun k hk hn => this.block k hk (fun e => hn ?_),this.drawn⟩
   rw [hfp,e]
   exact List.mem_append_left _ hbm
  ·rw [setRow_size]
   rcases List.mem_append.1 hb' with h1 | h1
   ·exact h.owns.lt ob b' (by rw [hg]; rfl) (by rw [hfp]; exact List.mem_append_left _ h1)
   ·rcases hmem _ h1 with h2 | h2
    ·exact h.owns.lt ob b' (by rw [hg]; rfl) (by rw [hfp]; exact List.mem_append_right _ h2)
    ·exact h.owns.lt o1 b' (by rw [hg1]; rfl) h2
  ·rcases List.mem_append.1 hb' with h1 | h1
   ·exact .inr (.inl (by rw [hfp]; exact List.mem_append_left _ h1))
   ·rcases hmem _ h1 with h2 | h2
    ·exact .inr (.inl (by rw [hfp]; exact List.mem_append_right _ h2))
    ·exact .inr (.inr ⟨o1,rfl,by rw [hg1]; rfl,h2⟩)
  ·refine List.nodup_append.2 ⟨n1,List.pairwise_flatten.2 ⟨fun l hl => ?_,?_⟩,fun k hk k' hk' => ?_⟩
   ·rcases List.mem_or_eq_of_mem_set hl with h1 | h1
    ·exact n4 l h1
    ·subst h1; exact hnd1
   ·rw [List.pairwise_iff_getElem] at n5 ⊢
    intro i j hi hj hij x hxm y hym
    simp only [List.length_set] at hi hj
    have ini : ∀ k (hk : k < fps.length) z,z ∈ fps[k] → z ∈ hdr.ownBlock.toList ++ fps.flatten := fun k hk z hz => List.mem_append_right _ (List.mem_flatten.2 ⟨_,List.getElem_mem hk,hz⟩)
    rw [List.getElem_set] at hxm hym
    split at hxm <;> split at hym
    ·omega
    ·exact fun e => hdj y (ini j hj y hym) (e ▸ hxm)
    ·exact fun e => hdj x (ini i hi x hxm) (e ▸ hym)
    ·exact n5 i j hi hj hij x hxm y hym
   ·rcases hmem _ hk' with h2 | h2
    ·exact n3 k hk k' h2
    ·exact fun e => hdj k (List.mem_append_left _ hk) (e ▸ h2)
  ·refine ⟨hdr,inn.set e hdr1,by rw [s5,s6],?_⟩
   unfold OwnAt
   rw [s9]
   refine ⟨by rw [s4]; exact k3,by simp [hil],fps.set e (fp o1),by simp [hfl],fun k q' u g hq' hu' hg' => ?_,rfl⟩
   by_cases hke : e = k
   ·subst hke
    rw [List.getElem?_set_self (by omega)] at hq' hu' hg'
    cases hq'
    cases hu'
    cases hg'
    refine ⟨⟨e1,ownsRow_heap r1 fun k hk => hko k fun e => ?_⟩,r2⟩
    exact hdj k (List.mem_append_left _ (e ▸ hbm)) (by rw [r2,hk]; simp)
   ·rw [List.getElem?_set_ne hke] at hq' hu' hg'
    obtain ⟨⟨e',h6⟩,h7⟩ := hrows k q' u g hq' hu' hg'
    refine ⟨⟨e',ownsRow_heap h6 fun k' hk => hko k' fun e => ?_⟩,h7⟩
    exact rows_head (k := k) (g := g) (b := b) hnd hg' (by rw [h7,hk,e]; simp) hbm
 refine ran_store ho (by rw [hax]; simp only [Nat.zero_add,Nat.add_zero,hp1,Nat.mul_one]; exact hst) ⟨_,_,key.owns,key.kept,key.fresh,?_,by rw [hdst]; exact key.defers,by rw [hdst]; exact key.size,key.le⟩
 rw [hdst]
 refine reSubs_rel (L := L) (R := view w (Owned σ.ob fp)) (t := fun i => a.tmps.getD i undef) h.slots key.slots (fun u hu => ?_) (fun k u hek hu => ?_) ns _ _ hre hps
 ·simp only [RelV] at hu ⊢
  obtain ⟨hdr2,inn2,hL2,hu2,_⟩ := arr_get h.owns hg1 hu
  rw [hL1] at hL2
  injection hL2 with hL2
  injection hL2 with _ _ _ _ hL2 _
  subst hL2
  subst hu2
  exact ⟨hone1,_,_,_,_,_,_,updN_same _ _ _,Nat.le_refl _,fun _ => ⟨Nat.le_refl _,fun _ => List.getElem?_set_self (by omega)⟩⟩
 ·simp only [RelV] at hu ⊢
  obtain ⟨hdr2,inn2,hL2,hu2,_⟩ := arr_get h.owns hg hu
  rw [hL] at hL2
  injection hL2 with hL2
  injection hL2 with _ _ _ _ hL2 hL3
  subst hL2 hL3
  refine ⟨hu.1,_,_,_,_,_,_,updN_same _ _ _,Nat.le_refl _,fun _ => ⟨Nat.le_refl _,fun _ => ?_⟩⟩
  rw [List.getElem?_set_ne hek]
  exact hu2.2 rfl
theorem chain_wp_app (hT : TOk P T) (hL0 : L0Ok P w0 F0 L0) {Q : Exit → Act → World → Prop} (l2 : List Oper) : ∀ (l : List Oper) (es : List Eff) (σ σ' : ASt),Chain P T nt ops.toList l es σ σ' →
  ∀ a w,St w0 F0 L0 nt σ a w → (∀ a w,St w0 F0 L0 nt σ' a w → wpList P ops Q l2 a w) → wpList P ops Q (l ++ l2) a w
 | [],[],σ,σ',hc,a,w,h,hQ => by
  simp only [Chain] at hc
  subst hc
  exact hQ a w h
 | [],_ :: _,_,_,hc,_,_,_,_ => hc.elim
 | _ :: _,[],_,_,hc,_,_,_,_ => hc.elim
 | o :: r,e :: es,σ,σ',hc,a,w,h,hQ => by
  obtain ⟨h1,h2⟩ := hc
  rw [List.cons_append]
  unfold wpList
  rcases does_ok (ops := ops) hT hL0 h1 h with ⟨hw,h5⟩ | ⟨hw,h5⟩
  ·rw [if_neg (by simp [hw])]
   exact chain_wp_app hT hL0 l2 r es _ _ h2 _ _ h5 hQ
  ·rw [if_pos hw]
   exact .inl (h5 _ _ fun a w ha => chain_wp_app hT hL0 l2 r es _ _ h2 a w ha hQ)
end
theorem dropLast_last {α : Type} : ∀ (l : List α) (o : α),l.getLast? = some o → l.dropLast ++ [o] = l
 | [],_,h => by simp at h
 | [x],o,h => by simp at h; simp [h]
 | x :: y :: r,o,h => by
  rw [List.dropLast_cons_cons,List.cons_append,dropLast_last (y :: r) o (by simpa using h)]
def rowK (E : Env) (σ : ASt) (K : List KI) (chs : List Ch) (ns : List Nat) : KOut := match norm E.body σ fuelK K with
 | .code p i :: K => match kcode E.body p i with
  | .region _ ops false => match ops.toList.getLast?,evR E.P E.T E.nt ops.toList ops.toList.dropLast 0 σ chs [] [] with
   | some o,.mk cs σ1 _ _ => match rowV E.T σ1 o ns with
    | some (ps,σ2) => .mk (addC ps cs) σ2 (norm E.body σ2 fuelK K)
    | none => .fail
   | _,_ => .fail
  | _ => .fail
 | _ => .fail
section
variable {E : Env} {σ σ' : ASt} {K K' : List KI} {Q : Exit → ASt → Prop}
theorem Tri.row (chs : List Ch) (ns : List Nat) (gs : List Gh) {cs : List Prop} {σ1 : ASt} (h : rowK E σ K chs ns = .mk cs σ1 K') (hcs : AllP cs) (hg : ghosts σ1 gs = some σ') (k : Tri E K' σ' Q) : Tri E K σ Q := by
 unfold rowK at h
 split at h
 case h_2 => cases h
 rename_i p i K2 hK
 split at h
 case h_2 => cases h
 rename_i id ops hc
 split at h
 case h_2 => cases h
 rename_i o cs2 σ2 tr chs2 hlast hev
 split at h
 case h_2 => cases h
 rename_i ps σ3 hrow
 cases h
 obtain ⟨g1,g2⟩ := (AllP_addC _ _).1 hcs
 obtain ⟨_,es,_,hch⟩ := evR_chain _ _ _ _ _ _ _ _ _ _ _ hev g2
 refine Tri.norm fuelK ?_
 rw [hK]
 intro w0 F0 L0 hL0 a w hs
 show (kcode E.body p i).wp E.P _ a w
 rw [hc]
 refine wp_region_list ?_
 have hl : ops.toList.dropLast ++ [o] = ops.toList := dropLast_last _ _ hlast
 rw [← hl]
 refine chain_wp_app (ops := ops) E.ok hL0 [o] _ _ _ _ hch a w hs fun a' w' hs' => ?_
 obtain ⟨L,fp,hs'⟩ := hs'
 obtain ⟨hgu,hran⟩ := rowV_ok E.ok hs' hrow g1
 unfold wpList
 rw [if_pos (by simp [Region.wanted,hgu])]
 refine .inl (hran.wp fun a w ha => ?_)
 show kpost E.P E.body K2 _ _ a w
 exact Tri.norm fuelK (fun w0 F0 L0 hL0 a w hs => k w0 F0 L0 hL0 a w (ghosts_ok hL0.ge gs hs hg)) w0 F0 L0 hL0 a w ha
end
end Go.AM
namespace Go.AM
def resV (T : TEnv) (σ : ASt) : ResultVar → Option AV
 | .tmp t => some (getS σ.sl t)
 | .cell a t => match getT T t,getS σ.sl a with
  | some s,.ptr o i => match getO σ.ob o with
   | some (.box cs) => match cut s cs i with
    | .ok _ v _ => some v
    | .fail => none
   | _ => none
  | _,_ => none
def resVs (T : TEnv) (σ : ASt) : List ResultVar → Option (List AV)
 | [] => some []
 | x :: r => match resV T σ x,resVs T σ r with
  | some v,some vs => some (v :: vs)
  | _,_ => none
def resAV (T : TEnv) (σ : ASt) (rs : List ResultVar) : Option AV := match resVs T σ rs with
 | some [v] => some v
 | some vs => some (.tuple vs)
 | none => none
def resSem (tmps : Array Value) : ResultVar → Sem Value
 | .tmp t => pure (tmps.getD t undef)
 | .cell a t => do loadVar t (← asAddr (tmps.getD a undef))
theorem results_eq (fn : Func) (tmps : Array Value) : results fn tmps = (do
  let vs ← fn.results.mapM (resSem tmps)
  pure (if h : vs.size = 1 then vs[0] else .tuple vs)) := by
 unfold results
 congr 1
def argS : Nat → List AV → List (Nat × AV)
 | _,[] => []
 | i,v :: r => (i,v) :: argS (i + 1) r
def ioOk (l : List Nat) : List (Nat × AObj) → Bool
 | [] => true
 | (n,.box cs) :: r => Nat.ble 2000 n && (AV.within.go l cs && ioOk l r)
 | (n,.arr ..) :: r => Nat.ble 2000 n && ioOk l r
 | (n,.hol ..) :: r => Nat.ble 2000 n && ioOk l r
def startOk (nt : Nat) (args : List AV) (io : List (Nat × AObj)) : Bool := Nat.ble args.length nt && (AV.within.go (namesO io) args && ioOk (namesO io) io)
theorem getS_argS : ∀ (l : List AV) (k i : Nat),getS (argS k l) (k + i) = (l[i]?).getD .dead
 | [],k,i => by simp [argS,getS]
 | v :: r,k,0 => by simp [argS,getS]
 | v :: r,k,i + 1 => by
  simp only [argS,getS]
  rw [if_neg (by omega),show k + (i + 1) = k + 1 + i by omega,getS_argS r (k + 1) i]
  simp
theorem ioOk_get {l : List Nat} : ∀ {ob : List (Nat × AObj)},ioOk l ob = true → ∀ n x,getO ob n = some x → 2000 ≤ n ∧ ∀ cs,x = .box cs → AV.within.go l cs = true
 | [],_,n,x,h => by simp [getO] at h
 | (m,.box cs) :: r,h,n,x,hx => by
  simp only [ioOk,Bool.and_eq_true] at h
  simp only [getO] at hx
  split at hx
  ·rename_i e
   subst e
   cases hx
   exact ⟨Nat.le_of_ble_eq_true h.1,fun cs' e => by cases e; exact h.2.1⟩
  ·exact ioOk_get h.2.2 n x hx
 | (m,.arr e v rv p) :: r,h,n,x,hx => by
  simp only [ioOk,Bool.and_eq_true] at h
  simp only [getO] at hx
  split at hx
  ·rename_i e
   subst e
   cases hx
   exact ⟨Nat.le_of_ble_eq_true h.1,fun cs' e => by cases e⟩
  ·exact ioOk_get h.2 n x hx
 | (m,.hol e v rv p kk) :: r,h,n,x,hx => by
  simp only [ioOk,Bool.and_eq_true] at h
  simp only [getO] at hx
  split at hx
  ·rename_i e
   subst e
   cases hx
   exact ⟨Nat.le_of_ble_eq_true h.1,fun cs' e => by cases e⟩
  ·exact ioOk_get h.2 n x hx
theorem RelVs.within {R : View} {L L' : Locs} {l : List Nat} {as : List AV} {vs : List Value} (hL : ∀ o,o ∈ l → L' o = L o) (hw : AV.within.go l as = true) (h : RelVs R L as vs) : RelVs R L' as vs := by
 have key : ∀ {d : Nat} {as : List AV},AV.within.go l as = true → AV.free.go d as = false → d ∈ l := by
  intro d as
  induction as with
  | nil => intro _ h; simp [AV.free.go] at h
  | cons x r ih =>
   intro h1 h2
   simp only [AV.within.go,AV.free.go,Bool.and_eq_true,Bool.and_eq_false_iff] at h1 h2
   rcases h2 with h2 | h2
   ·exact within_free h1.1 h2
   ·exact ih h1.2 h2
 exact h.mono (ViewLe.refl R) _ _ fun o x ho hx => ⟨x,by rw [hL o (key hw ho)]; exact hx,LocLe.refl _⟩
section
variable {P : Program} {T : TEnv} {w0 : World} {F0 : Nat → Prop} {L0 : Locs} {nt : Nat} {σ : ASt} {a : Act} {w : World} {L : Locs} {fp : Nat → List Nat}
theorem resV_ok (hT : TOk P T) (h : StW w0 F0 L0 nt σ a w L fp) {x : ResultVar} {v : AV} (hv : resV T σ x = some v) :
  ∃ u,(resSem a.tmps x).run P w = .ok u w ∧ RelV (view w (Owned σ.ob fp)) L v u := by
 cases x with
 | tmp t =>
  simp only [resV,Option.some.injEq] at hv
  subst hv
  exact ⟨_,rfl,h.slots t⟩
 | cell b t =>
  simp only [resV] at hv
  split at hv
  ·rename_i s o i hs hb
   split at hv
   ·rename_i cs hg
    split at hv
    ·rename_i ps v' obs hcut
     cases hv
     obtain ⟨rfl,rfl,rfl,hle⟩ := cut_ok hcut
     have hr := h.slots b
     rw [hb] at hr
     simp only [RelV] at hr
     obtain ⟨bk,h1,h2⟩ := hr
     obtain ⟨l,k1,bk',t',us,rfl,_,hh,hrel,hone⟩ := h.owns.obj o _ hg
     rw [h1] at k1
     injection k1 with k1
     injection k1 with k1
     subst k1
     obtain ⟨u,hrun,hu⟩ := run_loadVar_cut (P := P) (w := w) (hT t s hs) bk i ((us.toList.drop i).take s.size) (((cs.drop i).take s.size).map AV.wk) (((hrel.drop i).take s.size).wk)
      (fun x hx => hone x (List.mem_of_mem_drop (List.mem_of_mem_take hx))) (by simp; omega) (fun j x hx => by
       rw [cell_of_row w bk (i + j) us t' (0,0) hh]
       have := drop_take_get hx
       simpa using this)
     refine ⟨u,?_,hu⟩
     simp only [resSem,h2,asAddr,Sem.run_bind,Sem.run_pure,Result.andThen_ok]
     exact hrun
    ·cases hv
   ·cases hv
  ·cases hv
theorem resVs_ok (hT : TOk P T) (h : StW w0 F0 L0 nt σ a w L fp) : ∀ {rs : List ResultVar} {vs : List AV},resVs T σ rs = some vs →
  ∃ us,(rs.mapM (resSem a.tmps)).run P w = .ok us w ∧ RelVs (view w (Owned σ.ob fp)) L vs us
 | [],vs,hv => by
  simp only [resVs,Option.some.injEq] at hv
  subst hv
  exact ⟨[],by simp,by simp [RelVs]⟩
 | x :: r,vs,hv => by
  simp only [resVs] at hv
  split at hv
  ·rename_i v vs' h1 h2
   cases hv
   obtain ⟨u,k1,k2⟩ := resV_ok hT h h1
   obtain ⟨us,k3,k4⟩ := resVs_ok hT h h2
   refine ⟨u :: us,?_,?_⟩
   ·simp only [List.mapM_cons,Sem.run_bind,k1,k3,Result.andThen_ok,Sem.run_pure]
   ·simp only [RelVs]
    exact ⟨k2,k4⟩
  ·cases hv
theorem resAV_ok (hT : TOk P T) (h : StW w0 F0 L0 nt σ a w L fp) {fn : Func} {v : AV} (hv : resAV T σ fn.results.toList = some v) :
  ∃ u,(results fn a.tmps).run P w = .ok u w ∧ RelV (view w (Owned σ.ob fp)) L v u := by
 unfold resAV at hv
 split at hv
 ·rename_i v' hvs
  cases hv
  obtain ⟨us,h1,h2⟩ := resVs_ok hT h hvs
  have hl := h2.length
  match us,hl,h1,h2 with
  | [u],_,h1,h2 =>
   refine ⟨u,?_,by simpa only [RelVs,and_true] using h2⟩
   rw [results_eq,Array.mapM_eq_mapM_toList]
   simp only [Sem.run_bind,Sem.run_map,h1]
   simp
 ·rename_i vs hne hvs
  cases hv
  obtain ⟨us,h1,h2⟩ := resVs_ok hT h hvs
  have hl := h2.length
  have h1' : us.length ≠ 1 := by
   intro e
   match vs,hl,hne with
   | [x],_,hne => exact hne x rfl
   | [],hl,_ => simp at hl; omega
   | _ :: _ :: _,hl,_ => simp at hl; omega
  refine ⟨.tuple us.toArray,?_,us.toArray,rfl,by simpa using h2⟩
  rw [results_eq,Array.mapM_eq_mapM_toList]
  simp only [Sem.run_bind,Sem.run_map,h1]
  simp [h1']
 ·cases hv
end
theorem spec_of {E : Env} {f : FuncId} {fn : Func} {args : List AV} {io io' : List (Nat × AObj)} {ret : AV} (hf : E.P.funcs[f]? = some fn) (hb : fn.body = some E.body) (hn : fn.ntmps = E.nt) (hname : (fn.name == "runtime.NumGoroutine") = false)
  (hok : startOk E.nt args io = true) (h : Tri E [.code [] 0] ⟨argS 0 args,io⟩ (fun e σ' => (e = .ret ∨ e = .normal) ∧ resAV E.T σ' fn.results.toList = some ret ∧ keepO σ'.ob (namesO io') = io')) : Spec E.P f args io ret io' := by
 refine ⟨⟨fn,hf,hname,by rw [hb]; rfl⟩,fun w vs L fp htab howns hargs => ?_⟩
 simp only [startOk,Bool.and_eq_true] at hok
 obtain ⟨hlen,hwi,hio⟩ := hok
 have hlen := Nat.le_of_ble_eq_true hlen
 have hal : args.length = vs.size := by have := hargs.length; simpa using this
 let L0 : Locs := fun o => if (getO io o).isSome = true then L o else none
 have hLe : ∀ o,o ∈ namesO io → L0 o = L o := fun o ho => if_pos (mem_namesO.1 ho)
 have hL0 : ∀ o l,L0 o = some l → 2000 ≤ o := by
  intro o l hl
  have : (getO io o).isSome = true := by
   by_cases hs : (getO io o).isSome = true
   ·exact hs
   ·have : L0 o = none := if_neg hs
    rw [this] at hl
    cases hl
  cases hx : getO io o with
  | none => rw [hx] at this; cases this
  | some x => exact (ioOk_get hio o x hx).1
 have howns0 : Owns w io L0 fp := ⟨fun o x hx => by
   obtain ⟨l,h1,h2⟩ := howns.obj o x hx
   refine ⟨l,by rw [hLe o (mem_namesO.2 (by rw [hx]; rfl))]; exact h1,?_⟩
   cases x with
   | arr e ver rv p => exact h2
   | hol e ver rv p kk => exact h2
   | box cs =>
    obtain ⟨b,t,us,k1,k2,k3,k4,k5⟩ := h2
    exact ⟨b,t,us,k1,k2,k3,k4.within hLe ((ioOk_get hio o _ hx).2 cs rfl),k5⟩,howns.lt,howns.nodup,howns.disj⟩
 have hst : St w (Owned io fp) L0 E.nt ⟨argS 0 args,io⟩ { tmps := vs ++ Array.replicate (fn.ntmps - vs.size) undef,defers := [] } w := by
  refine ⟨L0,fp,howns0,Kept.refl _ _,fun b hb => .inl hb,fun i => ?_,rfl,?_,fun o b _ hl => ⟨b,hl,LocLe.refl _⟩⟩
  ·have hg := getS_argS args 0 i
   rw [Nat.zero_add] at hg
   show RelV _ _ (getS (argS 0 args) i) _
   rw [hg]
   by_cases hi : i < args.length
   ·rw [List.getElem?_eq_getElem hi,Option.getD_some]
    have hr := (hargs.within hLe hwi).get i args[i] (vs.toList[i]'(by simp; omega)) (List.getElem?_eq_getElem hi) (List.getElem?_eq_getElem (by simp; omega))
    have : (vs ++ Array.replicate (fn.ntmps - vs.size) undef).getD i undef = vs.toList[i]'(by simp; omega) := by
     have h1 : i < vs.size := by omega
     simp [Array.getD,Array.getElem_append_left h1]
     intro h2
     omega
    rw [this]
    exact hr
   ·rw [List.getElem?_eq_none (by omega)]
    simp [RelV]
  ·simp only [Array.size_append,Array.size_replicate]
   omega
 have hwp := h w (Owned io fp) L0 ⟨hL0,htab⟩ _ _ hst
 have hwp' : E.body.wp E.P (fun e a w' => ∃ σ',((e = .ret ∨ e = .normal) ∧ resAV E.T σ' fn.results.toList = some ret ∧ keepO σ'.ob (namesO io') = io') ∧ St w (Owned io fp) L0 E.nt σ' a w') { tmps := vs ++ Array.replicate (fn.ntmps - vs.size) undef,defers := [] } w := by
  have e1 : kcode E.body [] 0 = E.body := by simp [kcode,rowC,restC]
  have h2 : (kcode E.body [] 0).wp E.P (fun e a w' => ∃ σ',((e = .ret ∨ e = .normal) ∧ resAV E.T σ' fn.results.toList = some ret ∧ keepO σ'.ob (namesO io') = io') ∧ St w (Owned io fp) L0 E.nt σ' a w') { tmps := vs ++ Array.replicate (fn.ntmps - vs.size) undef,defers := [] } w := hwp
  rwa [e1] at h2
 refine calls_of_wp hf hb (wp_mono hwp' fun e a w' he => ?_)
 obtain ⟨σ',⟨hex,hres,hkeep⟩,L',fp',hs⟩ := he
 have hk := ghost_keep (s := []) (o := namesO io') hs
 rw [hkeep] at hk
 obtain ⟨u,hu1,hu2⟩ := resAV_ok E.ok hs hres
 have hv : ViewLe (view w' (Owned σ'.ob fp')) (view w' (Owned io' fp')) := by
  rw [← hkeep]
  refine view_change (fun _ _ _ => rfl) fun b hb => .inl ?_
  obtain ⟨o,h1,h2⟩ := hb
  refine ⟨o,?_,h2⟩
  rw [getO_keep] at h1
  split at h1
  ·exact h1
  ·cases h1
 have post : ∃ v,(results fn a.tmps).run E.P w' = .ok v w' ∧ ∃ v2 L2 fp2,Ending.returned v = .returned v2 ∧ Kept w (Owned io fp) w' ∧ Owns w' io' L2 fp2 ∧ (∀ b,Owned io' fp2 b → Owned io fp b ∨ w.heap.size ≤ b) ∧
   BoxLe L L2 (fun o => (getO io o).isSome = true) ∧ RelV (view w' (Owned io' fp2)) L2 ret v2 :=
  ⟨u,hu1,u,L',fp',rfl,hk.kept,hk.owns,hk.fresh,fun o b ho hl => hk.le o b trivial (by rw [hLe o (mem_namesO.2 ho)]; exact hl),hu2.mono hv _ _ (LocsLe.refl _ _)⟩
 obtain ⟨v,h1,h2⟩ := post
 rcases hex with rfl | rfl
 ·exact ⟨hs.defers,v,h1,h2⟩
 ·exact ⟨hs.defers,v,h1,h2⟩
mutual
theorem AV.ren_ren {f : Nat → Nat} (hf : ∀ o,f (f o) = o) : ∀ v : AV,(v.ren f).ren f = v
 | .dead | .undf | .anyb _ | .lst .. | .int .. | .bool _ | .blit _ | .str _ | .nilp | .nil _ | .list _ | .pelt .. => rfl
 | .ptr .. | .sl .. | .slp .. | .sub .. | .eptr .. | .selt .. | .subp .. => by simp [AV.ren,hf]
 | .agg cs => by simp only [AV.ren]; rw [AV.ren_rens hf cs]
 | .tuple cs => by simp only [AV.ren]; rw [AV.ren_rens hf cs]
 | .pbox cs i => by simp only [AV.ren]; rw [AV.ren_rens hf cs]
 | .func g a b => by simp only [AV.ren]; rw [AV.ren_rens hf a,AV.ren_rens hf b]
theorem AV.ren_rens {f : Nat → Nat} (hf : ∀ o,f (f o) = o) : ∀ l : List AV,AV.ren.go f (AV.ren.go f l) = l
 | [] => rfl
 | v :: r => by simp only [AV.ren.go]; rw [AV.ren_ren hf v,AV.ren_rens hf r]
end
theorem renO_renO {f : Nat → Nat} (hf : ∀ o,f (f o) = o) : ∀ l : List (Nat × AObj),renO f (renO f l) = l
 | [] => rfl
 | (o,.box cs) :: r => by simp only [renO,AObj.ren,hf,AV.ren_rens hf,renO_renO hf r]
 | (o,.arr e v rv p) :: r => by simp only [renO,AObj.ren,hf,renO_renO hf r]
 | (o,.hol e v rv p kk) :: r => by simp only [renO,AObj.ren,hf,renO_renO hf r]
theorem owns_swap {w : World} {ob : List (Nat × AObj)} {L : Locs} {fp : Nat → List Nat} (x y : Nat) (h : Owns w ob L fp) :
  Owns w (renO (swapN x y) ob) (fun o => L (swapN x y o)) (fun o => fp (swapN x y o)) ∧ (∀ b,Owned (renO (swapN x y) ob) (fun o => fp (swapN x y o)) b ↔ Owned ob fp b) := by
 have hinv := swapN_inv x y
 have hg : ∀ n,getO (renO (swapN x y) ob) n = (getO ob (swapN x y n)).map (·.ren (swapN x y)) := fun n => by
  have := getO_ren (f := swapN x y) (fun a b h => swapN_inj h) ob (swapN x y n)
  rwa [hinv] at this
 have hs : ∀ n,(getO (renO (swapN x y) ob) n).isSome = (getO ob (swapN x y n)).isSome := fun n => by rw [hg]; simp
 have hown : ∀ b,Owned (renO (swapN x y) ob) (fun o => fp (swapN x y o)) b ↔ Owned ob fp b := fun b =>
  ⟨fun ⟨n,h1,h2⟩ => ⟨swapN x y n,by rw [← hs]; exact h1,h2⟩,fun ⟨n,h1,h2⟩ => ⟨swapN x y n,by rw [hs,hinv]; exact h1,by simp only [hinv]; exact h2⟩⟩
 have hown' : Owned (renO (swapN x y) ob) (fun o => fp (swapN x y o)) = Owned ob fp := funext fun b => propext (hown b)
 have hLr : ∀ o,(fun o => L (swapN x y o)) (swapN x y o) = L o := fun o => by simp only [hinv]
 refine ⟨⟨fun n z hz => ?_,fun n b hn => h.lt _ b (by rw [← hs]; exact hn),fun n hn => h.nodup _ (by rw [← hs]; exact hn),fun n n' b hn hn' hne => h.disj _ _ b (by rw [← hs]; exact hn) (by rw [← hs]; exact hn') (fun e => hne (swapN_inj e))⟩,hown⟩
 rw [hown']
 rw [hg] at hz
 cases hz0 : getO ob (swapN x y n) with
 | none => rw [hz0] at hz; cases hz
 | some z0 =>
  rw [hz0] at hz
  simp only [Option.map_some,Option.some.injEq] at hz
  subst hz
  obtain ⟨l,h1,h2⟩ := h.obj _ z0 hz0
  refine ⟨l,h1,?_⟩
  cases z0 with
  | arr e ver rv p => exact h2
  | hol e ver rv p kk => exact h2
  | box cs =>
   obtain ⟨b,t,us,k1,k2,k3,k4,k5⟩ := h2
   exact ⟨b,t,us,k1,k2,k3,RelVs.ren (L' := fun o => L (swapN x y o)) (f := swapN x y) hLr _ _ k4,k5⟩
theorem Spec.swap {P : Program} {f : FuncId} {args : List AV} {io io' : List (Nat × AObj)} {ret : AV} (x y : Nat) (h : Spec P f args io ret io') :
  Spec P f (AV.ren.go (swapN x y) args) (renO (swapN x y) io) (ret.ren (swapN x y)) (renO (swapN x y) io') := by
 have hinv := swapN_inv x y
 refine ⟨h.1,fun w vs L fp htab howns hargs => ?_⟩
 obtain ⟨h1,h2⟩ := owns_swap x y howns
 rw [renO_renO hinv] at h1 h2
 have hown : Owned io (fun o => fp (swapN x y o)) = Owned (renO (swapN x y) io) fp := funext fun b => propext (h2 b)
 have hLr : ∀ o,(fun o => L (swapN x y o)) (swapN x y o) = L o := fun o => by simp only [hinv]
 have hargs' := RelVs.ren (L' := fun o => L (swapN x y o)) (f := swapN x y) hLr _ _ hargs
 rw [AV.ren_rens hinv] at hargs'
 refine (h.2 w vs _ _ (by rw [hown]; exact htab) h1 (by rw [hown]; exact hargs')).mono fun e w' he => ?_
 obtain ⟨v,L',fp',rfl,k1,k2,k3,k4,k5⟩ := he
 obtain ⟨g1,g2⟩ := owns_swap x y k2
 have hown' : Owned (renO (swapN x y) io') (fun o => fp' (swapN x y o)) = Owned io' fp' := funext fun b => propext (g2 b)
 refine ⟨v,fun o => L' (swapN x y o),fun o => fp' (swapN x y o),rfl,by rw [← hown]; exact k1,g1,fun b hb => ?_,fun o b ho hl => ?_,?_⟩
 ·rw [hown'] at hb
  rcases k3 b hb with h3 | h3
  ·rw [hown] at h3; exact .inl h3
  ·exact .inr h3
 ·refine k4 (swapN x y o) b ?_ (by simp only [hinv]; exact hl)
  have := getO_ren (f := swapN x y) (fun a b h => swapN_inj h) io (swapN x y o)
  rw [hinv] at this
  have ho' : (getO (renO (swapN x y) io) o).isSome = true := ho
  rw [this] at ho'
  simpa using ho'
 ·rw [hown']
  exact RelV.ren (L' := fun o => L' (swapN x y o)) (f := swapN x y) (fun o => by simp only [hinv]) _ _ k5
end Go.AM
namespace Go.AM
open Classical
noncomputable def grd {α : Type} (p : Prop) (m : Option α) : Option α := if p then m else none
theorem grd_some {α : Type} {p : Prop} {m : Option α} {r : α} (h : grd p m = some r) : p ∧ m = some r := by
 unfold grd at h
 split at h
 ·rename_i hp; exact ⟨hp,h⟩
 ·cases h
theorem grd_pos {α : Type} {p : Prop} {m : Option α} (h : p) : grd p m = m := if_pos h
theorem bif_some {α : Type} {b : Bool} {x y : Option α} {r : α} (h : (bif b then x else y) = some r) : (b = true ∧ x = some r) ∨ (b = false ∧ y = some r) := by
 cases b
 ·exact .inr ⟨rfl,h⟩
 ·exact .inl ⟨rfl,h⟩
theorem bind_some {α β : Type} {o : Option α} {f : α → Option β} {r : β} (h : o.bind f = some r) : ∃ a,o = some a ∧ f a = some r := by
 cases o with
 | none => cases h
 | some a => exact ⟨a,rfl,h⟩
theorem fin1 {α : Type} {x r : α} {P : α → Prop} (h : some x = some r) (k : P x) : P r := Option.some.inj h ▸ k
theorem Tri.u {E : Env} {K : List KI} {σ : ASt} {Q : Exit → ASt → Prop} (n : Nat) (chs : List Ch) (gs : List Gh) (K' : List KI) (σ' : ASt) {cs : List Prop} {σ1 : ASt} (h : runK E n σ K chs [] = .mk cs σ1 K') (hcs : AllP cs) (hg : ghosts σ1 gs = some σ') (k : Tri E K' σ' Q) : Tri E K σ Q := Tri.run n chs gs h hcs hg k
theorem Tri.g {E : Env} {K : List KI} {σ : ASt} {Q : Exit → ASt → Prop} (gs : List Gh) (σ' : ASt) (hg : ghosts σ gs = some σ') (k : Tri E K σ' Q) : Tri E K σ Q := Tri.gh gs hg k
abbrev isRes (T : TEnv) (f : Func) (v : AV) (l : List (Nat × AObj)) (σ' : ASt) : Prop := resAV T σ' f.results.toList = some v ∧ keepO σ'.ob (namesO l) = l
theorem TriX.gh {E : Env} {e : Exit} {K : List KI} {σ σ' : ASt} {Q : Exit → ASt → Prop} (gs : List Gh) (hg : ghosts σ gs = some σ') (k : TriX E e K σ' Q) : TriX E e K σ Q := fun w0 F0 L0 hL0 a w hs => k w0 F0 L0 hL0 a w (ghosts_ok hL0.ge gs hs hg)
end Go.AM
namespace Go.AM
def fN {β : Type} (n : Nat) (k : Nat → β) : β := match n with
 | 0 => k 0
 | m + 1 => k (m + 1)
theorem fN_eq {β : Type} (n : Nat) (k : Nat → β) : fN n k = k n := by cases n <;> rfl
def fP {β : Type} (p : Pay) (k : Pay → β) : β := match p with
 | .ints l => k (.ints l)
 | .bytes l => k (.bytes l)
 | .rats l => k (.rats l)
 | .strs l => k (.strs l)
 | .intss l => k (.intss l)
 | .ratss l => k (.ratss l)
theorem fP_eq {β : Type} (p : Pay) (k : Pay → β) : fP p k = k p := by cases p <;> rfl
def fA {β : Type} (v : AV) (k : AV → β) : β := match v with
 | .dead => k .dead
 | .undf => k .undf
 | .anyb p => fP p fun p => k (.anyb p)
 | .lst x p => fP p fun p => k (.lst x p)
 | .int c n => k (.int c n)
 | .bool b => k (.bool b)
 | .blit b => match b with
  | true => k (.blit true)
  | false => k (.blit false)
 | .str l => k (.str l)
 | .agg cs => k (.agg cs)
 | .tuple cs => k (.tuple cs)
 | .nilp => k .nilp
 | .ptr o i => fN o fun o => fN i fun i => k (.ptr o i)
 | .sl o v => fN o fun o => fN v fun v => k (.sl o v)
 | .slp o v a n => fN o fun o => fN v fun v => k (.slp o v a n)
 | .sub o v r j => fN o fun o => fN v fun v => fN r fun r => k (.sub o v r j)
 | .eptr o v e f => fN o fun o => fN v fun v => fN f fun f => k (.eptr o v e f)
 | .selt o v r j e f => fN o fun o => fN v fun v => fN r fun r => fN f fun f => k (.selt o v r j e f)
 | .subp o v r j a n => fN o fun o => fN v fun v => fN r fun r => k (.subp o v r j a n)
 | .list p => fP p fun p => k (.list p)
 | .nil p => fP p fun p => k (.nil p)
 | .pelt p e f => fP p fun p => fN f fun f => k (.pelt p e f)
 | .pbox cs i => fN i fun i => k (.pbox cs i)
 | .func g a b => k (.func g a b)
theorem fA_eq {β : Type} (v : AV) (k : AV → β) : fA v k = k v := by
 cases v with
 | blit b => cases b <;> rfl
 | _ => simp only [fA,fN_eq,fP_eq]
def fAs {β : Type} : List AV → (List AV → β) → β
 | [],k => k []
 | v :: r,k => fA v fun v => fAs r fun r => k (v :: r)
theorem fAs_eq {β : Type} : ∀ (l : List AV) (k : List AV → β),fAs l k = k l
 | [],k => rfl
 | v :: r,k => by simp only [fAs,fA_eq]; rw [fAs_eq r]
def fB {β : Type} (v : AV) (k : AV → β) : β := fA v fun v => match v with
 | .agg cs => fAs cs fun cs => k (.agg cs)
 | .tuple cs => fAs cs fun cs => k (.tuple cs)
 | .pbox cs i => fAs cs fun cs => k (.pbox cs i)
 | .func g a b => fAs a fun a => fAs b fun b => k (.func g a b)
 | v => k v
theorem fB_eq {β : Type} (v : AV) (k : AV → β) : fB v k = k v := by
 unfold fB
 rw [fA_eq]
 cases v <;> simp only [fAs_eq]
def fBs {β : Type} : List AV → (List AV → β) → β
 | [],k => k []
 | v :: r,k => fB v fun v => fBs r fun r => k (v :: r)
theorem fBs_eq {β : Type} : ∀ (l : List AV) (k : List AV → β),fBs l k = k l
 | [],k => rfl
 | v :: r,k => by simp only [fBs,fB_eq]; rw [fBs_eq r]
def fV {β : Type} (v : AV) (k : AV → β) : β := fA v fun v => match v with
 | .agg cs => fAs cs fun cs => k (.agg cs)
 | .tuple cs => fBs cs fun cs => k (.tuple cs)
 | .pbox cs i => fAs cs fun cs => k (.pbox cs i)
 | .func g a b => fBs a fun a => fBs b fun b => k (.func g a b)
 | v => k v
theorem fV_eq {β : Type} (v : AV) (k : AV → β) : fV v k = k v := by
 unfold fV
 rw [fA_eq]
 cases v <;> simp only [fAs_eq,fBs_eq]
def fO {β : Type} (x : AObj) (k : AObj → β) : β := match x with
 | .box cs => fAs cs fun cs => k (.box cs)
 | .arr e v r p => fN v fun v => fN r fun r => fP p fun p => k (.arr e v r p)
 | .hol e v r p j => k (.hol e v r p j)
theorem fO_eq {β : Type} (x : AObj) (k : AObj → β) : fO x k = k x := by cases x <;> simp only [fO,fAs_eq,fN_eq,fP_eq]
def fSl {β : Type} : List (Nat × AV) → (List (Nat × AV) → β) → β
 | [],k => k []
 | (i,v) :: r,k => fV v fun v => fSl r fun r => k ((i,v) :: r)
theorem fSl_eq {β : Type} : ∀ (l : List (Nat × AV)) (k : List (Nat × AV) → β),fSl l k = k l
 | [],k => rfl
 | (i,v) :: r,k => by simp only [fSl]; rw [fV_eq,fSl_eq r]
def fOb {β : Type} : List (Nat × AObj) → (List (Nat × AObj) → β) → β
 | [],k => k []
 | (i,x) :: r,k => fN i fun i => fO x fun x => fOb r fun r => k ((i,x) :: r)
theorem fOb_eq {β : Type} : ∀ (l : List (Nat × AObj)) (k : List (Nat × AObj) → β),fOb l k = k l
 | [],k => rfl
 | (i,v) :: r,k => by simp only [fOb]; rw [fN_eq,fO_eq,fOb_eq r]
def fPath {β : Type} : List (Nat × Nat) → (List (Nat × Nat) → β) → β
 | [],k => k []
 | (i,j) :: r,k => fN i fun i => fN j fun j => fPath r fun r => k ((i,j) :: r)
theorem fPath_eq {β : Type} : ∀ (l : List (Nat × Nat)) (k : List (Nat × Nat) → β),fPath l k = k l
 | [],k => rfl
 | (i,j) :: r,k => by simp only [fPath,fN_eq]; rw [fPath_eq r]
def fK {β : Type} : List KI → (List KI → β) → β
 | [],k => k []
 | .blk n :: r,k => fK r fun r => k (.blk n :: r)
 | .code p i :: r,k => fPath p fun p => fN i fun i => fK r fun r => k (.code p i :: r)
theorem fK_eq {β : Type} : ∀ (l : List KI) (k : List KI → β),fK l k = k l
 | [],k => rfl
 | .blk n :: r,k => by simp only [fK]; rw [fK_eq r]
 | .code p i :: r,k => by simp only [fK,fPath_eq,fN_eq]; rw [fK_eq r]
abbrev Ch.v (x : AV) : Ch := .r ⟨[],x,[]⟩
inductive SOut where
 | mk (cs : List Prop) (sl : List (Nat × AV)) (ob : List (Nat × AObj)) (K : List KI)
 | fail
def stepF (E : Env) (n : Nat) (σ : ASt) (K : List KI) (chs : List Ch) (gs : List Gh) : SOut := match runK E n σ K chs [] with
 | .mk cs σ1 K' => match ghosts σ1 gs with
  | some ⟨sl,ob⟩ => fSl sl fun sl => fOb ob fun ob => fK K' fun K' => .mk cs sl ob K'
  | none => .fail
 | .fail => .fail
theorem Tri.f {E : Env} {K : List KI} {σ : ASt} {Q : Exit → ASt → Prop} (n : Nat) (chs : List Ch) (gs : List Gh) {cs : List Prop} {sl : List (Nat × AV)} {ob : List (Nat × AObj)} {K' : List KI} (h : stepF E n σ K chs gs = .mk cs sl ob K') (hcs : AllP cs) (k : Tri E K' ⟨sl,ob⟩ Q) : Tri E K σ Q := by
 unfold stepF at h
 split at h
 ·rename_i cs1 σ1 K1 hr
  split at h
  ·rename_i sl1 ob1 hg
   rw [fSl_eq,fOb_eq,fK_eq] at h
   cases h
   exact Tri.run n chs gs hr hcs hg k
  ·cases h
 ·cases h
end Go.AM
