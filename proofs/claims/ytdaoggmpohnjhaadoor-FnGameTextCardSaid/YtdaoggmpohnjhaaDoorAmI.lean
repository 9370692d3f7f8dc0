/- The decimal numeral as a contract of the abstract machine. No condition: what is proved here holds of every program of the model. -/
import Derived.Test.YtdaoggmpohnjhaaDoorAmB
import Derived.Shelf.Strconv.Itoa3
namespace Go.AM
theorem drewN_heap (k : Nat) (w : World) : (w.drewN k).heap = w.heap ∧ (w.drewN k).os = w.os ∧ (w.drewN k).tape = w.tape ∧ (w.drewN k).output = w.output ∧ w.drawn ≤ (w.drewN k).drawn :=
 ⟨rfl,rfl,rfl,rfl,Nat.le_add_right _ _⟩
theorem spec_itoa {P : Program} {f : FuncId} {n : Int} {g : Nat} (hE : Enters P f) (hg : P.globalNamed tabName = some g)
  (h : ∀ w,Lib.TabIs P w "internal/strconv.uint64pow10" .u64 Lib.pow10Tab → Calls P f #[.int .i64 n] w fun e w' => e = .returned (.string ⟨(Lib.itoa n).toArray⟩) ∧ ∃ k os,w' = Sort.grow (w.drewN k) os) :
  Spec P f [.int .i64 n] [] (.str (Lib.itoa n)) [] := by
 refine ⟨hE,fun w vs L fp htab hO hA => ?_⟩
 have hvs : vs = #[.int .i64 n] := by
  have := hA.length
  simp only [List.length_cons,List.length_nil,Array.length_toList] at this
  match vs,this,hA with
  | ⟨[a]⟩,_,hA =>
   simp only [RelVs,RelV,and_true] at hA
   rw [hA]
 subst hvs
 refine (h w (htab g hg).2.2).mono fun e w' he => ?_
 obtain ⟨rfl,k,os,rfl⟩ := he
 obtain ⟨h1,h2,h3,h4,h5⟩ := drewN_heap k w
 have hheap : (Sort.grow (w.drewN k) os).heap = w.heap ++ os := by
  show (w.drewN k).heap ++ os = _
  rw [h1]
 refine ⟨_,L,fp,rfl,⟨h2,h3,h4,?_,fun b hb _ => ?_,h5⟩,⟨fun o x hx => by simp [getO] at hx,fun o b hx => by simp [getO] at hx,fun o hx => by simp [getO] at hx,fun o o' b hx => by simp [getO] at hx⟩,fun b hb => by simp [Owned,getO] at hb,fun o l hx => by simp [getO] at hx,by simp [RelV]⟩
 ·rw [hheap]
  simp
 ·rw [hheap,Array.getElem?_append_left hb]
end Go.AM
