/- A region that draws its order and only makes memory, with more code behind it: what all slots hold then. No program is named here. -/
import Derived.Test.YtomnhfcckalkiaaGrow
namespace Go.Proofs.Ytomnhfcckalkiaa
open Go.RowKit

theorem puts_defers (vs : Nat → Value) : ∀ (D : List Nat) (a : Act), (D.foldl (fun a d => a.put (some d) (vs d)) a).defers = a.defers
  | [], _ => rfl
  | d :: D, a => by rw [List.foldl_cons, puts_defers vs D]; rfl
theorem puts_size (vs : Nat → Value) : ∀ (D : List Nat) (a : Act), (D.foldl (fun a d => a.put (some d) (vs d)) a).tmps.size = a.tmps.size
  | [], _ => rfl
  | d :: D, a => by rw [List.foldl_cons, puts_size vs D]; simp [Act.put]
theorem puts_get (vs : Nat → Value) (t : Nat) : ∀ (D : List Nat) (a : Act), t < a.tmps.size → (D.foldl (fun a d => a.put (some d) (vs d)) a).tmps.getD t undef = if t ∈ D then vs t else a.tmps.getD t undef
  | [], _, _ => by simp
  | d :: D, a, h => by
    rw [List.foldl_cons, puts_get vs t D _ (by simpa [Act.put] using h)]
    by_cases hD : t ∈ D
    · simp [hD]
    · rw [if_neg hD]
      by_cases hd : t = d
      · subst hd; rw [getD_put _ _ _ h]; simp
      · rw [getD_put_ne _ _ _ _ hd]; simp [hD, hd]
theorem act_eq {a b : Act} (hd : a.defers = b.defers) (hs : a.tmps.size = b.tmps.size) (h : ∀ t, t < a.tmps.size → a.tmps.getD t undef = b.tmps.getD t undef) : a = b := by
  obtain ⟨x, y⟩ := a
  obtain ⟨u, v⟩ := b
  simp only at hd hs h
  subst hd
  congr 1
  apply Array.ext hs
  intro i h1 h2
  have := h i h1
  simpa [Array.getD, h1, h2] using this
/-- as wp_region_grow; behind it stands what each slot of the region's holds, the others as they were. -/
theorem wp_region_grow_on {P : Program} {l : List Oper} {id : Nat} {Q : Exit → Act → World → Prop} {a : Act} {w : World} (n : Nat) (B D : List Nat) (hm : P.follows .mixedOrders = true) (Φ : Nat → Value → World → Prop)
    (hst : Stab Φ) (hB : (growB l && onceB l && ((dsts l).all fun d => decide (d < n)) && ((l.flatMap (reads l)).all fun t => (dsts l).contains t || B.contains t)) = true) (hD : dsts l = D)
    (hn : a.tmps.size = n) (hbase : ∀ w' : World, Know Φ a.eval w' B)
    (hops : OblAll P l (Ext w) Φ l)
    (hend : ∀ (vs : Nat → Value) w', Ext w w' → (∀ d ∈ D, Φ d (vs d) w') → Q .normal (D.foldl (fun a d => a.put (some d) (vs d)) a) w') : (Code.region id l.toArray true).wp P Q a w := by
  simp only [Bool.and_eq_true] at hB
  subst hn
  subst hD
  refine wp_region_any hm ?_
  have hx : Ext w { w with drawn := w.drawn + 1 } := (Ext.refl w).drew
  have get : ∀ (r : List Nat) (w' : World), Know Φ a.eval w' r → ∀ t ∈ r, Φ t (a.tmps.getD t undef) w' := by
    intro r
    induction r with
    | nil => intro w' _ t ht; cases ht
    | cons x r ih =>
      intro w' hk t ht
      cases List.mem_cons.1 ht with
      | inl e => subst e; exact hk.1
      | inr e => exact ih w' hk.2 t e
  refine grow_any (a0 := a) (I := Ext w) (Φ := Φ) hst (fun _ _ h k => h.trans k) hB.1.1.2 hB.1.1.1 (fun d hd => of_decide_eq_true (List.all_eq_true.1 hB.1.2 d hd)) ?_ hops ?_ _ _ _ _ ?_ (fun _ _ => trivial) ?_
  · intro o ho t ht hd w' _
    have h1 := List.all_eq_true.1 hB.2 t (List.mem_flatMap.2 ⟨o, ho, ht⟩)
    simp only [Bool.or_eq_true, List.contains_iff_mem] at h1
    exact get B w' (hbase w') t (h1.resolve_left hd)
  · intro a' w' hi hd hs hf ho
    have e : a' = (dsts l).foldl (fun a d => a.put (some d) (a'.tmps.getD d undef)) a := by
      refine act_eq (by rw [puts_defers (fun d => a'.tmps.getD d undef)]; exact hd) (by rw [puts_size (fun d => a'.tmps.getD d undef)]; exact hs) (fun t ht => ?_)
      rw [puts_get (fun d => a'.tmps.getD d undef) t _ _ (by omega)]
      by_cases h : t ∈ dsts l
      · rw [if_pos h]
      · rw [if_neg h]; exact ho t h
    rw [e]
    exact hend (fun d => a'.tmps.getD d undef) w' hi hf
  · exact ⟨hx, by simp, rfl, rfl, fun j o d hj hd hl => by (simp [Array.getD_eq_getD_getElem?, Array.getElem?_replicate] at hl; split at hl <;> simp at hl), fun _ _ => rfl⟩
  · simp only [List.size_toArray, Array.toList_replicate]
    exact Nat.le_trans (List.length_filter_le _ _) (by simp)
/-- an operation that yields some value of its word, in the worlds of I. -/
theorem Obl.some {P : Program} {l : List Oper} {I : World → Prop} {Φ : Nat → Value → World → Prop} {o : Oper}
    (h : ∀ (ev : Operand → Value) (w : World), I w → (∀ c, ev (.const c) = c) → (∀ f, ev (.func f) = .func (.func f) #[] #[]) → (∀ g, ev (.global g) = .pointer (some ⟨g, 0, none⟩)) → Know Φ ev w (reads l o) → Region.wanted o (saysOf l ev) = true ∧ ∃ v, (execOp ev o).run P w = .ok (.value v) w ∧ ∀ d, o.dst = some d → Φ d v w) : Obl P l I Φ o := by
  intro ev w hI hc hf hg hev
  obtain ⟨h1, v, h2, h3⟩ := h ev w hI hc hf hg hev
  rw [if_pos h1]
  unfold RunsTo
  rw [h2]
  exact ⟨Ext.refl _, h3⟩
end Go.Proofs.Ytomnhfcckalkiaa
