/- What a walk holds: things in new memory, apart from each other. -/
import Derived.Test.YtomnhfcckalkiaaWNew
import Derived.Test.YtomnhfcckalkiaaReader
namespace Go.Proofs.Ytomnhfcckalkiaa
open Go.RowKit
set_option linter.unusedVariables false

/-- a thing in memory, and its blocks. -/
structure Thing where
  has : World → (Nat → Prop) → Prop
  keep : ∀ {w w' : World} {S S' : Nat → Prop}, has w S → Touch S' w w' → (∀ k, S k → ¬ S' k) → has w' S
  lt : ∀ {w : World} {S : Nat → Prop}, has w S → ∀ k, S k → k < w.heap.size
def tW (T : Nat) (hi : Bool) (B : Nat) (l : List Bool) : Thing where
  has w S := ∃ og, IsW T hi w B og l ∧ ∀ k, S k ↔ FP B og k
  keep := fun ⟨og, h, e⟩ t n => ⟨og, h.keep t (n B ((e B).2 (Or.inl rfl))) (fun g eg => n g ((e g).2 (Or.inr eg))), e⟩
  lt := fun ⟨og, h, e⟩ k hk => by
    rcases (e k).1 hk with rfl | hk
    · exact h.lt
    · exact h.glt k hk
def tR (T : Nat) (B : Nat) (bs : List Nat) (i : Nat) : Thing where
  has w S := ∃ og, IsR T w B og bs i ∧ ∀ k, S k ↔ FP B og k
  keep := fun ⟨og, h, e⟩ t n => ⟨og, h.keep t (n B ((e B).2 (Or.inl rfl))) (fun g eg => n g ((e g).2 (Or.inr eg))), e⟩
  lt := fun ⟨og, h, e⟩ k hk => by
    rcases (e k).1 hk with rfl | hk
    · exact h.lt
    · exact h.glt k hk
def tO (ty : TypeId) (v : Value) (xs : List Value) : Thing where
  has w S := ∃ og, Owns w ty 1 v og xs.length xs ∧ ∀ k, S k ↔ og = some k
  keep := fun ⟨og, h, e⟩ t n => ⟨og, h.keep t (fun g eg => n g ((e g).2 eg)), e⟩
  lt := fun ⟨og, h, e⟩ k hk => h.lt k ((e k).1 hk)
def tV (v : Value) (xs : List Value) : Thing where
  has w S := ViewL w v xs ∧ (∀ b o n c, v = .slice (some ⟨b, o, none⟩) n c → S b) ∧ ∀ k, S k → k < w.heap.size
  keep := fun ⟨h, e, l⟩ t n => ⟨h.keep t (fun b o m c eb => n b (e b o m c eb)), e, fun k hk => Nat.lt_of_lt_of_le (l k hk) t.size⟩
  lt := fun ⟨h, e, l⟩ => l

structure St (w0 w : World) (Ts : List Thing) : Prop where
  ext : Ext w0 w
  own : ∃ Ss : Nat → Nat → Prop, (∀ i (T : Thing), Ts[i]? = some T → T.has w (Ss i)) ∧ (∀ i k, i < Ts.length → Ss i k → w0.heap.size ≤ k) ∧ ∀ i j k, i < Ts.length → j < Ts.length → i ≠ j → Ss i k → ¬ Ss j k
theorem getE_lt {α : Type} {l : List α} {i : Nat} {x : α} (h : l[i]? = some x) : i < l.length := (List.getElem?_eq_some_iff.1 h).1
theorem St.of {w0 w : World} (h : Ext w0 w) : St w0 w [] := ⟨h, fun _ _ => False, by simp, by simp, by simp⟩
theorem St.step {w0 w w' : World} {Ts : List Thing} (h : St w0 w Ts) (x : Ext w w') : St w0 w' Ts := by
  obtain ⟨e, Ss, h1, h2, h3⟩ := h
  exact ⟨e.trans x, Ss, fun i T hi => T.keep (h1 i T hi) x (fun _ _ f => f), h2, h3⟩
theorem St.add {w0 w w' : World} {Ts : List Thing} (h : St w0 w Ts) (x : Ext w w') (T : Thing) (S : Nat → Prop) (hT : T.has w' S) (hS : ∀ k, S k → w.heap.size ≤ k) : St w0 w' (Ts ++ [T]) := by
  obtain ⟨e, Ss, h1, h2, h3⟩ := h
  have hlt : ∀ i k, i < Ts.length → Ss i k → k < w.heap.size := fun i k hi hk => (Ts[i]).lt (h1 i _ (List.getElem?_eq_getElem hi)) k hk
  refine ⟨e.trans x, fun i => if i < Ts.length then Ss i else S, fun i U hi => ?_, fun i k hi hk => ?_, fun i j k hi hj hij hk hk2 => ?_⟩
  · have hl := getE_lt hi
    simp only [List.length_append, List.length_cons, List.length_nil] at hl
    show U.has w' (if i < Ts.length then Ss i else S)
    by_cases hlt' : i < Ts.length
    · rw [if_pos hlt']
      rw [List.getElem?_append_left hlt'] at hi
      exact U.keep (h1 i U hi) x (fun _ _ f => f)
    · rw [if_neg hlt']
      obtain rfl : i = Ts.length := by omega
      simp at hi
      exact hi ▸ hT
  · have hk : (if i < Ts.length then Ss i else S) k := hk
    by_cases hlt' : i < Ts.length
    · rw [if_pos hlt'] at hk; exact h2 i k hlt' hk
    · rw [if_neg hlt'] at hk; exact Nat.le_trans e.size (hS k hk)
  · have hk : (if i < Ts.length then Ss i else S) k := hk
    have hk2 : (if j < Ts.length then Ss j else S) k := hk2
    simp only [List.length_append, List.length_cons, List.length_nil] at hi hj
    by_cases hi' : i < Ts.length <;> by_cases hj' : j < Ts.length
    · rw [if_pos hi'] at hk; rw [if_pos hj'] at hk2; exact h3 i j k hi' hj' hij hk hk2
    · rw [if_pos hi'] at hk; rw [if_neg hj'] at hk2; have := hlt i k hi' hk; have := hS k hk2; omega
    · rw [if_neg hi'] at hk; rw [if_pos hj'] at hk2; have := hlt j k hj' hk2; have := hS k hk; omega
    · omega
theorem St.at {w0 w : World} {Ts : List Thing} (h : St w0 w Ts) (i : Nat) (T : Thing) (hi : Ts[i]? = some T) :
    ∃ S, T.has w S ∧ (∀ k, S k → w0.heap.size ≤ k) ∧ (∀ j (T' : Thing), j ≠ i → Ts[j]? = some T' → ∃ S' : Nat → Prop, T'.has w S' ∧ ∀ k, S' k → ¬ S k) ∧
      ∀ (w' : World) (T' : Thing) (S' : Nat → Prop), Touch S w w' → T'.has w' S' → (∀ k, S' k → S k ∨ w.heap.size ≤ k) → St w0 w' (Ts.set i T') := by
  obtain ⟨e, Ss, h1, h2, h3⟩ := h
  have hil := getE_lt hi
  have hlt : ∀ i k, i < Ts.length → Ss i k → k < w.heap.size := fun i k hi hk => (Ts[i]).lt (h1 i _ (List.getElem?_eq_getElem hi)) k hk
  refine ⟨Ss i, h1 i T hi, fun k hk => h2 i k hil hk, fun j T' hj hT' => ⟨Ss j, h1 j T' hT', fun k hk => h3 j i k (getE_lt hT') hil hj hk⟩, fun w' T' S' ht hT' hS' => ?_⟩
  refine ⟨e.touch ht (fun k hk hs => by have := h2 i k hil hs; omega), fun j => if j = i then S' else Ss j, fun j U hj => ?_, fun j k hj hk => ?_, fun a b k ha hb hab hk hk2 => ?_⟩
  · show U.has w' (if j = i then S' else Ss j)
    by_cases hji : j = i
    · subst hji
      rw [if_pos rfl]
      rw [List.getElem?_set_self hil] at hj
      cases hj; exact hT'
    · rw [if_neg hji]
      rw [List.getElem?_set_ne (fun e => hji e.symm)] at hj
      exact U.keep (h1 j U hj) ht (fun k hk => h3 j i k (getE_lt hj) hil hji hk)
  · have hk : (if j = i then S' else Ss j) k := hk
    rw [List.length_set] at hj
    by_cases hji : j = i
    · rw [if_pos hji] at hk
      rcases hS' k hk with h | h
      · exact h2 i k hil h
      · exact Nat.le_trans e.size h
    · rw [if_neg hji] at hk; exact h2 j k hj hk
  · have hk : (if a = i then S' else Ss a) k := hk
    have hk2 : (if b = i then S' else Ss b) k := hk2
    rw [List.length_set] at ha hb
    by_cases ha' : a = i <;> by_cases hb' : b = i
    · omega
    · rw [if_pos ha'] at hk; rw [if_neg hb'] at hk2
      rcases hS' k hk with h | h
      · exact h3 i b k hil hb (fun e => hb' e.symm) h hk2
      · have := hlt b k hb hk2; omega
    · rw [if_neg ha'] at hk; rw [if_pos hb'] at hk2
      rcases hS' k hk2 with h | h
      · exact h3 a i k ha hil ha' hk h
      · have := hlt a k ha hk; omega
    · rw [if_neg ha'] at hk; rw [if_neg hb'] at hk2; exact h3 a b k ha hb hab hk hk2
/-- the first n things alone. -/
theorem St.take {w0 w : World} {Ts : List Thing} (h : St w0 w Ts) (n : Nat) : St w0 w (Ts.take n) := by
  obtain ⟨e, Ss, h1, h2, h3⟩ := h
  refine ⟨e, Ss, fun i T hi => h1 i T ?_, fun i k hi hk => h2 i k (by rw [List.length_take] at hi; omega) hk, fun i j k hi hj => h3 i j k (by rw [List.length_take] at hi; omega) (by rw [List.length_take] at hj; omega)⟩
  rw [List.getElem?_take] at hi
  split at hi
  · exact hi
  · cases hi
theorem St.newW {w0 w : World} {Ts : List Thing} (h : St w0 w Ts) : St w0 (w.alloc (.cells #[.slice none 0 0, .int .i64 0] 35)) (Ts ++ [tW 35 true w.heap.size []]) :=
  h.add ((Ext.refl w).alloc _) _ (FP w.heap.size none) ⟨none, pick_zero w, fun _ => Iff.rfl⟩ (fun k hk => by rcases hk with rfl | hk; exact Nat.le_refl _; cases hk)
theorem owns_lit (w : World) (ty : TypeId) (xs : List Value) (n : Nat) (hn : n = xs.length) (h0 : 0 < n) (hm : n ≤ 2 ^ 40) : Owns (w.alloc (.cells xs.toArray ty)) ty 1 (.slice (some ⟨w.heap.size, 0, none⟩) n n) (some w.heap.size) xs.length xs := by
  subst hn
  refine ⟨⟨by omega, Or.inr ⟨w.heap.size, xs.length, xs.toArray, rfl, Nat.zero_le _, heap_alloc_new w _, Nat.le_refl _, by unfold maxLen; omega, by simp, ?_⟩⟩, rfl⟩
  rw [List.toList_toArray, Nat.mul_one, List.take_of_length_le (Nat.le_refl _)]
theorem St.lit {w0 w : World} {Ts : List Thing} (h : St w0 w Ts) (ty : TypeId) (xs : List Value) (n : Nat) (hn : n = xs.length) (h0 : 0 < n) (hm : n ≤ 2 ^ 40) :
    St w0 (w.alloc (.cells xs.toArray ty)) (Ts ++ [tO ty (.slice (some ⟨w.heap.size, 0, none⟩) n n) xs]) :=
  h.add ((Ext.refl w).alloc _) _ (fun k => some w.heap.size = some k) ⟨_, owns_lit w ty xs n hn h0 hm, fun _ => Iff.rfl⟩ (fun k hk => by cases hk; exact Nat.le_refl _)
theorem St.has {w0 w : World} {Ts : List Thing} (h : St w0 w Ts) {j : Nat} {T : Thing} (hj : Ts[j]? = some T) : ∃ S, T.has w S := by
  obtain ⟨S, h1, _⟩ := h.at j T hj; exact ⟨S, h1⟩
theorem St.viewL {w0 w : World} {Ts : List Thing} {ty : TypeId} {v : Value} {xs : List Value} (h : St w0 w Ts) (j : Nat) (hj : Ts[j]? = some (tO ty v xs)) : ViewL w v xs := by
  obtain ⟨S, og, h1, _⟩ := h.has hj; exact h1.viewL
theorem St.shape {w0 w : World} {Ts : List Thing} {ty : TypeId} {v : Value} {xs : List Value} (h : St w0 w Ts) (j : Nat) (hj : Ts[j]? = some (tO ty v xs)) : ∃ ao cap, v = .slice ao xs.length cap := by
  obtain ⟨S, og, h1, _⟩ := h.has hj; exact h1.shape
theorem St.view {w0 w : World} {Ts : List Thing} {ty : TypeId} {v : Value} {bs : List Nat} (h : St w0 w Ts) (j : Nat) (hj : Ts[j]? = some (tO ty v (u8s bs))) (ht : ty = 5) : View w v bs := by
  subst ht
  obtain ⟨S, og, h1, _⟩ := h.has hj; rw [length_u8s] at h1; exact h1.view
theorem St.row {w0 w : World} {Ts : List Thing} {ty : TypeId} {v : Value} {xs : List Value} (h : St w0 w Ts) (j : Nat) (hj : Ts[j]? = some (tO ty v xs)) : w.ownsRow 0 ty 1 v xs.length xs := by
  obtain ⟨S, og, h1, _⟩ := h.has hj; exact h1.1
theorem owns_block {w : World} {ty : TypeId} {v : Value} {og : Option Nat} {n : Nat} {xs : List Value} (h : Owns w ty 1 v og n xs) : ∀ b o m c, v = .slice (some ⟨b, o, none⟩) m c → og = some b := fun b o m c e => by
  rcases h.form with ⟨_, h2, _⟩ | ⟨g, cap, cur, h1, h2, _⟩
  · rw [h2] at e; cases e
  · rw [h2] at e; cases e; exact h1
/-- the block of a view that is owned. -/
def OffW (w : World) (Ts : List Thing) (i B : Nat) (og : Option Nat) : Prop :=
  (∀ j ty v xs, j ≠ i → Ts[j]? = some (tO ty v xs) → ∀ b o n c, v = .slice (some ⟨b, o, none⟩) n c → ¬ FP B og b) ∧ (∀ j v xs, j ≠ i → Ts[j]? = some (tV v xs) → ∀ b o n c, v = .slice (some ⟨b, o, none⟩) n c → ¬ FP B og b)
theorem off_of {w : World} {Ts : List Thing} {i B : Nat} {og : Option Nat} {S : Nat → Prop} (e : ∀ k, S k ↔ FP B og k) (h : ∀ j T', j ≠ i → Ts[j]? = some T' → ∃ S' : Nat → Prop, T'.has w S' ∧ ∀ k, S' k → ¬ S k) : OffW w Ts i B og := by
  refine ⟨fun j ty v xs hj hT b o n c eb hf => ?_, fun j v xs hj hT b o n c eb hf => ?_⟩
  · obtain ⟨S', ⟨og', k1, k2⟩, k3⟩ := h j _ hj hT
    exact k3 b ((k2 b).2 (owns_block k1 b o n c eb)) ((e b).2 hf)
  · obtain ⟨S', ⟨k1, k2, _⟩, k3⟩ := h j _ hj hT
    exact k3 b (k2 b o n c eb) ((e b).2 hf)
theorem St.writer {w0 w : World} {Ts : List Thing} {T : Nat} {hi : Bool} {B : Nat} {l : List Bool} (h : St w0 w Ts) (i : Nat) (hti : Ts[i]? = some (tW T hi B l)) :
    ∃ og, IsW T hi w B og l ∧ (∀ b, b < w0.heap.size → ¬ FP B og b) ∧ OffW w Ts i B og ∧ ∀ l' w', WPost T hi w B og l' w' → St w0 w' (Ts.set i (tW T hi B l')) := by
  obtain ⟨S, ⟨og, h1, h2⟩, h3, h4, h5⟩ := h.at i _ hti
  refine ⟨og, h1, fun b hb hf => by have := h3 b ((h2 b).2 hf); omega, off_of h2 h4, fun l' w' ⟨og', k1, k2, k3⟩ => ?_⟩
  refine h5 w' _ (FP B og') (k3.mono fun k _ hk => (h2 k).2 hk) ⟨og', k1, fun _ => Iff.rfl⟩ (fun k hk => ?_)
  rcases hk with rfl | hk
  · exact Or.inl ((h2 k).2 (Or.inl rfl))
  · rcases k2 with e | ⟨g, e, hg⟩
    · exact Or.inl ((h2 k).2 (Or.inr (e ▸ hk)))
    · rw [e] at hk; cases hk; exact Or.inr hg
theorem St.reader {w0 w : World} {Ts : List Thing} {T : Nat} {B : Nat} {bs : List Nat} {p : Nat} (h : St w0 w Ts) (i : Nat) (hti : Ts[i]? = some (tR T B bs p)) :
    ∃ og, IsR T w B og bs p ∧ (∀ b, b < w0.heap.size → ¬ FP B og b) ∧ OffW w Ts i B og ∧ ∀ q w', RPost T w B og bs q w' → St w0 w' (Ts.set i (tR T B bs q)) := by
  obtain ⟨S, ⟨og, h1, h2⟩, h3, h4, h5⟩ := h.at i _ hti
  refine ⟨og, h1, fun b hb hf => by have := h3 b ((h2 b).2 hf); omega, off_of h2 h4, fun q w' ⟨k1, k3⟩ => ?_⟩
  exact h5 w' _ (FP B og) (k3.mono fun k _ hk => (h2 k).2 (Or.inl hk)) ⟨og, k1, fun _ => Iff.rfl⟩ (fun k hk => Or.inl ((h2 k).2 hk))
theorem St.new {w0 w w' : World} {Ts : List Thing} {ty : TypeId} {v : Value} {xs : List Value} {og : Option Nat} (h : St w0 w Ts) (x : Ext w w') (ho : Owns w' ty 1 v og xs.length xs) (hs : ∀ g, og = some g → w.heap.size ≤ g) : St w0 w' (Ts ++ [tO ty v xs]) :=
  h.add x _ (fun k => og = some k) ⟨og, ho, fun _ => Iff.rfl⟩ (fun k hk => hs k hk)
theorem St.readerNew {w0 w : World} {Ts : List Thing} {T : Nat} {B : Nat} {bs : List Nat} {p : Nat} (h : St w0 w Ts) (i : Nat) (hti : Ts[i]? = some (tR T B bs p)) :
    ∃ og, IsR T w B og bs p ∧ ∀ q w' ty v xs oo, RPost T w B og bs q w' → Owns w' ty 1 v oo xs.length xs → (∀ g, oo = some g → w.heap.size ≤ g) → St w0 w' (Ts.set i (tR T B bs q) ++ [tO ty v xs]) := by
  obtain ⟨e, Ss, h1, h2, h3⟩ := h
  have hil := getE_lt hti
  have hlt : ∀ i k, i < Ts.length → Ss i k → k < w.heap.size := fun i k hi hk => (Ts[i]).lt (h1 i _ (List.getElem?_eq_getElem hi)) k hk
  obtain ⟨og, r1, r2⟩ := h1 i _ hti
  refine ⟨og, r1, fun q w' ty v xs oo ⟨k1, k3⟩ ho hs => ?_⟩
  have ht : Touch (Ss i) w w' := k3.mono fun k _ hk => (r2 k).2 (Or.inl hk)
  refine ⟨e.touch ht (fun k hk hs => by have := h2 i k hil hs; omega), fun j => if j < Ts.length then Ss j else fun k => oo = some k, fun j U hj => ?_, fun j k hj hk => ?_, fun a b k ha hb hab hk hk2 => ?_⟩
  · show U.has w' (if j < Ts.length then Ss j else fun k => oo = some k)
    by_cases hjl : j < Ts.length
    · rw [if_pos hjl]
      rw [List.getElem?_append_left (by rwa [List.length_set])] at hj
      by_cases hji : j = i
      · subst hji
        rw [List.getElem?_set_self hil] at hj
        cases hj; exact ⟨og, k1, r2⟩
      · rw [List.getElem?_set_ne (fun e => hji e.symm)] at hj
        exact U.keep (h1 j U hj) ht (fun k hk => h3 j i k hjl hil hji hk)
    · rw [if_neg hjl]
      have hl := getE_lt hj
      simp only [List.length_append, List.length_set, List.length_cons, List.length_nil] at hl
      obtain rfl : j = Ts.length := by omega
      rw [List.getElem?_append_right (by rw [List.length_set]; exact Nat.le_refl _), List.length_set, Nat.sub_self] at hj
      cases hj; exact ⟨oo, ho, fun _ => Iff.rfl⟩
  · have hk : (if j < Ts.length then Ss j else fun k => oo = some k) k := hk
    by_cases hjl : j < Ts.length
    · rw [if_pos hjl] at hk; exact h2 j k hjl hk
    · rw [if_neg hjl] at hk; exact Nat.le_trans e.size (hs k hk)
  · have hk : (if a < Ts.length then Ss a else fun k => oo = some k) k := hk
    have hk2 : (if b < Ts.length then Ss b else fun k => oo = some k) k := hk2
    simp only [List.length_append, List.length_set, List.length_cons, List.length_nil] at ha hb
    by_cases ha' : a < Ts.length <;> by_cases hb' : b < Ts.length
    · rw [if_pos ha'] at hk; rw [if_pos hb'] at hk2; exact h3 a b k ha' hb' hab hk hk2
    · rw [if_pos ha'] at hk; rw [if_neg hb'] at hk2; have := hlt a k ha' hk; have := hs k hk2; omega
    · rw [if_neg ha'] at hk; rw [if_pos hb'] at hk2; have := hlt b k hb' hk2; have := hs k hk; omega
    · omega
/-- a row that is owned grows. -/
theorem St.grown {w0 w w' : World} {Ts : List Thing} {ty : TypeId} {v v' : Value} {xs ys : List Value} (h : St w0 w Ts) (j : Nat) (hj : Ts[j]? = some (tO ty v xs)) (hown' : w'.ownsRow 0 ty 1 v' (xs.length + ys.length) (xs ++ ys))
    (hgrow : w.grownBy w' v.ownBlock) (hat : v'.ownBlock = v.ownBlock ∨ v'.ownBlock = some w.heap.size) : St w0 w' (Ts.set j (tO ty v' (xs ++ ys))) := by
  obtain ⟨S, ⟨og, h1, h2⟩, h3, h4, h5⟩ := h.at j _ hj
  refine h5 w' _ (fun k => v'.ownBlock = some k) ((Touch.refl S w).grown hgrow (fun k e => Or.inl ((h2 k).2 (by rw [← h1.2]; exact e)))) ⟨_, ⟨by rw [List.length_append]; exact hown', rfl⟩, fun _ => Iff.rfl⟩ (fun k hk => ?_)
  rcases hat with e | e
  · exact Or.inl ((h2 k).2 (by rw [← h1.2, ← e]; exact hk))
  · rw [e] at hk; cases hk; exact Or.inr (Nat.le_refl _)
theorem St.app1 {w0 w w' : World} {Ts : List Thing} {ty : TypeId} {v v' y : Value} {xs : List Value} {o : Obj} {n : Nat} (h : St w0 w Ts) (j : Nat) (hj : Ts[j]? = some (tO ty v xs)) (hn : n = xs.length) (hown' : w'.ownsRow 0 ty 1 v' (n + 1) (xs ++ [y]))
    (hgrow : (w.alloc o).grownBy w' v.ownBlock) (hat : v'.ownBlock = v.ownBlock ∨ v'.ownBlock = some (w.heap.size + 1)) : St w0 w' (Ts.set j (tO ty v' (xs ++ [y]))) := by
  subst hn
  exact (h.step ((Ext.refl w).alloc o)).grown j hj hown' hgrow (by rw [World.size_alloc]; exact hat)
theorem St.snocB {w0 w w' : World} {Ts : List Thing} {v v' : Value} {bs : List Nat} {y : Nat} {o : Obj} {n : Nat} (h : St w0 w Ts) (j : Nat) (hj : Ts[j]? = some (tO 5 v (u8s bs))) (hn : n = bs.length) (hown' : w'.ownsRow 0 5 1 v' (n + 1) (u8s bs ++ [.int .u8 y]))
    (hgrow : (w.alloc o).grownBy w' v.ownBlock) (hat : v'.ownBlock = v.ownBlock ∨ v'.ownBlock = some (w.heap.size + 1)) : St w0 w' (Ts.set j (tO 5 v' (u8s (bs ++ [y])))) := by
  rw [u8s_append]
  exact h.app1 j hj (by rw [length_u8s, hn]) hown' hgrow hat
theorem St.rowB {w0 w : World} {Ts : List Thing} {v : Value} {bs : List Nat} {n : Nat} (h : St w0 w Ts) (j : Nat) (hj : Ts[j]? = some (tO 5 v (u8s bs))) (hn : bs.length = n) : w.ownsRow 0 5 1 v n (u8s bs) := by
  subst hn
  have := h.row j hj; rwa [length_u8s] at this
theorem St.shapeB {w0 w : World} {Ts : List Thing} {v : Value} {bs : List Nat} {n : Nat} (h : St w0 w Ts) (j : Nat) (hj : Ts[j]? = some (tO 5 v (u8s bs))) (hn : bs.length = n) : ∃ ao cap, v = .slice ao n cap := by
  subst hn
  have := h.shape j hj; rwa [length_u8s] at this
end Go.Proofs.Ytomnhfcckalkiaa
