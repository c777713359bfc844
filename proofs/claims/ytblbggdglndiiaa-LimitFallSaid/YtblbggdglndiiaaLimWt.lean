/- The program's lengths, plain: an order, how long, how much of all there is they take. -/
import Derived.Test.YtblbggdglndiiaaLimLen
import Derived.Test.YtblbggdglndiiaaLimPlain
import Derived.Test.YtblbggdglndiiaaPreLaw
namespace Go.Proofs.Ytblbggdglndiiaa
set_option linter.unusedVariables false

theorem ord_exists (F : List Nat) : ∃ P, IsOrd F P := by
  have dec : ∀ a b : Nat, Decidable (a = b ∨ Before F a b) := fun a b => by unfold Before; infer_instance
  let le : Nat → Nat → Bool := fun a b => @decide (a = b ∨ Before F a b) (dec a b)
  have htr : ∀ a b c : Nat, le a b = true → le b c = true → le a c = true := fun a b c h1 h2 => by
    simp only [le, decide_eq_true_iff] at *
    rcases h1 with rfl | h1
    · exact h2
    · rcases h2 with rfl | h2
      · exact Or.inr h1
      · exact Or.inr (h1.trans h2)
  have hto : ∀ a b : Nat, (le a b || le b a) = true := fun a b => by
    simp only [le, Bool.or_eq_true, decide_eq_true_iff]
    by_cases h : a = b
    · exact Or.inl (Or.inl h)
    · rcases Before.total (F := F) h with h | h
      · exact Or.inl (Or.inr h)
      · exact Or.inr (Or.inr h)
  have hs := List.pairwise_mergeSort htr hto (symsUp F F.length)
  have hp := List.mergeSort_perm (symsUp F F.length) le
  refine ⟨_, symsUp_ord hp ?_⟩
  have hnd : ((symsUp F F.length).mergeSort le).Nodup := hp.nodup_iff.2 (List.Pairwise.imp (fun h => by omega) (symsUp_rise F F.length))
  refine (hs.and hnd).imp fun {a b} h => ?_
  have h1 := h.1
  simp only [le, decide_eq_true_iff] at h1
  rcases h1 with h1 | h1
  · exact (h.2 h1).elim
  · exact h1
theorem lensP_get {F P : List Nat} {i s : Nat} (hs : s < F.length) : (lensP F P i).getD s 0 = lenP F P i s := by
  simp [lensP, List.getD, hs]
theorem lensP_len (F P : List Nat) (i : Nat) : (lensP F P i).length = F.length := by simp [lensP]
theorem lenP_nought {F P : List Nat} (h : IsOrd F P) (i : Nat) {s : Nat} (e : F.getD s 0 = 0) : lenP F P i s = 0 := by
  have hn : s ∉ P := fun hs => by have := ((h.mem s).1 hs).2; omega
  rw [lenP, lenInit, if_neg (fun h => hn h.2), lenOf, outAt_nought h _ e]
theorem lenP_le (F P : List Nat) (i s : Nat) : lenP F P i s ≤ i + 2 := by
  have h1 := lenInit_le P s
  have h2 := outAt_le P (takes (wtsOf F P) i (2 * P.length - 2)) s
  rw [takes_len] at h2
  rw [lenP, lenOf]
  omega
theorem lensP_le (F P : List Nat) (i : Nat) : ∀ x ∈ lensP F P i, x ≤ i + 2 := fun x hx => by
  obtain ⟨s, _, rfl⟩ := List.mem_map.1 hx
  exact lenP_le F P i s
theorem ord_symsUp {F P : List Nat} (h : IsOrd F P) : P.Perm (symsUp F F.length) := by
  refine (List.perm_ext_iff_of_nodup ?_ ?_).2 fun s => by rw [h.mem, symsUp_mem]
  · exact before_nodup h.up
  · exact (symsUp_rise F F.length).imp fun {a b} hab e => by omega
/-- the weight of lengths that are nought where the frequencies are. -/
theorem weightL_ord {F P : List Nat} (h : IsOrd F P) (f : Nat → Nat) (hz : ∀ s, s < F.length → (0 < f s ↔ 0 < F.getD s 0)) : weightL ((List.range F.length).map f) = (P.map fun s => 2 ^ (20 - f s)).sum := by
  rw [((ord_symsUp h).map _).sum_nat, weightL, List.map_map]
  rw [← sum_filter_zero ((fun n => if n = 0 then 0 else 2 ^ (20 - n)) ∘ f) (fun s => decide (0 < F.getD s 0)) (List.range F.length) (fun s hs hn => by
    have h1 : ¬ 0 < F.getD s 0 := by simpa using hn
    have h2 := hz s (List.mem_range.1 hs)
    show (if f s = 0 then 0 else _) = 0
    rw [if_pos (by omega)])]
  congr 1
  refine List.map_congr_left fun s hs => ?_
  have h3 := symsUp_mem.1 (show s ∈ symsUp F F.length from hs)
  have h2 := hz s h3.1
  show (if f s = 0 then 0 else _) = _
  rw [if_neg (by omega)]
theorem kraft_weight_map (L : Nat) (hL : L ≤ 20) (f : Nat → Nat) : ∀ P : List Nat, (∀ s ∈ P, f s ≤ L) → (P.map fun s => 2 ^ (20 - f s)).sum = 2 ^ (20 - L) * kraftL L (P.map f)
  | [], _ => by simp [kraftL]
  | p :: P, h => by
    have h1 := h p (List.mem_cons_self ..)
    rw [List.map_cons, List.sum_cons, List.map_cons, kraftL_cons, Nat.mul_add, ← Nat.pow_add, kraft_weight_map L hL f P (fun s hs => h s (List.mem_cons_of_mem _ hs))]
    congr 2
    omega
theorem weight_full {L k : Nat} (hL : L ≤ 20) : 2 ^ (20 - L) * k = 1048576 ↔ k = 2 ^ L := by
  have e : 1048576 = 2 ^ (20 - L) * 2 ^ L := by rw [← Nat.pow_add, show 20 - L + L = 20 by omega]
  rw [e]
  exact Nat.mul_left_cancel_iff (Nat.two_pow_pos _)
theorem map_getD (Ls : List Nat) : (List.range Ls.length).map (fun s => Ls.getD s 0) = Ls := by
  refine List.ext_getElem (by simp) fun i h1 h2 => ?_
  simp [List.getD, h2]
theorem kraftL_len (L : Nat) : ∀ ls : List Nat, ls.length ≤ kraftL L ls
  | [] => Nat.zero_le _
  | l :: ls => by
    rw [kraftL_cons, List.length_cons]
    have := kraftL_len L ls
    have := Nat.two_pow_pos (L - l)
    omega
theorem kraftL_nought (L : Nat) : ∀ ls : List Nat, 0 ∈ ls → 2 ^ L + ls.length ≤ kraftL L ls + 1
  | [], h => by cases h
  | l :: ls, h => by
    rw [kraftL_cons, List.length_cons]
    rcases List.mem_cons.1 h with e | h
    · have := kraftL_len L ls
      rw [← e, Nat.sub_zero]
      omega
    · have := kraftL_nought L ls h
      have := Nat.two_pow_pos (L - l)
      omega
/-- of at least two none is nought. -/
theorem full_pos {L : Nat} {ls : List Nat} (h : Full L ls) (h2 : 2 ≤ ls.length) : ∀ l ∈ ls, 0 < l := fun l hl => by
  apply Nat.pos_of_ne_zero
  rintro rfl
  have := kraftL_nought L ls hl
  rw [h.2] at this
  omega
/-- for two at least: the program's lengths are the work's. -/
theorem lenP_two {F P : List Nat} (h2 : 2 ≤ P.length) (i s : Nat) : lenP F P i s = lenOf F P i s := by
  rw [lenP, lenInit, if_neg (by omega), Nat.zero_add]
theorem lenOf_few {F P : List Nat} (h2 : P.length < 2) (i s : Nat) : lenOf F P i s = 0 := by
  rw [lenOf, show 2 * P.length - 2 = 0 by omega, takes_nought, outAt_noughts]
theorem lenInit_one (P : List Nat) (s : Nat) : lenInit P s ≤ 1 := by
  rw [lenInit]; split <;> omega
/-- lengths of symbols that have room: who occurs has a word; and they are not over. -/
theorem lensP_good {F P : List Nat} (h : IsOrd F P) {i : Nat} (hi : i + 1 ≤ 17) (hr : P.length ≤ 2 ^ (i + 1)) (hl : F.length ≤ 512) : (∀ s, s < F.length → (0 < (lensP F P i).getD s 0 ↔ 0 < F.getD s 0)) ∧ weightL (lensP F P i) ≤ 2 ^ 20 := by
  by_cases h2 : 2 ≤ P.length
  · have hf : Full (i + 1) (P.map (lenOf F P i)) := out_full h i hr (by omega)
    have hp := full_pos hf (by rw [List.length_map]; exact h2)
    have each : ∀ s, s < F.length → (0 < lenP F P i s ↔ 0 < F.getD s 0) ∧ lenP F P i s ≤ i + 1 := fun s hs => by
      by_cases h0 : 0 < F.getD s 0
      · have hm : lenOf F P i s ∈ P.map (lenOf F P i) := List.mem_map.2 ⟨s, (h.mem s).2 ⟨hs, h0⟩, rfl⟩
        rw [lenP_two h2]
        exact ⟨⟨fun _ => h0, fun _ => hp _ hm⟩, hf.1 _ hm⟩
      · rw [lenP_nought h i (by omega)]
        exact ⟨⟨fun h => by omega, fun h => absurd h h0⟩, Nat.zero_le _⟩
    refine ⟨fun s hs => by rw [lensP_get hs]; exact (each s hs).1, Nat.le_of_eq ?_⟩
    rw [lensP, weightL_ord h (lenP F P i) (fun s hs => (each s hs).1), kraft_weight_map (i + 1) (by omega) (lenP F P i) P (fun s hs => (each s ((h.mem s).1 hs).1).2)]
    rw [List.map_congr_left (fun s _ => lenP_two h2 i s)]
    exact (weight_full (by omega)).2 hf.2
  · have e : ∀ s, lenP F P i s = lenInit P s := fun s => by rw [lenP, lenOf_few (by omega), Nat.add_zero]
    have each : ∀ s, s < F.length → (0 < lenP F P i s ↔ 0 < F.getD s 0) := fun s hs => by
      rw [e]
      by_cases h0 : 0 < F.getD s 0
      · have hm := (h.mem s).2 ⟨hs, h0⟩
        have : P.length = 1 := by have := List.length_pos_of_mem hm; omega
        rw [lenInit, if_pos ⟨this, hm⟩]; omega
      · rw [lenInit, if_neg (fun h3 => h0 ((h.mem s).1 h3.2).2)]; omega
    refine ⟨fun s hs => by rw [lensP_get hs]; exact each s hs, ?_⟩
    rw [lensP, weightL_ord h (lenP F P i) each, kraft_weight_map 1 (by omega) (lenP F P i) P (fun s hs => by rw [e]; exact lenInit_one P s)]
    rcases P with _ | ⟨p, _ | ⟨q, P⟩⟩
    · simp [kraftL]
    · have h1 : 2 ^ (1 - lenP F [p] i p) ≤ 2 ^ 1 := Nat.pow_le_pow_right (by decide) (by omega)
      have h3 : kraftL 1 ([p].map (lenP F [p] i)) = 2 ^ (1 - lenP F [p] i p) := by simp [kraftL]
      rw [h3]
      exact Nat.le_trans (Nat.mul_le_mul_left _ h1) (by decide)
    · simp at h2
end Go.Proofs.Ytblbggdglndiiaa
