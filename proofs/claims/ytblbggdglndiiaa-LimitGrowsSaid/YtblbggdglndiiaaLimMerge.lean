/- Two rising halves, turned about, plain: what is below comes before what is above. No program is named here. -/
import Derived.Test.YtblbggdglndiiaaLimRank
namespace Go.Proofs.Ytblbggdglndiiaa
set_option linter.unusedVariables false

theorem last_of {F : List Nat} : ∀ {l : List Nat} {x : Nat}, l.Pairwise (Before F) → x ∈ l → ∃ z, l.getLast? = some z ∧ (x = z ∨ Before F x z)
  | [], x, _, h => by cases h
  | [a], x, _, h => ⟨a, rfl, Or.inl (by simpa using h)⟩
  | a :: b :: l, x, hp, h => by
    rw [List.pairwise_cons] at hp
    obtain ⟨z, hz, _⟩ := last_of hp.2 (List.mem_cons_self (a := b) (l := l))
    have hl : (a :: b :: l).getLast? = some z := by rw [List.getLast?_cons_cons]; exact hz
    rcases List.mem_cons.1 h with rfl | h
    · exact ⟨z, hl, Or.inr (hp.1 z (List.mem_of_getLast? hz))⟩
    · obtain ⟨z2, hz2, h2⟩ := last_of hp.2 h
      rw [hz] at hz2
      cases hz2
      exact ⟨z, hl, h2⟩
theorem head_of {F : List Nat} {l : List Nat} {x : Nat} (hp : l.Pairwise (Before F)) (h : x ∈ l) : ∃ z, l.head? = some z ∧ (x = z ∨ Before F z x) := by
  cases l with
  | nil => cases h
  | cons a l =>
    refine ⟨a, rfl, ?_⟩
    rcases List.mem_cons.1 h with rfl | h
    · exact Or.inl rfl
    · exact Or.inr ((List.pairwise_cons.1 hp).1 x h)
/-- over a gap: the last of one before the first of the other. -/
theorem over_gap {F l m : List Nat} (hl : l.Pairwise (Before F)) (hm : m.Pairwise (Before F)) (h : ∀ x, l.getLast? = some x → ∀ y, m.head? = some y → Before F x y) : ∀ x ∈ l, ∀ y ∈ m, Before F x y := by
  intro x hx y hy
  obtain ⟨z, hz, h1⟩ := last_of hl hx
  obtain ⟨u, hu, h2⟩ := head_of hm hy
  have h3 := h z hz u hu
  rcases h1 with rfl | h1
  · rcases h2 with rfl | h2
    · exact h3
    · exact h3.trans h2
  · rcases h2 with rfl | h2
    · exact h1.trans h3
    · exact (h1.trans h3).trans h2
/-- both halves split so that what is below comes before what is above. -/
theorem split_before {F L1 L2 R1 R2 : List Nat} (hL : (L1 ++ L2).Pairwise (Before F)) (hR : (R1 ++ R2).Pairwise (Before F))
    (h1 : ∀ x, L1.getLast? = some x → ∀ y, R2.head? = some y → Before F x y) (h2 : ∀ x, R1.getLast? = some x → ∀ y, L2.head? = some y → Before F x y) : ∀ x ∈ L1 ++ R1, ∀ y ∈ L2 ++ R2, Before F x y := by
  obtain ⟨l1, l2, l3⟩ := List.pairwise_append.1 hL
  obtain ⟨r1, r2, r3⟩ := List.pairwise_append.1 hR
  intro x hx y hy
  rcases List.mem_append.1 hx with hx | hx <;> rcases List.mem_append.1 hy with hy | hy
  · exact l3 x hx y hy
  · exact over_gap l1 r2 h1 x hx y hy
  · exact over_gap r1 l2 h2 x hx y hy
  · exact r3 x hx y hy
/-- each part put in order: the whole is in order, and of the same. -/
theorem merged {F A B L1 L2 R1 R2 : List Nat} (h : ∀ x ∈ L1 ++ R1, ∀ y ∈ L2 ++ R2, Before F x y) (hA : A.Pairwise (Before F)) (hB : B.Pairwise (Before F)) (pA : A.Perm (L1 ++ R1)) (pB : B.Perm (L2 ++ R2)) :
    (A ++ B).Pairwise (Before F) ∧ (A ++ B).Perm ((L1 ++ L2) ++ (R1 ++ R2)) := by
  refine ⟨List.pairwise_append.2 ⟨hA, hB, fun x hx y hy => h x (pA.mem_iff.1 hx) y (pB.mem_iff.1 hy)⟩, (pA.append pB).trans ?_⟩
  rw [List.append_assoc, List.append_assoc]
  refine List.Perm.append_left _ ?_
  rw [← List.append_assoc, ← List.append_assoc]
  exact List.perm_append_comm.append_right _
/-- one put in where it belongs. -/
theorem put_in {F P1 P2 : List Nat} {x : Nat} (h : (P1 ++ P2).Pairwise (Before F)) (h2 : ∀ y ∈ P2, Before F x y) (h1 : ∀ z, P1.getLast? = some z → Before F z x) : (P1 ++ x :: P2).Pairwise (Before F) := by
  obtain ⟨p1, p2, p3⟩ := List.pairwise_append.1 h
  refine List.pairwise_append.2 ⟨p1, List.pairwise_cons.2 ⟨h2, p2⟩, fun z hz y hy => ?_⟩
  have hx : Before F z x := over_gap p1 (List.pairwise_singleton ..) (fun u hu v hv => by
    have : x = v := by simpa using hv
    exact this ▸ h1 u hu) z hz x (List.mem_singleton.2 rfl)
  rcases List.mem_cons.1 hy with rfl | hy
  · exact hx
  · exact hx.trans (h2 y hy)
/-- one step down: who is rarer goes before the one that lies ahead. -/
theorem put_step {F P1 P2 : List Nat} {x z : Nat} (h : ((P1 ++ [z]) ++ P2).Pairwise (Before F)) (h2 : ∀ y ∈ P2, Before F x y) (hx : F.getD x 0 < F.getD z 0) : (P1 ++ (z :: P2)).Pairwise (Before F) ∧ ∀ y ∈ z :: P2, Before F x y := by
  refine ⟨by simpa using h, fun y hy => ?_⟩
  rcases List.mem_cons.1 hy with rfl | hy
  · exact Or.inl hx
  · exact h2 y hy
/-- who is not rarer, and comes later, stays behind. -/
theorem put_stays {F : List Nat} {x z : Nat} (h : z < x) (hx : ¬ F.getD x 0 < F.getD z 0) : Before F z x := by
  simp only [Before]; omega
end Go.Proofs.Ytblbggdglndiiaa
