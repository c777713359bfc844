/- Blocks in order, plain: what the stable sort's passes keep. No program is named here. -/
import Derived.Test.YtblbggdglndiiaaLimMerge
namespace Go.Proofs.Ytblbggdglndiiaa
set_option linter.unusedVariables false

/-- blocks: what they were, and what they are. -/
abbrev Chs := List (List Nat × List Nat)
def fsts (G : Chs) : List Nat := (G.map Prod.fst).flatten
def snds (G : Chs) : List Nat := (G.map Prod.snd).flatten
theorem fsts_nil : fsts [] = [] := rfl
theorem snds_nil : snds [] = [] := rfl
theorem fsts_cons (c : List Nat × List Nat) (G : Chs) : fsts (c :: G) = c.1 ++ fsts G := by simp [fsts]
theorem snds_cons (c : List Nat × List Nat) (G : Chs) : snds (c :: G) = c.2 ++ snds G := by simp [snds]
theorem fsts_append (E G : Chs) : fsts (E ++ G) = fsts E ++ fsts G := by simp [fsts]
theorem snds_append (E G : Chs) : snds (E ++ G) = snds E ++ snds G := by simp [snds]
/-- each is in order, and of the same. -/
def OkC (F : List Nat) (G : Chs) : Prop := ∀ c ∈ G, c.2.Perm c.1 ∧ c.2.Pairwise (Before F) ∧ 0 < c.1.length
theorem OkC.nil (F : List Nat) : OkC F [] := fun c h => by cases h
theorem OkC.append {F : List Nat} {E G : Chs} (h : OkC F E) (h2 : OkC F G) : OkC F (E ++ G) := fun c hc => (List.mem_append.1 hc).elim (h c) (h2 c)
theorem OkC.one {F C0 C : List Nat} (h : C.Perm C0) (h2 : C.Pairwise (Before F)) (h3 : 0 < C0.length) : OkC F [(C0, C)] := fun c hc => by
  rw [List.mem_singleton.1 hc]; exact ⟨h, h2, h3⟩
theorem OkC.perm {F : List Nat} : ∀ {G : Chs}, OkC F G → (snds G).Perm (fsts G)
  | [], _ => List.Perm.refl _
  | c :: G, h => by
    rw [fsts_cons, snds_cons]
    exact (h c (List.mem_cons_self ..)).1.append (OkC.perm (fun d hd => h d (List.mem_cons_of_mem _ hd)))
theorem OkC.len {F : List Nat} {G : Chs} (h : OkC F G) : (snds G).length = (fsts G).length := h.perm.length_eq
/-- all of one length, but the last, that may be shorter. -/
def Shp (bs : Nat) : Chs → Prop
  | [] => True
  | [c] => c.1.length ≤ bs
  | c :: d :: G => c.1.length = bs ∧ Shp bs (d :: G)
/-- all of one length. -/
def FullB (bs : Nat) (E : Chs) : Prop := ∀ c ∈ E, c.1.length = bs
theorem FullB.nil (bs : Nat) : FullB bs [] := fun c h => by cases h
theorem FullB.snoc {bs : Nat} {E : Chs} {c : List Nat × List Nat} (h : FullB bs E) (h2 : c.1.length = bs) : FullB bs (E ++ [c]) := fun d hd => (List.mem_append.1 hd).elim (h d) (fun h => by rw [List.mem_singleton.1 h]; exact h2)
theorem FullB.shp {bs : Nat} : ∀ {E : Chs}, FullB bs E → Shp bs E
  | [], _ => trivial
  | [c], h => Nat.le_of_eq (h c (List.mem_cons_self ..))
  | c :: d :: G, h => ⟨h c (List.mem_cons_self ..), FullB.shp (E := d :: G) (fun e he => h e (List.mem_cons_of_mem _ he))⟩
theorem FullB.shp_last {bs : Nat} {c : List Nat × List Nat} (hc : c.1.length ≤ bs) : ∀ {E : Chs}, FullB bs E → Shp bs (E ++ [c])
  | [], _ => hc
  | [d], h => ⟨h d (List.mem_cons_self ..), hc⟩
  | d :: e :: G, h => ⟨h d (List.mem_cons_self ..), FullB.shp_last (E := e :: G) hc (fun e he => h e (List.mem_cons_of_mem _ he))⟩
theorem Shp.tail {bs : Nat} {c : List Nat × List Nat} : ∀ {G : Chs}, Shp bs (c :: G) → Shp bs G
  | [], _ => trivial
  | d :: G, h => h.2
/-- two whole ones lie ahead. -/
theorem Shp.two {F : List Nat} {bs : Nat} : ∀ {G : Chs}, Shp bs G → OkC F G → 2 * bs ≤ (fsts G).length → 0 < bs → ∃ c d G', G = c :: d :: G' ∧ c.1.length = bs ∧ d.1.length = bs ∧ Shp bs G'
  | [], _, _, h, hb => by simp [fsts] at h; omega
  | [c], h1, _, h, hb => by
    have : c.1.length ≤ bs := h1
    simp [fsts] at h
    omega
  | [c, d], h1, _, h, hb => by
    have a1 : c.1.length = bs := h1.1
    have a2 : d.1.length ≤ bs := h1.2
    simp [fsts] at h
    exact ⟨c, d, [], rfl, a1, by omega, trivial⟩
  | c :: d :: e :: G, h1, _, _, _ => ⟨c, d, e :: G, rfl, h1.1, h1.2.1, h1.2.2⟩
/-- one, and a shorter one. -/
theorem Shp.more {F : List Nat} {bs : Nat} : ∀ {G : Chs}, Shp bs G → OkC F G → bs < (fsts G).length → (fsts G).length < 2 * bs → ∃ c d, G = [c, d] ∧ c.1.length = bs ∧ d.1.length < bs
  | [], _, _, h, _ => by simp [fsts] at h
  | [c], h1, _, h, _ => by
    have : c.1.length ≤ bs := h1
    simp [fsts] at h
    omega
  | [c, d], h1, _, _, h => by
    have a1 : c.1.length = bs := h1.1
    simp [fsts] at h
    exact ⟨c, d, rfl, a1, by omega⟩
  | c :: d :: e :: G, h1, _, _, h => by
    have a1 : c.1.length = bs := h1.1
    have a2 : d.1.length = bs := h1.2.1
    simp [fsts] at h
    omega
/-- one at most. -/
theorem Shp.one {F : List Nat} {bs : Nat} : ∀ {G : Chs}, Shp bs G → OkC F G → (fsts G).length ≤ bs → G = [] ∨ ∃ c, G = [c]
  | [], _, _, _ => Or.inl rfl
  | [c], _, _, _ => Or.inr ⟨c, rfl⟩
  | c :: d :: G, h1, h2, h => by
    have a1 : c.1.length = bs := h1.1
    have a2 := (h2 d (List.mem_cons_of_mem _ (List.mem_cons_self ..))).2.2
    rw [fsts_cons, fsts_cons] at h
    simp at h
    omega
theorem Shp.sorted {F : List Nat} {bs : Nat} {G : Chs} (h1 : Shp bs G) (h2 : OkC F G) (h : (fsts G).length ≤ bs) : (snds G).Pairwise (Before F) := by
  rcases h1.one h2 h with rfl | ⟨c, rfl⟩
  · exact List.Pairwise.nil
  · rw [snds_cons, snds_nil, List.append_nil]; exact (h2 c (List.mem_cons_self ..)).2.1
/-- of rows that rise: what lies ahead is smaller. -/
theorem rise_apart {A C D B : List Nat} (h : (A ++ C ++ D ++ B).Pairwise (· < ·)) : (∀ x ∈ C, ∀ y ∈ D, x < y) ∧ C.Pairwise (· < ·) := by
  rw [List.append_assoc, List.append_assoc] at h
  obtain ⟨_, h2, _⟩ := List.pairwise_append.1 h
  obtain ⟨h3, _, h4⟩ := List.pairwise_append.1 h2
  exact ⟨fun x hx y hy => h4 x hx y (List.mem_append_left _ hy), h3⟩
end Go.Proofs.Ytblbggdglndiiaa
