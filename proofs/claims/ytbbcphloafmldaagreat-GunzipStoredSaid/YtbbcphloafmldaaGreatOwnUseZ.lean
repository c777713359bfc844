/- Helpers of XOwnReg's law; a row grown by what reads as a list, by a text: at the run. No program's function is named here. -/
import Derived.Lib.AppendStr
import Derived.Test.YtbbcphloafmldaaGreatOwnRegZ
import Derived.Test.YtbbcphloafmldaaGreatBnd3
namespace Go.Proofs.YtbbcphloafmldaaGreat
open Go.RowKit
set_option linter.unusedVariables false

theorem kn {D : Nat → Value → World → Blocks → Prop} {k k' : Nat} {v : Value} {w : World} {Ss : Nat → Blocks} (h : D k v w (Ss k)) (e : k = k') : D k' v w (Ss k') := e ▸ h
section
variable {P : Program} {l : List Oper} {w0 w : World} {T0 S : Blocks} {F : List (Nat × Value)} {W : List (Nat × Word)} {v c : Value} {x : Nat}
theorem PhiD.fact (h : PhiD F W x v w S) (hl : W.lookup x = none) (hf : F.lookup x = some c) : v = c := by
  unfold PhiD at h; rw [hl] at h; rw [hf] at h; exact h.1
theorem PhiD.word {T : Word} (h : PhiD F W x v w S) (hl : W.lookup x = some T) : T.has v w S := by
  unfold PhiD at h; rw [hl] at h; exact h
theorem PhiD.ofVal (hl : W.lookup x = none) (hf : F.lookup x = some c) : PhiD F W x c w (fun _ => False) := by
  unfold PhiD; rw [hl, hf]; exact ⟨rfl, fun _ f => f⟩
theorem PhiD.ofWord {T : Word} (hl : W.lookup x = some T) (h : T.has v w S) : PhiD F W x v w S := by
  unfold PhiD; rw [hl]; exact h
theorem handed_of {mem : List Nat} {i k : Nat} {Ss : Nat → Blocks} (x : Nat) (hx : ((keysOf l i).contains x && mem.contains x) = true) (h : Ss x k) : Handed l mem i Ss k := by
  simp only [Bool.and_eq_true, List.contains_iff_mem] at hx
  exact ⟨x, hx.1, hx.2, h⟩
theorem BaseD.one {D : Nat → Value → World → Blocks → Prop} {B : List Nat} {a : Act} (m : Nat) (S : Blocks) (hm : m ∈ B → D (l.length + m) (a.tmps.getD m undef) w0 S) (hS : ∀ k, S k → T0 k ∨ w0.heap.size ≤ k)
    (hr : ∀ t ∈ B, t ≠ m → D (l.length + t) (a.tmps.getD t undef) w0 (fun _ => False)) : BaseD l w0 T0 D B a := by
  refine ⟨fun t => if t = m then S else fun _ => False, fun t ht => ?_, fun t ht u hu hne k h1 h2 => ?_⟩
  · by_cases e : t = m
    · subst e
      show D _ _ _ (if t = t then S else _) ∧ ∀ k, (if t = t then S else _) k → _
      rw [if_pos rfl]; exact ⟨hm ht, hS⟩
    · show D _ _ _ (if t = m then S else _) ∧ ∀ k, (if t = m then S else _) k → _
      rw [if_neg e]; exact ⟨hr t ht e, fun k f => f.elim⟩
  · have a1 : t = m := Classical.byContradiction fun e => by
      have h1 : (if t = m then S else fun _ => False) k := h1
      rw [if_neg e] at h1; exact h1
    have a2 : u = m := Classical.byContradiction fun e => by
      have h2 : (if u = m then S else fun _ => False) k := h2
      rw [if_neg e] at h2; exact h2
    exact hne (a1.trans a2.symm)
end
/-- appended at the run, nil too. -/
theorem run_append_view {P : Program} (w : World) (base : Nat) (t ty e : TypeId) (i : TypeInfo) (z : Value) (bytes : Nat) (ht : P.underlying t = some (.slice e)) (hi : P.info? e = some i) (hz : i.zero = some z)
    (hsize : i.size = 1) (hby : i.bytes = bytes) (hzs : z.cells.size = 1)
    (v : Value) (n : Nat) (xs : List Value) (hown : w.ownsRow base e 1 v n xs)
    (xv : Value) (news : List Value) (hv : ViewL w xv news) (h1 : ∀ u ∈ news, u.oneCell' = true)
    (h63 : n + news.length ≤ maxLen) (hbytes : (n + news.length) * bytes ≤ 140737488355328) (hbase : base ≤ w.heap.size) :
    ∃ v' w', (Builtin.append_ #[t, t] ty #[v, xv]).run P w = .ok v' w' ∧ w'.ownsRow base e 1 v' (n + news.length) (xs ++ news) ∧ w.grownBy w' v.ownBlock ∧ (v'.ownBlock = v.ownBlock ∨ v'.ownBlock = some w.heap.size) := by
  obtain ⟨ao, cap, rfl, hcap, hnil, hc⟩ := hv
  cases ao with
  | none =>
    have hc0 := hnil rfl
    have hn0 : news.length = 0 := by omega
    have : news = [] := List.eq_nil_of_length_eq_zero hn0
    subst this
    subst hc0
    exact ⟨v, w, run_append_owned_none (P := P) w base t ty e i 1 ht hi v n xs hown, by simpa using hown, ⟨rfl, rfl, rfl, Nat.le_refl _, fun _ _ _ => rfl⟩, Or.inl rfl⟩
  | some ad =>
    have hcell : ∀ j u, news[j]? = some u → w.cell? (ad.add j) = some u := by
      intro j u hu
      have hj := (List.getElem?_eq_some_iff.1 hu).1
      obtain ⟨b, off, e, hcx⟩ := hc (by omega)
      cases e
      have e2 : (⟨b, off, none⟩ : Addr).add j = ⟨b, off + j, none⟩ := by unfold Addr.add; split <;> simp_all
      rw [e2]; exact hcx j u hu
    obtain ⟨v', w', k1, k2, k3, _, k5⟩ := run_append_own_at (P := P) (w := w) base t ty e i z 1 bytes ht hi hz hsize hby hzs (by decide) v n xs hown ad news.length cap news (by simp) hcell h1 h63 hbytes hbase
    exact ⟨v', w', k1, k2, k3, k5⟩
end Go.Proofs.YtbbcphloafmldaaGreat
