/- slices.Clone of bytes: its walk. -/
import Derived.Test.YtnmibfdpaamlgaaWriter
import Derived.Test.YtnmibfdpaamlgaaRows
import Derived.Outline
import Derived.WalkSpells
import Derived.Deep.DeepMust
namespace Go.Proofs.Ytnmibfdpaamlgaa
open Go.RowKit

/-- a value that reads as bytes: nil, or a row wherever it lies. -/
def View (w : World) (v : Value) (bs : List Nat) : Prop :=
  (v = .slice none 0 0 ∧ bs = []) ∨ ∃ a cap, v = .slice (some a) bs.length cap ∧ ∀ j u, (u8s bs)[j]? = some u → w.cell? (a.add j) = some u
theorem Owns.view {w : World} {e : TypeId} {v : Value} {og : Option Nat} {bs : List Nat} (h : Owns w e 1 v og bs.length (u8s bs)) : View w v bs := by
  rcases h.form with ⟨_, h1, h2, h3⟩ | ⟨g, cap, cur, rfl, rfl, hh, hcap, _, _, htake⟩
  · exact Or.inl ⟨h1, by simpa [u8s] using h3⟩
  · exact Or.inr ⟨_, cap, rfl, fun j u hu => h.1.cells (g := g) rfl j u hu⟩
theorem View.ext {w w' : World} {v : Value} {bs : List Nat} (h : View w v bs) (ht : Ext w w') : View w' v bs := by
  rcases h with h | ⟨a, cap, rfl, hc⟩
  · exact Or.inl h
  · exact Or.inr ⟨a, cap, rfl, fun j u hu => cell_touch ht (hc j u hu) (fun f => f)⟩
theorem View.shape {w : World} {v : Value} {bs : List Nat} (h : View w v bs) : ∃ ao cap, v = .slice ao bs.length cap := by
  rcases h with ⟨rfl, rfl⟩ | ⟨a, cap, rfl, _⟩
  · exact ⟨none, 0, rfl⟩
  · exact ⟨_, _, rfl⟩
/-- bytes in a block that has just been laid. -/
theorem view_new (w : World) (bs : List Nat) (e : TypeId) (fr : Nat × Nat) : View (w.alloc (.cells (u8s bs).toArray e fr)) (.slice (some ⟨w.heap.size, 0, none⟩) bs.length bs.length) bs := by
  refine Or.inr ⟨_, _, rfl, fun j u hu => ?_⟩
  have e2 : (⟨w.heap.size, 0, none⟩ : Addr).add j = ⟨w.heap.size, j, none⟩ := by unfold Addr.add; split <;> simp_all
  rw [e2, World.cell?, heap_alloc_new]
  simpa using hu
/-- what a clone is. -/
def CloneOf (w : World) (bs : List Nat) (e : Ending) (w' : World) : Prop :=
  ∃ v og, e = .returned v ∧ Owns w' 5 1 v og bs.length (u8s bs) ∧ (∀ g, og = some g → w.heap.size ≤ g) ∧ Touch (fun _ => False) w w'
theorem u8s_one (bs : List Nat) : ∀ u ∈ u8s bs, u.oneCell' = true := by
  intro u hu
  obtain ⟨b, _, rfl⟩ := List.mem_map.1 hu
  rfl
theorem info_u8 : (Try.prog.info? 5).map (fun i => (i.zero, i.size, i.bytes)) = some (some (.int .u8 0), 1, 1) := by kernel_rfl

theorem run_eql_slice_nil_any {P : Program} (w : World) (t e : TypeId) (a : Option Addr) (n c : Nat) (h : P.underlying t = some (.slice e)) :
    (binOp .eql t (.slice a n c) (.slice none 0 0)).run P w = .ok (.bool a.isNone) w := by
  simp only [binOp]
  simp [Op.equal, Op.maxDepth, Lib.run_equalIn_slice_nil w 9999 t e a n c 0 0 h]

set_option maxHeartbeats 400000 in
theorem clone_some (a : Addr) (cap n : Nat) (bs : List Nat) (w : World) (hn : bs.length = n) (hl : n ≤ 2 ^ 46) (hc : ∀ j u, (u8s bs)[j]? = some u → w.cell? (a.add j) = some u) :
    Calls Try.prog 50 #[.slice (some a) n cap] w (CloneOf w bs) := by
  obtain ⟨i0, hi, hz0, hz1, hz2⟩ := info_parts info_u8
  have HC := Lib.hid hc; clear hc
  have HN := Lib.hid hn; clear hn
  have he := run_eql_slice_nil_any (P := Try.prog) w 23 5 (some a) n cap Try.underlying23
  go_enter Try.func50, Try.ntmps50
  go_wp2_with (at_builtin; go_must (refine wpList_append_own_at _ rfl (.tmp 5) (.tmp 6) 23 rfl w.heap.size 5 i0 (.int .u8 0) 1 1 Try.underlying23 hi hz0 hz1 hz2 rfl (by decide) (.slice (some ⟨w.heap.size, 0, none⟩) 0 0) 0 [] rfl (World.ownsRow_made w #[] 0 (Nat.le_refl _) (by decide) rfl) a n cap (u8s bs) rfl (by simp [u8s, HN.out]) (fun j u hu => cell_alloc _ (HC.out j u hu)) (u8s_one bs) (by unfold maxLen; omega) (by omega) (by simp) ?_))
  intro v' w1 hown' hgrow _ hat
  have ho : Owns w1 5 1 v' v'.ownBlock bs.length (u8s bs) := ⟨by rw [HN.out]; simpa using ownsRow_zero hown', rfl⟩
  have hg : ∀ g, v'.ownBlock = some g → w.heap.size ≤ g := fun g h => (hown'.lt g h).1
  have ht : Touch (fun _ => False) w w1 := ((Touch.refl _ w).alloc _).grown hgrow (fun k h => Or.inr (by cases h; exact Nat.le_refl _))
  clear hown' hgrow hat he HC HN hi hz0 hz1 hz2
  go_wp2_with fail
  go_ret
  exact ⟨v', _, rfl, ho, hg, ht⟩
theorem clone_nil (w : World) : Calls Try.prog 50 #[.slice none 0 0] w (CloneOf w []) := by
  have he := run_eql_slice_nil_any (P := Try.prog) w 23 5 none 0 0 Try.underlying23
  go_enter Try.func50, Try.ntmps50
  go_wp2_with fail
  go_ret
  exact ⟨_, none, rfl, Owns.nil _ _ _, fun _ h => (by cases h), Touch.refl _ _⟩
/-- bytes are cloned. -/
theorem clone (v : Value) (bs : List Nat) (w : World) (hv : View w v bs) (hl : bs.length ≤ 2 ^ 46) : Calls Try.prog 50 #[v] w (CloneOf w bs) := by
  rcases hv with ⟨rfl, rfl⟩ | ⟨a, cap, rfl, hc⟩
  · exact clone_nil w
  · exact clone_some a cap bs.length bs w rfl hl hc
end Go.Proofs.Ytnmibfdpaamlgaa
