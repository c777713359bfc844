/- repeat.Pack whatever the lengths; packs(): the example. -/
import Derived.Test.YtclnmddlcjgfbaaRepUnpack
import Derived.Test.YtclnmddlcjgfbaaStr
namespace Go.Proofs.Ytclnmddlcjgfbaa
open Go.RowKit
set_option linter.unusedVariables false

theorem rep_pack_bad (sv : Value) (bs : List Nat) (w : World) (hv : ViewL w sv (u8s bs)) (h256 : ∀ b ∈ bs, b < 256) (hlen : bs.length ≤ 10000) (hok : okLens bs = false) :
    Calls Try.prog 9 #[sv] w fun e w' => e = .returned (.tuple #[.slice none 0 0, .int .i64 5]) ∧ w = w' := by
  have HOK := Lib.hid hok
  clear hok
  go_enter Try.func9, Try.ntmps9
  go_wp2_with fail
  refine (rep_contains _ bs _ hv h256 (by omega)).mono ?_
  rw [HOK.out]
  rintro e w' ⟨rfl, rfl⟩
  go_wp2_with fail
  go_ret2
  exact ⟨rfl, rfl⟩
theorem rep_pack (sv : Value) (bs : List Nat) (w : World) (hv : ViewL w sv (u8s bs)) (h256 : ∀ b ∈ bs, b < 256) (hlen : bs.length ≤ 10000) :
    Calls Try.prog 9 #[sv] w fun e w' => ∃ v, e = .returned (.tuple #[v, .int .i64 (packR bs).2]) ∧ RO 31 w (packR bs).1 v w' := by
  cases hok : okLens bs with
  | false =>
    refine (rep_pack_bad sv bs w hv h256 hlen hok).mono ?_
    rintro e w' ⟨rfl, rfl⟩
    exact ⟨.slice none 0 0, by rw [packR, hok]; rfl, by rw [packR, hok]; exact ⟨none, Owns.nil _ _ _, fun g e => (by cases e), Ext.refl _⟩⟩
  | true =>
    obtain ⟨xs, hxs⟩ := runs_are _ bs (Nat.le_refl _) hlen hok
    refine (rep_pack_ok sv bs w hv h256 hlen hok xs hxs).mono ?_
    rintro e w' ⟨v, rfl, h1, h2⟩
    exact ⟨v, by rw [packR, hok]; rfl, by rw [packR, hok]; exact ⟨v.ownBlock, ⟨ownsRow_zero h1, rfl⟩, fun g e => (h1.lt g e).1, Touch.of_below h2⟩⟩
theorem viewL_new (w : World) (bs : List Nat) (e : TypeId) (fr : Nat × Nat) : ViewL (w.alloc (.cells (u8s bs).toArray e fr)) (.slice (some ⟨w.heap.size, 0, none⟩) bs.length bs.length) (u8s bs) := by
  refine ⟨_, bs.length, by rw [length_u8s], by rw [length_u8s]; exact Nat.le_refl _, fun h => (by cases h), fun _ => ⟨w.heap.size, 0, rfl, fun j u hu => ?_⟩⟩
  rw [World.cell?, heap_alloc_new]
  simpa using hu
theorem viewS_new (w : World) (l : List (Nat × Nat)) (e : TypeId) (fr : Nat × Nat) : ViewS (w.alloc (.cells (scells l).toArray e fr)) (.slice (some ⟨w.heap.size, 0, none⟩) l.length l.length) l := by
  refine ⟨_, l.length, rfl, fun _ => ⟨w.heap.size, 0, rfl, fun i s hi => ?_⟩⟩
  have h := scells_get l i s hi
  constructor
  · rw [World.cell?, heap_alloc_new]; simpa using h.1
  · rw [World.cell?, heap_alloc_new]; simpa using h.2
theorem RO.viewS {e : TypeId} {w wr : World} {l : List (Nat × Nat)} {v : Value} (h : RO e w l v wr) : ViewS wr v l := h.choose_spec.1.viewS
theorem RO.toExt {e : TypeId} {w wr : World} {l : List (Nat × Nat)} {v : Value} (h : RO e w l v wr) : Ext w wr := h.choose_spec.2.2
theorem BO.toExt {w wr : World} {l : List Nat} {v : Value} (h : BO w l v wr) : Ext w wr := h.choose_spec.2.2
theorem BO.view {w wr : World} {l : List Nat} {v : Value} (h : BO w l v wr) : View wr v l := h.choose_spec.1.view
theorem BO.viewL {w wr : World} {l : List Nat} {v : Value} (h : BO w l v wr) : ViewL wr v (u8s l) := h.choose_spec.1.viewL
theorem packs_ex : packR [5, 5, 5, 5, 0, 0, 0, 7] = ([(5, 0), (16, 0), (17, 0), (7, 0)], 0) := by
  have h1 : ∀ k n, k ≤ 15 → 0 < n → restOf k n = signAt k n :: restOf k (n - timesOf (signAt k n)) := fun k n a b => restOf_step a b
  rw [packR, if_pos (by decide), packL_cons, show lead 5 [5, 5, 5, 0, 0, 0, 7] = 3 from by decide, show List.drop 3 [5, 5, 5, 0, 0, 0, 7] = [0, 0, 0, 7] from rfl, packL_cons, show lead 0 [0, 0, 7] = 2 from by decide, show List.drop 2 [0, 0, 7] = [7] from rfl, packL_cons, show lead 7 [] = 0 from rfl, List.drop_zero, packL_nil]
  simp only [signsOf]
  rw [if_neg (by decide), if_pos (by decide), if_neg (by decide), h1 5 _ (by decide) (by decide), h1 0 _ (by decide) (by decide)]
  rw [show signAt 5 (3 + 1 - 1) = (16, 0) from by decide, show signAt 0 (2 + 1) = (17, 0) from by decide, show 3 + 1 - 1 - timesOf (16, 0) = 0 from by decide, show 2 + 1 - timesOf (17, 0) = 0 from by decide, show 0 + 1 - 1 = 0 from rfl, restOf_zero, restOf_zero, restOf_zero]
  rfl
set_option maxHeartbeats 1000000 in
theorem rep_packs (w : World) : Calls Try.prog 12 #[] w fun e w' => e = .returned (.bool true) ∧ Ext w w' := by
  go_enter Try.func12, Try.ntmps12
  go_wp2_with fail
  refine (rep_pack _ [5, 5, 5, 5, 0, 0, 0, 7] _ (viewL_new w [5, 5, 5, 5, 0, 0, 0, 7] 5 (0, 0)) (by decide) (by decide)).mono ?_
  rw [packs_ex]
  rintro e w1 ⟨v, rfl, hro⟩
  obtain ⟨g, cap, rfl, hc1, hc2, hc3, hc4⟩ : ∃ g cap, v = .slice (some ⟨g, 0, none⟩) 4 cap ∧ w1.cell? ⟨g, 2, none⟩ = some (.int .u8 16) ∧ w1.cell? ⟨g, 3, none⟩ = some (.int .u8 0) ∧ w1.cell? ⟨g, 4, none⟩ = some (.int .u8 17) ∧ w1.cell? ⟨g, 5, none⟩ = some (.int .u8 0) := by
    have hs := hro.viewS
    obtain ⟨og, h1, _, _⟩ := hro
    rcases h1.form with ⟨_, _, h0, _⟩ | ⟨g, cap, cur, rfl, rfl, _⟩
    · simp at h0
    · have hc := h1.1.cells (g := g) rfl
      have c1 := hc 2 _ rfl
      have c2 := hc 3 _ rfl
      have c3 := hc 4 _ rfl
      have c4 := hc 5 _ rfl
      rw [add_lit] at c1 c2 c3 c4
      exact ⟨g, cap, rfl, c1, c2, c3, c4⟩
  have HX1 := Lib.hid hro.toExt
  clear hro
  go_wp2_with fail
  refine (rep_unpack _ [(5, 0), (16, 0), (17, 0), (7, 0)] 8 _ (viewS_new w1 [(5, 0), (16, 0), (17, 0), (7, 0)] 31 (0, 0)) (by decide) (by decide) (by decide) (by decide)).mono ?_
  rw [show unpR [(5, 0), (16, 0), (17, 0), (7, 0)] 8 = ([5, 5, 5, 5, 0, 0, 0, 7], 0) from by decide]
  rintro e w2 ⟨u, rfl, hbo⟩
  have hx2 : Ext w1 w2 := Touch.alloc_l hbo.toExt
  have d1 := cell_touch hx2 hc1 (fun f => f)
  have d2 := cell_touch hx2 hc2 (fun f => f)
  have d3 := cell_touch hx2 hc3 (fun f => f)
  have d4 := cell_touch hx2 hc4 (fun f => f)
  have hs := run_string_view (P := Try.prog) 22 9 5 hbo.view Try.underlying22 Try.underlying5 Try.underlying9
  have he : ((strOf [5, 5, 5, 5, 0, 0, 0, 7]).toList == [5, 5, 5, 5, 0, 0, 0, 7]) = true := by rw [strOf_toList]; decide
  obtain ⟨ua, ucap, rfl⟩ := hbo.view.shape
  have HX2 := Lib.hid (HX1.out.trans hx2)
  clear hbo hx2 hc1 hc2 hc3 hc4
  simp only [List.length_cons, List.length_nil, Nat.zero_add, Nat.reduceAdd] at hs
  go_wp2_with fail
  refine (rep_bits 18 _ (by decide)).mono ?_
  rintro e w3 ⟨rfl, rfl⟩
  go_wp2_with fail
  go_ret
  exact ⟨rfl, Touch.alloc_l HX2.out⟩
end Go.Proofs.Ytclnmddlcjgfbaa
