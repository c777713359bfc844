/- pressworkref04.Words: its walk. lsb.Writer.bit: its walk. lsb.Writer.Put: its walk. slices.Clone of bytes: its walk. lsb.Writer: Len, Align, Bytes, and Put with one contract. prefix.Table: Bits, PutLow: their walks. What a reader of bits is in memory. lsb.Reader: New, Align, At, Left, Get. lsb.Reader.Get: its walk. -/
import Derived.BigQuiet
import Derived.Test.YtbbcphloafmldaaBnd6
import Derived.Test.YtbbcphloafmldaaBnd7
import Derived.Test.YtbbcphloafmldaaBnd5
import Derived.Test.YtbbcphloafmldaaRows
import Derived.StillTailTactics
import Derived.Outline
import Derived.Deep.DeepMust
import Derived.Test.YtbbcphloafmldaaBnd1
import Derived.Test.YtbbcphloafmldaaBits
/-! pressworkref04.Words: its walk. -/
namespace Go.Proofs.Ytbbcphloafmldaa
open Go.RowKit
set_option linter.unusedVariables false

/-- the row g of words, so far. -/
structure WR (w : World) (g N : Nat) (s : List Nat × Nat) (wr : World) : Prop where
  own : Owns wr 38 1 (.slice (some ⟨g, 0, none⟩) N N) (some g) N (u32s s.1)
  ext : Ext w wr
  new : w.heap.size ≤ g
theorem WR.set {w wr : World} {g N : Nat} {s : List Nat × Nat} (h : WR w g N s wr) (i : Nat) (hi : i < N) (x a : Nat) : WR w g N (s.1.set i x, a) (wr.setCell ⟨g, i, none⟩ (.int .u32 x)) :=
  ⟨by rw [u32s_set]; exact h.own.set i _ hi, h.ext.touch ((Touch.refl (fun k => k = g) wr).setCell (Or.inl rfl) _) (fun k hk e => by have := h.new; omega), h.new⟩
theorem at_part (a k : Nat) (hk : k ≤ 20) (ha : a ≤ 2 ^ 20) : ((a : Int) + 2 ^ k % 4294967296) % 4294967296 = ((a + 2 ^ k : Nat) : Int) := by
  have hp : 2 ^ k ≤ 2 ^ 20 := Nat.pow_le_pow_right (by decide) hk
  rw [cast_pow]
  generalize 2 ^ k = P at *
  omega
theorem div_part (a k : Nat) : (a : Int) / 2 ^ k = ((a / 2 ^ k : Nat) : Int) := by simp
/-- what Words leaves. -/
def WordsP (w : World) (L : List Nat) (e : Ending) (w' : World) : Prop :=
  (errW L ≠ 0 ∧ e = .returned (.tuple #[.slice none 0 0, .int .i64 (errW L)]) ∧ w = w') ∨ (errW L = 0 ∧ ∃ v, e = .returned (.tuple #[v, .int .i64 0]) ∧ NewU w (wordsL L) v w')
end Go.Proofs.Ytbbcphloafmldaa
-- pruned by prune.py for gunzip

/-! lsb.Writer.bit: its walk. -/
namespace Go.Proofs.Ytbbcphloafmldaa
open Go.RowKit

theorem lsb_info5 : (Try.prog.info? 5).map (fun i => (i.zero, i.size, i.bytes)) = some (some (.int .u8 0), 1, 1) := by kernel_rfl

end Go.Proofs.Ytbbcphloafmldaa
-- pruned by prune.py for gunzip

/-! lsb.Writer.Put: its walk. -/
namespace Go.Proofs.Ytbbcphloafmldaa
open Go.RowKit

end Go.Proofs.Ytbbcphloafmldaa
-- pruned by prune.py for gunzip

/-! slices.Clone of bytes: its walk. -/
namespace Go.Proofs.Ytbbcphloafmldaa
open Go.RowKit

set_option maxHeartbeats 400000 in
theorem clone_some (a : Addr) (cap n : Nat) (bs : List Nat) (w : World) (hn : bs.length = n) (hl : n ≤ 2 ^ 46) (hc : ∀ j u, (u8s bs)[j]? = some u → w.cell? (a.add j) = some u) :
    Calls Try.prog 36 #[.slice (some a) n cap] w (CloneOf w bs) := by
  obtain ⟨i0, hi, hz0, hz1, hz2⟩ := info_parts info_u8
  have HC := Lib.hid hc; clear hc
  have HN := Lib.hid hn; clear hn
  have he := run_eql_slice_nil_any (P := Try.prog) w 22 5 (some a) n cap Try.underlying22
  go_enter Try.func36, Try.ntmps36
  go_wp2_with (at_builtin; go_must (refine wpList_append_own_at _ rfl (.tmp 5) (.tmp 6) 22 rfl w.heap.size 5 i0 (.int .u8 0) 1 1 Try.underlying22 hi hz0 hz1 hz2 rfl (by decide) (.slice (some ⟨w.heap.size, 0, none⟩) 0 0) 0 [] rfl (World.ownsRow_made w #[] 0 (Nat.le_refl _) (by decide) rfl) a n cap (u8s bs) rfl (by simp [u8s, HN.out]) (fun j u hu => cell_alloc _ (HC.out j u hu)) (u8s_one bs) (by unfold maxLen; omega) (by omega) (by simp) ?_))
  intro v' w1 hown' hgrow _ hat
  have ho : Owns w1 5 1 v' v'.ownBlock bs.length (u8s bs) := ⟨by rw [HN.out]; simpa using ownsRow_zero hown', rfl⟩
  have hg : ∀ g, v'.ownBlock = some g → w.heap.size ≤ g := fun g h => (hown'.lt g h).1
  have ht : Touch (fun _ => False) w w1 := ((Touch.refl _ w).alloc _).grown hgrow (fun k h => Or.inr (by cases h; exact Nat.le_refl _))
  clear hown' hgrow hat he HC HN hi hz0 hz1 hz2
  go_wp2_with fail
  go_ret
  exact ⟨v', _, rfl, ho, hg, ht⟩
theorem clone_nil (w : World) : Calls Try.prog 36 #[.slice none 0 0] w (CloneOf w []) := by
  have he := run_eql_slice_nil_any (P := Try.prog) w 22 5 none 0 0 Try.underlying22
  go_enter Try.func36, Try.ntmps36
  go_wp2_with fail
  go_ret
  exact ⟨_, none, rfl, Owns.nil _ _ _, fun _ h => (by cases h), Touch.refl _ _⟩
/-- bytes are cloned. -/
theorem clone (v : Value) (bs : List Nat) (w : World) (hv : View w v bs) (hl : bs.length ≤ 2 ^ 46) : Calls Try.prog 36 #[v] w (CloneOf w bs) := by
  rcases hv with ⟨rfl, rfl⟩ | ⟨a, cap, rfl, hc⟩
  · exact clone_nil w
  · exact clone_some a cap bs.length bs w rfl hl hc
end Go.Proofs.Ytbbcphloafmldaa

/-! lsb.Writer: Len, Align, Bytes, and Put with one contract. -/
namespace Go.Proofs.Ytbbcphloafmldaa
open Go.RowKit

end Go.Proofs.Ytbbcphloafmldaa
-- pruned by prune.py for gunzip

/-! prefix.Table: Bits, PutLow: their walks. -/
namespace Go.Proofs.Ytbbcphloafmldaa
open Go.RowKit
set_option linter.unusedVariables false

/-- how many bits a symbol's word has. -/
def bitsL (L : List Nat) (s : Int) : Nat := if 0 ≤ s ∧ s < L.length then L.getD s.toNat 0 else 0
theorem bitsOf_one (hi : Bool) (b : Bool) : bitsOf hi b.toNat 1 = [b] := by cases b <;> cases hi <;> rfl
theorem bitsL_pos {L : List Nat} {s : Int} (h : 0 < bitsL L s) : ∃ k : Nat, s = k ∧ k < L.length ∧ bitsL L s = L.getD k 0 := by
  by_cases hs : 0 ≤ s ∧ s < L.length
  · exact ⟨s.toNat, by omega, by omega, by rw [bitsL, if_pos hs]⟩
  · rw [bitsL, if_neg hs] at h; omega
theorem bitsL_le {L : List Nat} (hg : Good L) (s : Int) : bitsL L s ≤ 20 := by
  rcases Nat.eq_zero_or_pos (bitsL L s) with h | h
  · omega
  · obtain ⟨k, rfl, hk, e⟩ := bitsL_pos h
    rw [e, List.getD, List.getElem?_eq_getElem hk]; exact hg.1 _ (List.getElem_mem _)
/-- what a put answers. -/
def putErr (L : List Nat) (s : Int) : Int := if 0 < bitsL L s then 0 else 5
/-- what a put lays. -/
def rowZ (L : List Nat) (s : Int) : List Bool := if 0 < bitsL L s then rowOf L s.toNat else []

end Go.Proofs.Ytbbcphloafmldaa
-- pruned by prune.py for gunzip

/-! What a reader of bits is in memory. -/
namespace Go.Proofs.Ytbbcphloafmldaa
open Go.RowKit

/-- nothing but draws. -/
def Drew (w w' : World) : Prop := ∃ q, w' = w.drewN q
theorem Drew.touch {w w' : World} (h : Drew w w') (S : Nat → Prop) : Touch S w w' := by obtain ⟨q, rfl⟩ := h; exact (Touch.refl S w).drewN q
/-- block B is a reader (of type T) of the bytes bs, which lie in block og; it stands at bit i. -/
def IsR (T : Nat) (w : World) (B : Nat) (og : Option Nat) (bs : List Nat) (i : Nat) : Prop :=
  ∃ v, w.heap[B]? = some (.cells #[v, .int .i64 i] T (0, 0)) ∧ Owns w 5 1 v og bs.length (u8s bs) ∧ og ≠ some B
theorem IsR.keep {T : Nat} {w w' : World} {B : Nat} {og : Option Nat} {bs : List Nat} {i : Nat} {S : Nat → Prop} (h : IsR T w B og bs i) (ht : Touch S w w') (hB : ¬ S B) (hg : ∀ g, og = some g → ¬ S g) : IsR T w' B og bs i := by
  obtain ⟨v, h1, h2, h3⟩ := h
  exact ⟨v, ht.keep h1 hB, h2.keep ht hg, h3⟩
theorem IsR.lt {T : Nat} {w : World} {B : Nat} {og : Option Nat} {bs : List Nat} {i : Nat} (h : IsR T w B og bs i) : B < w.heap.size := block_lt h.choose_spec.1
theorem IsR.glt {T : Nat} {w : World} {B : Nat} {og : Option Nat} {bs : List Nat} {i : Nat} (h : IsR T w B og bs i) : ∀ g, og = some g → g < w.heap.size := by
  obtain ⟨v, _, h2, _⟩ := h; exact h2.lt
/-- what an act on a reader leaves. -/
def RPost (T : Nat) (w : World) (B : Nat) (og : Option Nat) (bs : List Nat) (i' : Nat) (w' : World) : Prop := IsR T w' B og bs i' ∧ Touch (fun k => k = B) w w'
theorem RPost.refl {T : Nat} {w : World} {B : Nat} {og : Option Nat} {bs : List Nat} {i : Nat} (h : IsR T w B og bs i) : RPost T w B og bs i w := ⟨h, Touch.refl _ _⟩
theorem RPost.drewN {T : Nat} {w w' : World} {B : Nat} {og : Option Nat} {bs : List Nat} {i : Nat} (h : RPost T w B og bs i w') (n : Nat) : RPost T w B og bs i (w'.drewN n) := ⟨h.1, h.2.drewN n⟩
theorem RPost.drew {T : Nat} {w w' : World} {B : Nat} {og : Option Nat} {bs : List Nat} {i : Nat} (h : RPost T w B og bs i w') : RPost T w B og bs i w'.drew := ⟨h.1, h.2.drew⟩
theorem RPost.step {T : Nat} {w w' w'' : World} {B : Nat} {og : Option Nat} {bs : List Nat} {i i' : Nat} (h : RPost T w B og bs i w') (k : RPost T w' B og bs i' w'') : RPost T w B og bs i' w'' := ⟨k.1, h.2.trans k.2 fun _ _ h => h⟩
theorem rset_post {T : Nat} {w : World} {B : Nat} {og : Option Nat} {bs : List Nat} {i : Nat} (h : IsR T w B og bs i) (i' : Nat) : RPost T w B og bs i' (w.setCell ⟨B, 1, none⟩ (.int .i64 i')) := by
  obtain ⟨v, h1, h2, h3⟩ := h
  have ht : Touch (fun k => k = B) w (w.setCell ⟨B, 1, none⟩ (.int .i64 i')) := (Touch.refl (fun k => k = B) w).setCell (Or.inl rfl) _
  refine ⟨⟨v, ?_, h2.keep ht (fun g e hk => h3 (by rw [e]; exact congrArg some hk)), h3⟩, ht⟩
  have e := heap_setCell_at (w := w) (a := ⟨B, 1, none⟩) (u := .int .i64 i') h1 rfl
  rw [e]; simp
/-- a new reader. -/
def NewR (T : Nat) (w : World) (bs : List Nat) (e : Ending) (w' : World) : Prop :=
  ∃ B og, e = .returned (.pointer (some ⟨B, 0, none⟩)) ∧ IsR T w' B og bs 0 ∧ w.heap.size ≤ B ∧ (∀ g, og = some g → w.heap.size ≤ g) ∧ Touch (fun _ => False) w w'
theorem new_post {T : Nat} {w w' : World} {bs : List Nat} {u : Value} {og : Option Nat} (h1 : Owns w' 5 1 u og bs.length (u8s bs)) (h2 : ∀ g, og = some g → w.heap.size ≤ g) (h3 : Touch (fun _ => False) w w') :
    NewR T w bs (.returned (.pointer (some ⟨w'.heap.size, 0, none⟩))) (w'.alloc (.cells #[u, .int .i64 0] T)) := by
  have ht : Touch (fun _ => False) w' (w'.alloc (.cells #[u, .int .i64 0] T)) := (Touch.refl _ w').alloc _
  refine ⟨w'.heap.size, og, rfl, ⟨u, ?_, h1.keep ht (fun _ _ h => h), fun e => ?_⟩, h3.size, h2, h3.trans ht (fun _ _ h => h)⟩
  · exact heap_alloc_new w' _
  · have := h1.lt _ e; omega
theorem IsR.ext {T : Nat} {w w' : World} {B : Nat} {og : Option Nat} {bs : List Nat} {i : Nat} (h : IsR T w B og bs i) (ht : Ext w w') : IsR T w' B og bs i := h.keep ht (fun f => f) (fun _ _ f => f)
theorem Drew.ext {w w' : World} (h : Drew w w') : Ext w w' := h.touch _
end Go.Proofs.Ytbbcphloafmldaa

/-! lsb.Reader: New, Align, At, Left, Get. -/
namespace Go.Proofs.Ytbbcphloafmldaa
open Go.RowKit

theorem lsb_new (v : Value) (bs : List Nat) (w : World) (hv : View w v bs) (hl : bs.length ≤ 2 ^ 46) :
    Calls Try.prog 24 #[v] w (NewR 64 w bs) := by
  have HV := Lib.hid hv; clear hv
  go_enter Try.func24, Try.ntmps24
  go_wp2_with fail
  refine (clone v bs w HV.out hl).mono ?_
  rintro e w' ⟨u, og', rfl, k1, k2, k3⟩
  obtain ⟨ao, cap, rfl⟩ := k1.shape
  have K1 := Lib.hid k1
  have K2 := Lib.hid k2
  have K3 := Lib.hid k3
  clear k1 k2 k3
  go_wp2_with fail
  go_ret
  exact new_post K1.out K2.out K3.out
theorem lsb_at (B : Nat) (og : Option Nat) (bs : List Nat) (i : Nat) (w : World) (hr : IsR 64 w B og bs i) :
    Calls Try.prog 31 #[.pointer (some ⟨B, 0, none⟩)] w fun e w' => e = .returned (.int .i64 i) ∧ w = w' := by
  obtain ⟨v, h1, _, _⟩ := hr
  have hc1 : w.cell? ⟨B, 1, none⟩ = some (.int .i64 i) := by simp [World.cell?, h1]
  clear h1
  go_enter Try.func31, Try.ntmps31
  go_wp2_with fail
  go_ret
  exact ⟨rfl, rfl⟩
theorem lsb_at_nil (w : World) : Calls Try.prog 31 #[.pointer none] w fun e w' => e = .returned (.int .i64 0) ∧ w = w' := by
  go_enter Try.func31, Try.ntmps31
  go_wp2_with fail
  go_ret
  exact ⟨rfl, rfl⟩
theorem lsb_left (B : Nat) (og : Option Nat) (bs : List Nat) (i : Nat) (w : World) (hr : IsR 64 w B og bs i) (hl : bs.length ≤ 2 ^ 46) (hi : i ≤ 8 * bs.length) :
    Calls Try.prog 69 #[.pointer (some ⟨B, 0, none⟩)] w fun e w' => e = .returned (.int .i64 (8 * bs.length - i)) ∧ Drew w w' := by
  obtain ⟨v, h1, h2, _⟩ := hr
  have hc0 : w.cell? ⟨B, 0, none⟩ = some v := by simp [World.cell?, h1]
  have hc1 : w.cell? ⟨B, 1, none⟩ = some (.int .i64 i) := by simp [World.cell?, h1]
  obtain ⟨ao, cap, rfl⟩ : ∃ ao cap, v = .slice ao bs.length cap := by
    rcases h2.form with ⟨_, rfl, h0, _⟩ | ⟨g, cap, _, _, rfl, _⟩
    · exact ⟨none, 0, by rw [h0]⟩
    · exact ⟨_, _, rfl⟩
  clear h1 h2
  have k1 : IntKind.i64.wrap (8 * (bs.length : Int)) = 8 * (bs.length : Int) := IntWalk.i64_in _ (by omega)
  have k2 : IntKind.i64.wrap (8 * (bs.length : Int) - i) = 8 * (bs.length : Int) - i := IntWalk.i64_in _ (by omega)
  go_enter Try.func69, Try.ntmps69
  go_wp2_with fail
  go_quiet (fail)
  go_wp2_with fail
  go_ret
  exact ⟨rfl, ⟨_, rfl⟩⟩
theorem lsb_left_nil (w : World) : Calls Try.prog 69 #[.pointer none] w fun e w' => e = .returned (.int .i64 0) ∧ w = w' := by
  go_enter Try.func69, Try.ntmps69
  go_wp2_with fail
  go_ret
  exact ⟨rfl, rfl⟩
theorem lsb_ralign (B : Nat) (og : Option Nat) (bs : List Nat) (i : Nat) (w : World) (hr : IsR 64 w B og bs i) (hl : bs.length ≤ 2 ^ 46) (hi : i ≤ 8 * bs.length) :
    Calls Try.prog 37 #[.pointer (some ⟨B, 0, none⟩)] w fun e w' => e = .returned (.tuple #[]) ∧ RPost 64 w B og bs ((i + 7) / 8 * 8) w' := by
  have HP := Lib.hid (rset_post hr ((i + 7) / 8 * 8))
  obtain ⟨v, h1, _, _⟩ := hr
  have hc1 : w.cell? ⟨B, 1, none⟩ = some (.int .i64 i) := by simp [World.cell?, h1]
  have hf1 : w.frozen? ⟨B, 1, none⟩ = false := by simp [World.frozen?, h1]
  clear h1
  go_enter Try.func37, Try.ntmps37
  go_wp2_with fail
  go_end0
  exact ⟨rfl, by simpa using HP.out⟩
theorem lsb_ralign_nil (w : World) : Calls Try.prog 37 #[.pointer none] w fun e w' => e = .returned (.tuple #[]) ∧ w = w' := by
  go_enter Try.func37, Try.ntmps37
  go_wp2_with fail
  go_end0
  exact ⟨rfl, rfl⟩
end Go.Proofs.Ytbbcphloafmldaa

/-! lsb.Reader.Get: its walk. -/
namespace Go.Proofs.Ytbbcphloafmldaa
open Go.RowKit

theorem lsb_get_nil (n : Int) (w : World) : Calls Try.prog 46 #[.pointer none, .int .i64 n] w fun e w' => e = .returned (.tuple #[.int .u32 0, .int .i64 8]) ∧ w = w' := by
  go_enter Try.func46, Try.ntmps46
  go_wp2_with fail
  go_ret2
  exact ⟨rfl, rfl⟩
set_option maxHeartbeats 400000 in
theorem lsb_get_neg (B : Nat) (n : Int) (w : World) (h : n < 0) : Calls Try.prog 46 #[.pointer (some ⟨B, 0, none⟩), .int .i64 n] w fun e w' => e = .returned (.tuple #[.int .u32 0, .int .i64 5]) ∧ w = w' := by
  go_enter Try.func46, Try.ntmps46
  go_wp2_with fail
  go_ret2
  exact ⟨rfl, rfl⟩
set_option maxHeartbeats 400000 in
theorem lsb_get_big (B : Nat) (n : Int) (w : World) (h : 32 < n) : Calls Try.prog 46 #[.pointer (some ⟨B, 0, none⟩), .int .i64 n] w fun e w' => e = .returned (.tuple #[.int .u32 0, .int .i64 5]) ∧ w = w' := by
  have h0 : ¬ n < 0 := by omega
  go_enter Try.func46, Try.ntmps46
  go_wp2_with fail
  go_ret2
  exact ⟨rfl, rfl⟩
set_option maxHeartbeats 400000 in
theorem lsb_get_far (B : Nat) (og : Option Nat) (bs : List Nat) (i n : Nat) (w : World) (hr : IsR 64 w B og bs i) (hl : bs.length ≤ 2 ^ 46) (hi : i ≤ 8 * bs.length) (hn : n ≤ 32) (h : 8 * bs.length < i + n) :
    Calls Try.prog 46 #[.pointer (some ⟨B, 0, none⟩), .int .i64 n] w fun e w' => e = .returned (.tuple #[.int .u32 0, .int .i64 2]) ∧ Drew w w' := by
  have h0 : ¬ (n : Int) < 0 := by omega
  have h1 : ¬ (32 : Int) < (n : Int) := by omega
  have h2 : 8 * (bs.length : Int) - i < (n : Int) := by omega
  go_enter Try.func46, Try.ntmps46
  go_wp2_with fail
  refine (lsb_left B og bs i w hr hl hi).mono ?_
  rintro e w' ⟨rfl, q, rfl⟩
  clear hr
  go_wp2_with fail
  go_ret2
  exact ⟨rfl, q, rfl⟩
set_option maxHeartbeats 800000 in
theorem lsb_get_ok (B : Nat) (og : Option Nat) (bs : List Nat) (i n : Nat) (w : World) (hr : IsR 64 w B og bs i) (hl : bs.length ≤ 2 ^ 46) (hb : ∀ b ∈ bs, b < 256) (hn : n ≤ 32) (h : i + n ≤ 8 * bs.length) :
    Calls Try.prog 46 #[.pointer (some ⟨B, 0, none⟩), .int .i64 n] w fun e w' => e = .returned (.tuple #[.int .u32 (numOf false (bitsAt false bs i n)), .int .i64 0]) ∧ RPost 64 w B og bs (i + n) w' := by
  have h0 : ¬ (n : Int) < 0 := by omega
  have h1 : ¬ (32 : Int) < (n : Int) := by omega
  have h2 : ¬ 8 * (bs.length : Int) - i < (n : Int) := by omega
  have HR := Lib.hid hr
  clear hr
  have HB := Lib.hid hb; clear hb
  go_enter Try.func46, Try.ntmps46
  go_wp2_with fail
  refine (lsb_left B og bs i w HR.out hl (by omega)).mono ?_
  rintro e w' ⟨rfl, q, rfl⟩
  go_wp2_with fail
  go_loopw [6, 25] (fun v i' wr => ∃ k : Nat, k ≤ n ∧ i' = .int .i64 k ∧ v = .int .u32 (numOf false (bitsAt false bs i k)) ∧ RPost 64 w B og bs (i + k) wr) (fun _ i' _ => n - (intOf i').toNat)
  case atStart => exact ⟨0, Nat.zero_le _, rfl, rfl, by simpa using (RPost.refl HR.out).drewN q⟩
  case round =>
    obtain ⟨k, hk, rfl, rfl, hp⟩ := hrel
    by_cases hlt : k < n
    · obtain ⟨⟨v, c1, c2, c3⟩, ht⟩ := id hp
      obtain ⟨p, hpk⟩ : ∃ p, p = i + k := ⟨_, rfl⟩
      rw [← hpk] at hp c1
      rcases c2.form with ⟨_, _, hz, _⟩ | ⟨g, cap, cur, rfl, rfl, _⟩
      · omega
      have hc0 : wr.cell? ⟨B, 0, none⟩ = some (.slice (some ⟨g, 0, none⟩) bs.length cap) := by simp [World.cell?, c1]
      have hc1 : wr.cell? ⟨B, 1, none⟩ = some (.int .i64 p) := by simp [World.cell?, c1]
      have hf1 : wr.frozen? ⟨B, 1, none⟩ = false := by simp [World.frozen?, c1]
      obtain ⟨ob, hob⟩ : ∃ ob, ob = bs.getD (p / 8) 0 := ⟨_, rfl⟩
      have hcg : wr.cell? ⟨g, p / 8, none⟩ = some (.int .u8 ob) := c2.cell _ _ (by rw [getElem?_u8s _ _ (by omega), hob])
      have k1 : IntKind.i64.wrap ((p : Int) / 8) = (p : Int) / 8 := IntWalk.i64_in _ (by omega)
      have k2 : ((p : Int) / 8).toNat = p / 8 := by omega
      have k3 : (0 : Int) ≤ (p : Int) / 8 := by omega
      have k4 : (p : Int) / 8 < (bs.length : Int) := by omega
      have k5 : (p : Int).tmod 8 = (p : Int) % 8 := Int.tmod_eq_emod_of_nonneg (by omega)
      have k6 : (0 : Int) ≤ (p : Int) % 8 := by omega
      have hp50 : p < 2 ^ 50 := by omega
      have HP := Lib.hid hp; clear hp
      have HPK := Lib.hid hpk; clear hpk
      have HOB := Lib.hid hob; clear hob
      clear c1 c2 ht
      obtain ⟨acc, hacc⟩ : ∃ acc, acc = numOf false (bitsAt false bs i k) := ⟨_, rfl⟩
      rw [← hacc]
      have HACC := Lib.hid hacc; clear hacc
      go_wp2_with fail
      go_quiet (fail)
      clear k1 k2 k3 k4 k5 k6
      go_wp2_with fail
      have hob : ob < 256 := HOB.out ▸ getD_lt HB.out _
      have hstep := low_step ob p k (bitsAt false bs i k) hob (length_bitsAt _ _ _ _) (by omega)
      rw [← HACC.out] at hstep
      go_roundw
      case rel =>
        refine ⟨k + 1, by omega, by go_num, ?_, ?_⟩
        · rw [hstep, bitsAt_succ, rbit, ← HPK.out, ← HOB.out]
        · have hs := rset_post HP.out.1 (p + 1)
          have e : i + (k + 1) = p + 1 := by have := HPK.out; omega
          rw [e]
          exact RPost.step (HP.out.drewN nq) (rset_post (HP.out.drewN nq).1 (p + 1))
      case measure => simp [intOf]; omega
    · go_wp2_with fail
      go_ret2
      obtain rfl : k = n := by omega
      exact ⟨rfl, hp⟩
/-- whatever number of bits. -/
theorem lsb_get (B : Nat) (og : Option Nat) (bs : List Nat) (i : Nat) (n : Int) (w : World) (hr : IsR 64 w B og bs i) (hl : bs.length ≤ 2 ^ 46) (hb : ∀ b ∈ bs, b < 256) (hi : i ≤ 8 * bs.length) :
    Calls Try.prog 46 #[.pointer (some ⟨B, 0, none⟩), .int .i64 n] w fun e w' => e = .returned (.tuple #[.int .u32 (getR false bs i n).1, .int .i64 (getR false bs i n).2.2]) ∧ RPost 64 w B og bs (getR false bs i n).2.1 w' := by
  by_cases h0 : n < 0
  · have hm : getR false bs i n = (0, i, 5) := by rw [getR, if_pos (Or.inl h0)]
    rw [hm]
    refine (lsb_get_neg B n w h0).mono ?_
    rintro e w' ⟨rfl, rfl⟩
    exact ⟨rfl, RPost.refl hr⟩
  by_cases h1 : 32 < n
  · have hm : getR false bs i n = (0, i, 5) := by rw [getR, if_pos (Or.inr h1)]
    rw [hm]
    refine (lsb_get_big B n w h1).mono ?_
    rintro e w' ⟨rfl, rfl⟩
    exact ⟨rfl, RPost.refl hr⟩
  obtain ⟨N, rfl⟩ := Int.eq_ofNat_of_zero_le (show 0 ≤ n by omega)
  by_cases h2 : 8 * bs.length < i + N
  · have hm : getR false bs i N = (0, i, 2) := by rw [getR, if_neg (by omega), if_pos (by omega)]
    rw [hm]
    refine (lsb_get_far B og bs i N w hr hl hi (by omega) h2).mono ?_
    rintro e w' ⟨rfl, q, rfl⟩
    exact ⟨rfl, (RPost.refl hr).drewN q⟩
  · have hm : getR false bs i N = (numOf false (bitsAt false bs i N), i + N, 0) := by rw [getR, if_neg (by omega), if_neg (by omega), Int.toNat_natCast]
    rw [hm]
    exact lsb_get_ok B og bs i N w hr hl hb (by omega) (by omega)
end Go.Proofs.Ytbbcphloafmldaa
