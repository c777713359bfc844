/- msb.Writer.bit: its walk. -/
import Derived.Test.YtaabmlnbadpfgaaWriter
import Derived.Test.YtaabmlnbadpfgaaRows
import Derived.StillTailTactics
import Derived.Outline
namespace Go.Proofs.Ytaabmlnbadpfgaa
open Go.RowKit

set_option maxHeartbeats 400000 in
set_option maxRecDepth 100000 in
theorem msb_bit_mid (B g len cap n ob t x : Nat) (w : World)
    (hc0 : w.cell? ⟨B, 0, none⟩ = some (.slice (some ⟨g, 0, none⟩) len cap)) (hc1 : w.cell? ⟨B, 1, none⟩ = some (.int .i64 n)) (hf1 : w.frozen? ⟨B, 1, none⟩ = false)
    (hgB : g ≠ B) (hcg : w.cell? ⟨g, n / 8, none⟩ = some (.int .u8 ob)) (hfg : w.frozen? ⟨g, n / 8, none⟩ = false) (hn : n / 8 < len) (hn8 : 0 < n % 8) (hlen : len < 2 ^ 40)
    (ht : bits .or .u8 (ob : Int) (IntKind.u8.wrap (IntKind.u8.wrap (bits .and .u32 (x : Int) 1) * 2 ^ (7 - (n : Int) % 8).toNat)) = (t : Int)) :
    Calls Try.prog 54 #[.pointer (some ⟨B, 0, none⟩), .int .u32 x] w fun e w' => e = .returned (.tuple #[]) ∧
      w' = ((w.drew.setCell ⟨g, n / 8, none⟩ (.int .u8 t)).setCell ⟨B, 1, none⟩ (.int .i64 (n + 1))) := by
  have h0 : ((n : Int) % 8 == 0) = false := by rw [beq_eq_false_iff_ne]; omega
  have k1 : IntKind.i64.wrap ((n : Int) / 8) = (n : Int) / 8 := IntWalk.i64_in _ (by omega)
  have k2 : ((n : Int) / 8).toNat = n / 8 := by omega
  have k3 : (0 : Int) ≤ (n : Int) / 8 := by omega
  have k4 : (n : Int) / 8 < (len : Int) := by omega
  have k5 : (n : Int).tmod 8 = (n : Int) % 8 := Int.tmod_eq_emod_of_nonneg (by omega)
  have k6 : (0 : Int) ≤ 7 - (n : Int) % 8 := by omega
  have k7 : IntKind.i64.wrap (7 - (n : Int) % 8) = 7 - (n : Int) % 8 := IntWalk.i64_in _ (by omega)
  go_enter Try.func54, Try.ntmps54
  go_wp2_with fail
  go_still_tail 23, (by kernel_rfl)
  clear k1 k2 k3 k4 k5 k6 k7
  go_wp2_with fail
  go_end0
  exact ⟨rfl, rfl⟩
theorem msb_info5 : (Try.prog.info? 5).map (fun i => (i.zero, i.size, i.bytes)) = some (some (.int .u8 0), 1, 1) := by kernel_rfl

set_option maxHeartbeats 800000 in
set_option maxRecDepth 100000 in
theorem msb_bit_new (B n t x : Nat) (v : Value) (og : Option Nat) (bs : List Nat) (w : World)
    (hB : w.heap[B]? = some (.cells #[v, .int .i64 n] 46 (0, 0))) (how : Owns w 5 1 v og bs.length (u8s bs)) (hgB : og ≠ some B)
    (hn : n / 8 = bs.length) (hn8 : n % 8 = 0) (hlen : n < 2 ^ 40)
    (ht : bits .or .u8 0 (IntKind.u8.wrap (IntKind.u8.wrap (bits .and .u32 (x : Int) 1) * 128)) = (t : Int)) :
    Calls Try.prog 54 #[.pointer (some ⟨B, 0, none⟩), .int .u32 x] w fun e w' => e = .returned (.tuple #[]) ∧
      ∃ g cap w1, w1.ownsRow 0 5 1 (.slice (some ⟨g, 0, none⟩) (bs.length + 1) cap) (bs.length + 1) (u8s bs ++ [.int .u8 0]) ∧ w.grownBy w1 og ∧ (og = some g ∨ g = w.heap.size + 1) ∧ g ≠ B ∧
        w' = ((((w1.setCell ⟨B, 0, none⟩ (.slice (some ⟨g, 0, none⟩) (bs.length + 1) cap)).setCell ⟨g, n / 8, none⟩ (.int .u8 t)).setCell ⟨B, 1, none⟩ (.int .i64 (n + 1)))).drew := by
  obtain ⟨i0, hi, hz0, hz1, hz2⟩ := info_parts msb_info5
  have hBlt := block_lt hB
  have hc0 : w.cell? ⟨B, 0, none⟩ = some v := by simp [World.cell?, hB]
  have hc1 : w.cell? ⟨B, 1, none⟩ = some (.int .i64 n) := by simp [World.cell?, hB]
  have h0 : ((n : Int) % 8 == 0) = true := by rw [beq_iff_eq]; omega
  have HB := Lib.hid hB; clear hB
  have HN := Lib.hid hn; clear hn
  have HE := Lib.hid hn8; clear hn8
  have HT := Lib.hid ht; clear ht
  go_enter Try.func54, Try.ntmps54
  go_wp2_with (at_builtin; refine wpList_append_own_at _ rfl (.tmp 14) (.tmp 15) 24 rfl 0 5 i0 (.int .u8 0) 1 1 Try.underlying24 hi hz0 hz1 hz2 rfl (by decide) v bs.length (u8s bs) rfl (how.1.alloc _) ⟨w.heap.size, 0, none⟩ 1 1 [.int .u8 0] rfl rfl (cell_one_new _ _ _) (by simp [Value.oneCell']) (by have := HN.out; unfold maxLen; omega) (by have := HN.out; omega) (by omega) ?_)
  intro v' w1 hown' hgrow _ hat
  obtain ⟨g, cap, rfl⟩ := ownsRow_form hown' (by omega)
  have hg1 : (w.alloc (.cells #[.int .u8 0] 5)).grownBy w1 og := how.2 ▸ hgrow
  have hg : w.grownBy w1 og := ⟨hg1.os, hg1.tape, hg1.output, Nat.le_trans (by simp) hg1.size, fun k hk hn => (hg1.block k (by simp; omega) hn).trans (Below.heap_alloc _ _ _ hk)⟩
  have hat' : og = some g ∨ g = w.heap.size + 1 := by
    rcases hat with h | h
    · exact Or.inl (by rw [← how.2, ← h]; rfl)
    · exact Or.inr (by simpa [Value.ownBlock] using h)
  have hgB' : g ≠ B := by
    rcases hat' with h | h
    · rintro rfl; exact hgB h
    · omega
  have hB1 := (hg.block B hBlt (fun e => hgB e.symm)).trans HB.out
  have hown : Owns w1 5 1 (.slice (some ⟨g, 0, none⟩) (bs.length + 1) cap) (some g) (bs.length + 1) (u8s bs ++ [.int .u8 0]) := ⟨hown', rfl⟩
  have hd1 : w1.cell? ⟨B, 1, none⟩ = some (.int .i64 n) := by simp [World.cell?, hB1]
  have hd0 : w1.cell? ⟨B, 0, none⟩ = some v := by simp [World.cell?, hB1]
  have hf1 : w1.frozen? ⟨B, 1, none⟩ = false := by simp [World.frozen?, hB1]
  have hf0 : w1.frozen? ⟨B, 0, none⟩ = false := by simp [World.frozen?, hB1]
  have hdg : w1.cell? ⟨g, n / 8, none⟩ = some (.int .u8 0) := hown.cell _ _ (by rw [HN.out]; simp [u8s])
  have hfg : w1.frozen? ⟨g, n / 8, none⟩ = false := hown.free _
  have h9 := HN.out
  have h10 := HE.out
  have k1 : IntKind.i64.wrap ((n : Int) / 8) = (n : Int) / 8 := IntWalk.i64_in _ (by omega)
  have k2 : ((n : Int) / 8).toNat = n / 8 := by omega
  have k3 : (0 : Int) ≤ (n : Int) / 8 := by omega
  have k4 : (n : Int) / 8 < (bs.length : Int) + 1 := by omega
  have k5 : (n : Int).tmod 8 = 0 := by rw [Int.tmod_eq_emod_of_nonneg (by omega)]; omega
  clear h9 h10 hgrow hown' hB1 hat hc0 hc1 hg1 how hi hz0 hz1 hz2
  have HO := Lib.hid hown; clear hown
  have HG := Lib.hid hg; clear hg
  have HA := Lib.hid hat'; clear hat'
  go_wp2_with fail
  have h11 := HT.out
  have k6 : IntKind.i64.wrap 7 = 7 := IntWalk.i64_in _ (by omega)
  have e0 : (w1.setCell ⟨B, 0, none⟩ (.slice (some ⟨g, 0, none⟩) (bs.length + 1) cap)).cell? ⟨B, 0, none⟩ = some (.slice (some ⟨g, 0, none⟩) (bs.length + 1) cap) := World.cell?_setCell_same' _ _ _ (by rw [hd0]; rfl)
  have e1 : (w1.setCell ⟨B, 0, none⟩ (.slice (some ⟨g, 0, none⟩) (bs.length + 1) cap)).cell? ⟨B, 1, none⟩ = some (.int .i64 n) := by rw [World.cell?_setCell_other _ _ _ _ (by simp)]; exact hd1
  have e2 : (w1.setCell ⟨B, 0, none⟩ (.slice (some ⟨g, 0, none⟩) (bs.length + 1) cap)).cell? ⟨g, n / 8, none⟩ = some (.int .u8 0) := by rw [World.cell?_setCell_other _ _ _ _ (by simp)]; exact hdg
  have e3 : (w1.setCell ⟨B, 0, none⟩ (.slice (some ⟨g, 0, none⟩) (bs.length + 1) cap)).frozen? ⟨B, 1, none⟩ = false := by rw [World.frozen?_setCell]; exact hf1
  have e4 : (w1.setCell ⟨B, 0, none⟩ (.slice (some ⟨g, 0, none⟩) (bs.length + 1) cap)).frozen? ⟨g, n / 8, none⟩ = false := by rw [World.frozen?_setCell]; exact hfg
  clear hd0 hd1 hdg hf0 hf1 hfg
  generalize hW : w1.setCell ⟨B, 0, none⟩ (.slice (some ⟨g, 0, none⟩) (bs.length + 1) cap) = W2 at *
  have HW := Lib.hid hW; clear hW
  go_still_tail 23, (by kernel_rfl)
  clear k1 k2 k3 k4 k5 h11 k6
  go_wp2_with fail
  go_end0
  refine ⟨rfl, g, cap, w1, HO.out.1, HG.out, HA.out, hgB', ?_⟩
  rw [HW.out]

/-- one bit is laid. -/
theorem msb_bit (B x : Nat) (og : Option Nat) (l : List Bool) (w : World) (h : IsW 46 true w B og l) (hl : l.length < 2 ^ 40) (hx : x < 2 ^ 32) :
    Calls Try.prog 54 #[.pointer (some ⟨B, 0, none⟩), .int .u32 x] w fun e w' => e = .returned (.tuple #[]) ∧ WPost 46 true w B og (l ++ [x.testBit 0]) w' := by
  obtain ⟨v, h1, h2, h3⟩ := id h
  by_cases h8 : l.length % 8 = 0
  · have hlen : (packs true l).length = l.length / 8 := by rw [length_packs]; omega
    have hn : (l.length + 7) / 8 = (packs true l).length := (length_packs _ _).symm
    rw [hn] at h2
    have ht := or_byte true l x 7 hx (by simp [sh, h8])
    rw [byteB_end _ _ _ (by omega)] at ht
    have ht' : bits .or .u8 0 (IntKind.u8.wrap (IntKind.u8.wrap (bits .and .u32 (x : Int) 1) * 128)) = (byteB true (l ++ [x.testBit 0]) (l.length / 8) : Int) := by
      rw [← ht]; simp
    refine (msb_bit_new B l.length (byteB true (l ++ [x.testBit 0]) (l.length / 8)) x v og (packs true l) w h1 h2 h3 (by omega) h8 hl ht').mono ?_
    rintro e w' ⟨rfl, g, cap, w1, ho, hg, hat, hgB, rfl⟩
    exact ⟨rfl, bit_new_post h h8 ho hg hat hgB⟩
  · rcases h2.form with ⟨_, _, h0, _⟩ | ⟨g, cap, cur, rfl, rfl, hh, hcap, _, _, htake⟩
    · omega
    · have hgB : g ≠ B := fun e => h3 (by rw [e])
      have ht := or_byte true l x (7 - (l.length : Int) % 8) hx (by simp only [sh, if_true]; omega)
      refine (msb_bit_mid B g ((l.length + 7) / 8) cap l.length (byteB true l (l.length / 8)) (byteB true (l ++ [x.testBit 0]) (l.length / 8)) x w (by simp [World.cell?, h1]) (by simp [World.cell?, h1]) (by simp [World.frozen?, h1]) hgB
        (h2.cell _ _ (by rw [getElem?_u8s _ _ (by rw [length_packs]; omega), getD_packs])) (h2.free _) (by omega) (by omega) (by omega) ht).mono ?_
      rintro e w' ⟨rfl, rfl⟩
      exact ⟨rfl, bit_mid_post h (by omega)⟩
/-- the same, of whatever number. -/
theorem msb_bit_int (B : Nat) (x : Int) (og : Option Nat) (l : List Bool) (w : World) (h : IsW 46 true w B og l) (hl : l.length < 2 ^ 40) (hx0 : 0 ≤ x) (hx : x < 2 ^ 32) :
    Calls Try.prog 54 #[.pointer (some ⟨B, 0, none⟩), .int .u32 x] w fun e w' => e = .returned (.tuple #[]) ∧ WPost 46 true w B og (l ++ [x.toNat.testBit 0]) w' := by
  obtain ⟨X, rfl⟩ := Int.eq_ofNat_of_zero_le hx0
  rw [Int.toNat_natCast]
  exact msb_bit B X og l w h hl (by omega)
end Go.Proofs.Ytaabmlnbadpfgaa
