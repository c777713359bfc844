/- A stream's repetition, and its stored block: their walks. A stream's stored block: its walk. A range over a function whose iterator turns blocks of its own (the box of a variable that it keeps): the law. T: the blocks that the iterator turns; they hold cells and lay there ahead of the loop. No program's function is named here. -/
import Derived.Test.YtbbcphloafmldaaGreatBnd12
import Derived.RangeFuncWrites
/-! A stream's repetition, and its stored block: their walks. -/
namespace Go.Proofs.YtbbcphloafmldaaGreat
open Go.RowKit
set_option linter.unusedVariables false

theorem IPost.pre {w w1 w2 : World} {B R : Nat} {og : Option Nat} {bs : List Nat} {p2 : Nat} {oo : Option Nat} {f2 : List Nat} {keep : Nat} (hx : Ext w w1) (k : IPost w1 B R og bs p2 oo f2 keep w2) : IPost w B R og bs p2 oo f2 keep w2 := by
  obtain ⟨o2, k1, k2, k3⟩ := k
  refine ⟨o2, k1, ?_, hx.trans' k3⟩
  rcases k2 with k2 | ⟨g, k2, hg⟩
  · exact Or.inl k2
  · exact Or.inr ⟨g, k2, Nat.le_trans hx.size hg⟩
def InfE (w : World) (B R : Nat) (og : Option Nat) (bs : List Nat) (oo : Option Nat) (kp : Nat) (r : Option (Nat × List Nat)) (e : Ending) (w' : World) : Prop :=
  (∃ q o, r = some (q, o) ∧ e = .returned (.tuple #[]) ∧ IPost w B R og bs q oo o kp w') ∨ (r = none ∧ e = .panicked [formF] ∧ Touch (FPI B R oo) w w')
def RpI (w : World) (B R : Nat) (og : Option Nat) (bs : List Nat) (p : Nat) (oo : Option Nat) (full : List Nat) (kp d n : Nat) (vi : Value) (wr : World) : Prop := ∃ i : Nat, vi = .int .i64 i ∧ i ≤ n ∧ IPost w B R og bs p oo (copyL full d i) kp wr
set_option maxRecDepth 100000 in
set_option maxHeartbeats 2000000 in
theorem inf_repeat (B R : Nat) (og : Option Nat) (bs : List Nat) (p : Nat) (oo : Option Nat) (full : List Nat) (kp n d : Nat) (w : World) (h : ISt w B R og bs p oo full kp) (hd : 1 ≤ d) (hd2 : d ≤ 2 ^ 40) (hn : n ≤ 1000) (hf : full.length ≤ 2 ^ 44) :
    Calls Tryz.prog 107 #[.pointer (some ⟨B, 0, none⟩), .int .i64 n, .int .i64 d] w (InfE w B R og bs oo kp (if full.length < d then none else some (p, copyL full d n))) := by
  obtain ⟨c0, c2, c3, hfz⟩ := h.cells
  obtain ⟨N, hN⟩ : ∃ N, N = full.length := ⟨_, rfl⟩
  rw [← hN] at c3 hf ⊢
  obtain ⟨r, hr⟩ : ∃ r, r = if N < d then none else some (p, copyL full d n) := ⟨_, rfl⟩
  rw [← hr]
  have HRR := Lib.hid hr
  clear hr
  by_cases hlt : N < d
  · have hz : (N : Int) < (d : Int) := by omega
    have HL := Lib.hid hlt
    clear h hfz hN hlt hd hd2 hn hf
    go_enter Tryz.func107, Tryz.ntmps107
    go_wp2_with fail
    exact ⟨rfl, Or.inr ⟨by rw [HRR.out, if_pos HL.out], rfl, Touch.refl _ _⟩⟩
  · have hz : ¬ (N : Int) < (d : Int) := by omega
    have HL := Lib.hid hlt
    have HH := Lib.hid h
    have HN := Lib.hid (show N = full.length ∧ 1 ≤ d ∧ d ≤ N ∧ n ≤ 1000 ∧ N ≤ 2 ^ 44 from ⟨hN, hd, by omega, hn, hf⟩)
    clear h hfz hN hlt hd hd2 hn hf
    go_enter Tryz.func107, Tryz.ntmps107
    go_wp2_with fail
    clear c0 c2 c3
    go_loopw [6, 15] (fun _ vi wr => RpI w B R og bs p oo full kp d n vi wr) (fun _ vi _ => n - (intOf vi).toNat)
    case atStart => exact ⟨0, rfl, Nat.zero_le _, IPost.refl HH.out⟩
    case round =>
      obtain ⟨i, rfl, hin, hip⟩ := hrel
      have HI := Lib.hid (And.intro hin hip)
      by_cases hlt : i < n
      · have hltz : (i : Int) < (n : Int) := by omega
        have HLT := Lib.hid hlt
        obtain ⟨o1, k1, k2, k3⟩ := hip
        obtain ⟨c0, c2, c3, hfz⟩ := k1.cells
        obtain ⟨M, hM⟩ : ∃ M, M = (copyL full d i).length := ⟨_, rfl⟩
        have hMv : M = N + i := by rw [hM, length_copyL, ← HN.out.1]
        rw [← hM] at c3
        have hN1 := HN.out
        have w1 : IntKind.i64.wrap ((i : Int) + 1) = ((i + 1 : Nat) : Int) := by rw [show (i : Int) + 1 = ((i + 1 : Nat) : Int) by omega]; exact IntWalk.i64_in _ (by omega)
        obtain ⟨y, hy⟩ : ∃ y, y = (copyL full d i).getD (M - d) 0 := ⟨_, rfl⟩
        have HM := Lib.hid (show M = (copyL full d i).length ∧ M = N + i ∧ copyL full d (i + 1) = copyL full d i ++ [y] from ⟨hM, hMv, by rw [copyL, hy, hM]⟩)
        have HK := Lib.hid (show ISt wr B R og bs p o1 (copyL full d i) kp ∧ Near oo o1 w ∧ Touch (FPI B R oo) w wr from ⟨k1, k2, k3⟩)
        by_cases hk : M < kp
        · have hkz : (M : Int) < (kp : Int) := by omega
          obtain ⟨ov, b1, b2⟩ := k1.box
          have htk : (copyL full d i).take kp = copyL full d i := List.take_of_length_le (by omega)
          rw [htk, ← hM] at b2
          obtain ⟨oa, oc, rfl⟩ := b2.shape
          have hMd : M - d < M := by omega
          obtain ⟨bb, ob, e, _, hcc⟩ := viewL_cells b2.viewL (by rw [length_u8s]; omega)
          subst e
          have cy : wr.cell? ⟨bb, ob + (M - d), none⟩ = some (.int .u8 y) := by
            rw [hy]; exact hcc _ _ (getElem?_u8s _ _ (by omega))
          have cov : wr.cell? ⟨B, 1, none⟩ = some (.slice (some ⟨bb, ob, none⟩) M oc) := by simp [World.cell?, b1]
          have ws : IntKind.i64.wrap ((M - d : Nat) : Int) = ((M - d : Nat) : Int) := IntWalk.i64_in _ (by omega)
          have wsn : (M : Int) - (d : Int) = ((M - d : Nat) : Int) := by omega
          obtain ⟨m, hm⟩ : ∃ m, m = M - d := ⟨_, rfl⟩
          rw [← hm] at cy ws wsn hMd
          have hMz : (m : Int) < (M : Int) := by omega
          have HP := Lib.hid (fun wx (hx : Ext wr wx) => inf_put B R og bs p o1 (copyL full d i) kp y y wx (HK.out.1.ext hx) (by rw [← HM.out.1]; have := HM.out; have := HLT.out; omega) (fun _ => rfl))
          clear hin hlt k1 k2 k3 hfz hM hMv hN1 hy hk b1 b2 htk hMd hcc hm
          go_wp2_with fail
          go_quiet (fail)
          go_wp2_with fail
          go_quiet (fail)
          go_wp2_with fail
          refine (HP.out _ (by first | exact ((Ext.refl wr).drewN _).drewN _ | exact (Ext.refl wr).drewN _)).mono ?_
          rintro e w5 ⟨rfl, hp⟩
          have HF := Lib.hid hp
          clear hp
          go_wp2_with fail
          go_roundw
          case rel => exact ⟨i + 1, rfl, HLT.out, by rw [HM.out.2.2]; exact IPost.step HK.out.2.1 HK.out.2.2 (IPost.pre (by first | exact ((Ext.refl wr).drewN _).drewN _ | exact (Ext.refl wr).drewN _) HF.out)⟩
          case measure => simp [intOf]; have := HLT.out; omega
        · have hkz : ¬ (M : Int) < (kp : Int) := by omega
          have HP := Lib.hid (fun wx (hx : Ext wr wx) => inf_put B R og bs p o1 (copyL full d i) kp 0 y wx (HK.out.1.ext hx) (by rw [← HM.out.1]; have := HM.out; have := HLT.out; omega) (fun h => by rw [← HM.out.1] at h; omega))
          clear hin hlt k1 k2 k3 hfz hM hMv hN1 hy hk
          go_wp2_with fail
          go_quiet (fail)
          go_wp2_with fail
          refine (HP.out _ ((Ext.refl wr).drewN _)).mono ?_
          rintro e w5 ⟨rfl, hp⟩
          have HF := Lib.hid hp
          clear hp
          go_wp2_with fail
          go_roundw
          case rel => exact ⟨i + 1, rfl, HLT.out, by rw [HM.out.2.2]; exact IPost.step HK.out.2.1 HK.out.2.2 (IPost.pre ((Ext.refl wr).drewN _) HF.out)⟩
          case measure => simp [intOf]; have := HLT.out; omega
      · have hltz : ¬ (i : Int) < (n : Int) := by omega
        obtain rfl : i = n := by have := HI.out.1; omega
        clear hin hip hlt
        go_wp2_with fail
        go_end0
        exact Or.inl ⟨p, _, by rw [HRR.out, if_neg HL.out], rfl, HI.out.2⟩
end Go.Proofs.YtbbcphloafmldaaGreat

/-! A stream's stored block: its walk. -/
namespace Go.Proofs.YtbbcphloafmldaaGreat
open Go.RowKit
set_option linter.unusedVariables false

theorem xor_16 (n : Nat) (h : n < 65536) : n ^^^ 65535 = 65535 - n := by
  have h1 : ((BitVec.ofNat 16 n) ^^^ (BitVec.allOnes 16)).toNat = (~~~ (BitVec.ofNat 16 n)).toNat := by rw [BitVec.xor_allOnes]
  rw [BitVec.toNat_xor, BitVec.toNat_not, BitVec.toNat_allOnes, BitVec.toNat_ofNat, Nat.mod_eq_of_lt (by omega)] at h1
  simpa using h1
theorem ofInt_64 (n : Nat) (h : n < 65536) : (BitVec.ofInt 64 (n : Int)).toNat = n := by
  rw [BitVec.toNat_ofInt]
  omega
theorem xor_low (n : Nat) (h : n < 65536) : bits .xor .i64 (n : Int) 65535 = ((65535 - n : Nat) : Int) := by
  show IntKind.i64.wrap ((BitVec.ofInt 64 (n : Int) ^^^ BitVec.ofInt 64 ((65535 : Nat) : Int)).toNat : Int) = _
  rw [BitVec.toNat_xor, ofInt_64 n h, ofInt_64 65535 (by decide), xor_16 n h]
  exact IntWalk.i64_in _ (by omega)
/-- stored bytes. -/
def stB (bs : List Nat) (q i : Nat) : List Nat := (List.range i).map fun i => numOf false (xAt (ofBits false bs) (q + 8 * i) 8)
theorem stB_succ (bs : List Nat) (q i : Nat) : stB bs q (i + 1) = stB bs q i ++ [numOf false (xAt (ofBits false bs) (q + 8 * i) 8)] := by simp [stB, List.range_succ]
theorem stB_len (bs : List Nat) (q i : Nat) : (stB bs q i).length = i := by simp [stB]
def SdI (w : World) (B R : Nat) (og : Option Nat) (bs : List Nat) (q : Nat) (oo : Option Nat) (full : List Nat) (kp n : Nat) (vi : Value) (wr : World) : Prop := ∃ i : Nat, vi = .int .i64 i ∧ i ≤ n ∧ q + 8 * i ≤ 8 * bs.length ∧ IPost w B R og bs (q + 8 * i) oo (full ++ stB bs q i) kp wr
set_option maxRecDepth 100000 in
set_option maxHeartbeats 2000000 in
theorem inf_stored (B R : Nat) (og : Option Nat) (bs : List Nat) (p : Nat) (oo : Option Nat) (full : List Nat) (kp : Nat) (w : World) (h : ISt w B R og bs p oo full kp) (hl : bs.length ≤ 2 ^ 30) (hb : ∀ b ∈ bs, b < 256) (hp : p ≤ 8 * bs.length) (hf : full.length ≤ 2 ^ 44) :
    Calls Tryz.prog 56 #[.pointer (some ⟨B, 0, none⟩)] w (InfE w B R og bs oo kp (storedF (ofBits false bs) p full)) := by
  obtain ⟨c0, _, _, _⟩ := h.cells
  obtain ⟨r, hr⟩ : ∃ r, r = storedF (ofBits false bs) p full := ⟨_, rfl⟩
  rw [← hr]
  obtain ⟨p1, hp1⟩ : ∃ p1, p1 = (p + 7) / 8 * 8 := ⟨_, rfl⟩
  have hp1l : p1 ≤ 8 * bs.length := by omega
  have HAL := Lib.hid (lsb_ralign R og bs p w h.rdr (by omega) hp)
  rw [← hp1] at HAL
  have HH := Lib.hid h
  have HB := Lib.hid (show bs.length ≤ 2 ^ 30 ∧ (∀ b ∈ bs, b < 256) ∧ p1 ≤ 8 * bs.length ∧ full.length ≤ 2 ^ 44 from ⟨hl, hb, hp1l, hf⟩)
  have hlen : (ofBits false bs).length = 8 * bs.length := length_ofBits _ _
  have HR := Lib.hid hr
  have HP1 := Lib.hid hp1
  have HLEN := Lib.hid hlen
  clear h hr hp1 hp1l hl hb hp hf hlen
  go_enter Tryz.func56, Tryz.ntmps56
  go_wp2_with fail
  refine HAL.out.mono ?_
  rintro e w1 ⟨rfl, hr1⟩
  obtain ⟨o1, k1, k2, k3⟩ := HH.out.reader hr1
  have H1 := Lib.hid (show ISt w1 B R og bs p1 o1 full kp ∧ Near oo o1 w ∧ Touch (FPI B R oo) w w1 from ⟨k1, k2, k3⟩)
  clear hr1 k1 k2 k3 c0
  go_wp2_with fail
  refine (inf_bits B R og bs p1 16 o1 full kp w1 H1.out.1 HB.out.1 HB.out.2.1 HB.out.2.2.1 (by omega)).mono ?_
  rintro e w2 (⟨n, q, hrd, rfl, hip⟩ | ⟨hrd, rfl, ht⟩)
  rotate_left
  · exact ⟨rfl, Or.inr ⟨by rw [HR.out, storedF, ← HP1.out, hrd], rfl, H1.out.2.2.trans ht (fun k hk hh => H1.out.2.1.fpi B R k hk hh)⟩⟩
  obtain ⟨o2, k1, k2, k3⟩ := hip
  have hrl := rd_lt hrd
  dsimp only at hrl
  have hn16 : n < 65536 := by
    have := numOf_low_lt (xAt (ofBits false bs) p1 16)
    have hx : (xAt (ofBits false bs) p1 16).length ≤ 16 := by unfold xAt; rw [List.length_take]; omega
    have h2 : 2 ^ (xAt (ofBits false bs) p1 16).length ≤ 2 ^ 16 := Nat.pow_le_pow_right (by decide) hx
    rw [hrl.2.2]; omega
  have H2 := Lib.hid (show ISt w2 B R og bs q o2 full kp ∧ Near oo o2 w ∧ Touch (FPI B R oo) w w2 ∧ rd (ofBits false bs) p1 16 = some (n, q) ∧ q ≤ 8 * bs.length from ⟨k1, H1.out.2.1.trans k2 H1.out.2.2.size, H1.out.2.2.trans k3 (fun k hk hh => H1.out.2.1.fpi B R k hk hh), hrd, by have := HLEN.out; omega⟩)
  clear hrd k1 k2 k3 hrl H1
  go_wp2_with fail
  refine (inf_bits B R og bs q 16 o2 full kp w2 H2.out.1 HB.out.1 HB.out.2.1 H2.out.2.2.2.2 (by omega)).mono ?_
  rintro e w3 (⟨m, q2, hrd, rfl, hip⟩ | ⟨hrd, rfl, ht⟩)
  rotate_left
  · exact ⟨rfl, Or.inr ⟨by rw [HR.out, storedF, ← HP1.out, H2.out.2.2.2.1]; simp only; rw [hrd], rfl, H2.out.2.2.1.trans ht (fun k hk hh => H2.out.2.1.fpi B R k hk hh)⟩⟩
  obtain ⟨o3, k1, k2, k3⟩ := hip
  have hrl := rd_lt hrd
  dsimp only at hrl
  have hx := xor_low n hn16
  have H3 := Lib.hid (show ISt w3 B R og bs q2 o3 full kp ∧ Near oo o3 w ∧ Touch (FPI B R oo) w w3 ∧ rd (ofBits false bs) q 16 = some (m, q2) ∧ q2 ≤ 8 * bs.length ∧ n < 65536 from ⟨k1, H2.out.2.1.trans k2 H2.out.2.2.1.size, H2.out.2.2.1.trans k3 (fun k hk hh => H2.out.2.1.fpi B R k hk hh), hrd, by have := HLEN.out; omega, hn16⟩)
  have HSF := Lib.hid (show r = if m ≠ 65535 - n then none else if q2 + 8 * n ≤ (ofBits false bs).length then some (q2 + 8 * n, full ++ stB bs q2 n) else none from by
    rw [HR.out, storedF, ← HP1.out, H2.out.2.2.2.1]; simp only; rw [hrd]; rfl)
  clear hrd k1 k2 k3 hrl
  by_cases hm : m = 65535 - n
  · have hmz : ((m : Int) == ((65535 - n : Nat) : Int)) = true := by rw [beq_iff_eq]; omega
    have hmz2 : ((m : Int) != ((65535 - n : Nat) : Int)) = false := by rw [bne_eq_false_iff_eq]; omega
    have HM := Lib.hid hm
    clear hm
    go_wp2_with fail
    clear hx hmz hmz2
    go_loopw [17] (fun vi wr => SdI w B R og bs q2 oo full kp n vi wr) (fun vi _ => n - (intOf vi).toNat)
    case atStart => exact ⟨0, rfl, Nat.zero_le _, by simpa using H3.out.2.2.2.2.1, by rw [Nat.mul_zero, Nat.add_zero, stB, List.range_zero, List.map_nil, List.append_nil]; exact ⟨o3, H3.out.1, H3.out.2.1, H3.out.2.2.1⟩⟩
    case round =>
      obtain ⟨i, rfl, hin, hq8, o4, k1, k2, k3⟩ := hrel
      have HI := Lib.hid (show ISt wr B R og bs (q2 + 8 * i) o4 (full ++ stB bs q2 i) kp ∧ Near oo o4 w ∧ Touch (FPI B R oo) w wr ∧ q2 + 8 * i ≤ 8 * bs.length ∧ i ≤ n from ⟨k1, k2, k3, hq8, hin⟩)
      clear k1 k2 k3 hq8
      by_cases hlt : i < n
      · have hltz : (i : Int) < (n : Int) := by omega
        have hi16 : (i : Int) ≤ 65536 := by omega
        have HLT := Lib.hid hlt
        clear hin hlt
        go_wp2_with fail
        refine (inf_bits B R og bs (q2 + 8 * i) 8 o4 (full ++ stB bs q2 i) kp wr HI.out.1 HB.out.1 HB.out.2.1 HI.out.2.2.2.1 (by omega)).mono ?_
        rintro e w5 (⟨c, q, hrd, rfl, hip⟩ | ⟨hrd, rfl, ht⟩)
        rotate_left
        · refine ⟨rfl, Or.inr ⟨?_, rfl, HI.out.2.2.1.trans ht (fun k hk hh => HI.out.2.1.fpi B R k hk hh)⟩⟩
          rw [HSF.out, if_neg (by rw [HM.out]; exact fun h => h rfl), if_neg]
          unfold rd at hrd
          split at hrd
          · cases hrd
          · have := HLT.out; omega
        obtain ⟨o5, k1, k2, k3⟩ := hip
        have hrl := rd_lt hrd
        dsimp only at hrl
        have hc8 : c < 256 := by
          have := numOf_low_lt (xAt (ofBits false bs) (q2 + 8 * i) 8)
          have hx : (xAt (ofBits false bs) (q2 + 8 * i) 8).length ≤ 8 := by unfold xAt; rw [List.length_take]; omega
          have h2 : 2 ^ (xAt (ofBits false bs) (q2 + 8 * i) 8).length ≤ 2 ^ 8 := Nat.pow_le_pow_right (by decide) hx
          rw [hrl.2.2]; omega
        have wc : IntKind.u8.wrap (c : Int) = (c : Int) := IntWalk.u8_in _ (by omega)
        have wi : IntKind.i64.wrap ((i : Int) + 1) = ((i + 1 : Nat) : Int) := by rw [show (i : Int) + 1 = ((i + 1 : Nat) : Int) by omega]; exact IntWalk.i64_in _ (by omega)
        have H5 := Lib.hid (show ISt w5 B R og bs q o5 (full ++ stB bs q2 i) kp ∧ Near oo o5 w ∧ Touch (FPI B R oo) w w5 ∧ q = q2 + 8 * (i + 1) ∧ q ≤ 8 * bs.length ∧ stB bs q2 (i + 1) = stB bs q2 i ++ [c] from ⟨k1, HI.out.2.1.trans k2 HI.out.2.2.1.size, HI.out.2.2.1.trans k3 (fun k hk hh => HI.out.2.1.fpi B R k hk hh), by omega, by have := HLEN.out; omega, by rw [stB_succ, ← hrl.2.2]⟩)
        have HPUT := Lib.hid (inf_put B R og bs q o5 (full ++ stB bs q2 i) kp c c w5 H5.out.1 (by rw [List.length_append, stB_len]; have := HB.out.2.2.2; have := HLT.out; have := H3.out.2.2.2.2.2; omega) (fun _ => rfl))
        clear hrd k1 k2 k3 hrl hc8
        go_wp2_with fail
        refine HPUT.out.mono ?_
        rintro e w6 ⟨rfl, hp⟩
        have HP := Lib.hid hp
        clear hp
        go_wp2_with fail
        go_roundw
        case rel => exact ⟨i + 1, rfl, HLT.out, by rw [← H5.out.2.2.2.1]; exact H5.out.2.2.2.2.1, by rw [← H5.out.2.2.2.1, H5.out.2.2.2.2.2, ← List.append_assoc]; exact IPost.step H5.out.2.1 H5.out.2.2.1 HP.out⟩
        case measure => simp [intOf]; have := HLT.out; omega
      · have hltz : ¬ (i : Int) < (n : Int) := by omega
        obtain rfl : i = n := by omega
        clear hin hlt
        go_wp2_with fail
        go_end0
        exact Or.inl ⟨_, _, by rw [HSF.out, if_neg (by rw [HM.out]; exact fun h => h rfl), if_pos (by rw [HLEN.out]; exact HI.out.2.2.2.1)], rfl, ⟨o4, HI.out.1, HI.out.2.1, HI.out.2.2.1⟩⟩
  · have hmz : ((m : Int) == ((65535 - n : Nat) : Int)) = false := by rw [beq_eq_false_iff_ne]; omega
    have hmz2 : ((m : Int) != ((65535 - n : Nat) : Int)) = true := by rw [bne_iff_ne]; omega
    have HM := Lib.hid hm
    clear hm
    go_wp2_with fail
    exact ⟨rfl, Or.inr ⟨by rw [HSF.out, if_pos HM.out], rfl, H3.out.2.2.1⟩⟩
end Go.Proofs.YtbbcphloafmldaaGreat

/-! A range over a function whose iterator turns blocks of its own (the box of a variable that it keeps): the law. T: the blocks that the iterator turns; they hold cells and lay there ahead of the loop. No program's function is named here. -/
namespace Go.Proofs.YtbbcphloafmldaaGreat
open Go.RowKit
set_option linter.unusedVariables false

variable {F : Fence} {n : Nat} {P : Program}
/-- kept through what the iterator does: it turns T, and walks' objects from B on. -/
def AbT {β : Type} (T : Nat → Prop) (B : Nat) (J : β → World → Prop) : Prop :=
  ∀ s W W' row, J s W → W.grownBy W' row → (∀ r, row = some r → T r ∨ (B ≤ r ∧ ∃ o : Obj, W.heap[r]? = some o ∧ o.isWalk = true)) → J s W'
def OwnT {β : Type} (T : Nat → Prop) (B : Nat) (I : β → World → Prop) : Prop :=
  ∀ s W W' row, I s W → W.grownBy W' row → (∀ r, row = some r → T r ∨ (B ≤ r ∧ ∃ o : Obj, W.heap[r]? = some o ∧ o.isCells = false)) → I s W'
theorem OwnT.put {β : Type} {T : Nat → Prop} {B : Nat} {I : β → World → Prop} (h : OwnT T B I) {s : β} {W : World} {l : Nat} {o : Obj} (o' : Obj) (hs : I s W) (hB : B ≤ l) (hl : W.heap[l]? = some o) (ho : o.isCells = false) : I s (W.putObj l o') :=
  h s W _ (some l) hs (grownBy_putObj' W l o') (fun r e => by cases e; exact Or.inr ⟨hB, o, hl, ho⟩)
theorem OwnT.new {β : Type} {T : Nat → Prop} {B : Nat} {I : β → World → Prop} (h : OwnT T B I) {s : β} {W : World} (o : Obj) (hs : I s W) : I s (W.alloc o) :=
  h s W _ none hs (World.grownBy_alloc W o none) (fun r e => by cases e)
theorem OwnT.and {β : Type} {T : Nat → Prop} {B : Nat} {I J : β → World → Prop} (h : OwnT T B I) (k : OwnT T B J) : OwnT T B (fun s W => I s W ∧ J s W) :=
  fun s W W' row hs hg hr => ⟨h s W W' row hs.1 hg hr, k s W W' row hs.2 hg hr⟩
/-- what an iterator that turns T does, whoever runs the rounds. -/
def SeqT {α : Type} (T : Nat → Prop) (F : Fence) (n : Nat) (P : Program) (g : Nat) (lb : Array Value) (encs : α → Array Value) (Kp : World → World → Prop) (Nx : List α → α → Prop) (S Sp : List α → Prop) (N : Nat) (w : World) : Prop :=
  ∀ (l : Nat) (J Jx : List α → World → Prop) (W : World), Below w.heap.size w W → AbT T W.heap.size J → AbT T W.heap.size Jx →
    (∀ pre x W1, J pre W1 → pre.length < N → Nx pre x → YieldAt F (n - 1) P l (encs x) W1 fun e W' =>
      (e = .returned (.bool true) ∧ J (pre ++ [x]) W' ∧ Kp W1 W') ∨ (e = .returned (.bool false) ∧ Jx (pre ++ [x]) W')) →
    J [] W →
    CallsIn F n P g (#[.func (.yield l) #[] #[]] ++ lb) W fun e W' => (∃ v, e = .returned v) ∧ ((∃ xs, S xs ∧ J xs W') ∨ (∃ pre, Sp pre ∧ Jx pre W'))
/-- what is neither turned nor a walk's object lies as it lay. -/
theorem abT_keeps {T : Nat → Prop} {B : Nat} {W W' : World} {row : Option Nat} (hg : W.grownBy W' row) (hr : ∀ r, row = some r → T r ∨ (B ≤ r ∧ ∃ o : Obj, W.heap[r]? = some o ∧ o.isWalk = true)) {k : Nat} {o : Obj} (hk : W.heap[k]? = some o) (hw : o.isWalk = false) (hT : ¬ T k) : W'.heap[k]? = some o := by
  refine (hg.block k (Array.getElem?_eq_some_iff.1 hk).1 fun e => ?_).trans hk
  rcases hr k e.symm with h | ⟨_, o', ho', hw'⟩
  · exact hT h
  · rw [hk] at ho'; cases ho'; rw [hw] at hw'; cases hw'

theorem wpIn_range_T {α : Type} {T : Nat → Prop} {g : Operand} {ps : Array Tmp} {assign body : Code} {Q : Exit → Act → World → Prop} {a : Act} {w : World}
    (hro : F.round = none) (h1 : 1 ≤ n) {gf : Nat} {lb : Array Value} (hg : a.eval g = .func (.func gf) #[] lb) (hFg : F.fn gf) (eg : ∀ args w, (callFunc gf args).run P w = .ok (.enter gf args) w)
    (hTw : ∀ k, T k → k < w.heap.size)
    {encs : α → Array Value} {Kp : World → World → Prop} {Nx : List α → α → Prop} {S Sp : List α → Prop} {N : Nat} {w0 : World} (hseq : SeqT T F (n - 1) P gf lb encs Kp Nx S Sp N w0)
    (hKt : ∀ {A B C : World}, Kp A B → Kp B C → Kp A C) (hKb : ∀ (W : World) (l : Nat) (o o' : Obj), w.heap.size ≤ l → W.heap[l]? = some o → o.isCells = false → o.isWalk = false → Kp W (W.putObj l o')) (hb0 : Below w0.heap.size w0 w) (hps : ∀ x, (encs x).size = ps.size)
    (I : List α → World → Prop) (Ix : Code → List α → World → Prop) (hI : OwnT T w.heap.size I) (hIx : ∀ c, OwnT T w.heap.size (Ix c)) (h0 : I [] w) (a₁ : α → Act)
    (hassign : ∀ (l : Nat) (x : α) (W : World) (K : Act → World → Prop), K (a₁ x) W →
      assign.wpIn (F.inRound l) (n - 1 - 1) P (Exit.then K (fun _ _ _ => False)) { tmps := (ps.zip (encs x)).foldl (fun t (p, v) => t.setIfInBounds p v) a.tmps, defers := [] } W)
    (hbody : ∀ (l : Nat) (pre : List α) (x : α) (W : World), I pre W → pre.length < N → Nx pre x → body.wpIn (F.inRound l) (n - 1 - 1) P (ownPostG w.heap.size Kp I Ix (pre ++ [x]) W) (a₁ x) W)
    (hdone : ∀ (D : Nat) (xs : List α) (W : World), w.heap.size ≤ D → S xs → I xs W → W.heap[D]? = some (.deferred (some [])) → Q .normal { a with defers := { target := .collected D, args := #[] } :: a.defers } W)
    (hstop : ∀ (D : Nat) (c : Code) (pre : List α) (W : World), w.heap.size ≤ D → Sp pre → Ix c pre W → W.heap[D]? = some (.deferred (some [])) → c.wpIn F n P Q { a with defers := { target := .collected D, args := #[] } :: a.defers } W) :
    (Code.rangeFunc g ps assign body).wpIn F n P Q a w := by
  refine wpIn_rangeFunc ?_
  intro fn hfn
  rw [hro]
  -- the loop's record in block d + 1, the rounds' deferred calls in block d
  obtain ⟨d, hd⟩ : ∃ d, d = w.heap.size := ⟨_, rfl⟩
  obtain ⟨rec, hrec⟩ : ∃ rec : LoopState → Option Code → Loop, rec = fun st pe => { state := st, pending := pe, fn, tmps := a.tmps, params := ps, assign, body, defers := d } := ⟨_, rfl⟩
  obtain ⟨V, hV⟩ : ∃ V, (w.alloc (.deferred (some []))).alloc (.loop (rec .ready none)) = V := ⟨_, rfl⟩
  have vsz : V.heap.size = d + 2 := by rw [← hV, hd]; simp
  have vl : V.heap[d + 1]? = some (.loop (rec .ready none)) := by
    have h := World.alloc_heap_new (w.alloc (.deferred (some []))) (.loop (rec .ready none))
    rw [World.size_alloc] at h
    rw [← hV, hd]; exact h
  have vk : V.heap[d]? = some (.deferred (some [])) := by
    rw [← hV, hd]; exact (Below.heap_alloc _ _ _ (by simp)).trans (World.alloc_heap_new w _)
  have vI : I [] V := by rw [← hV]; exact hI.new _ (hI.new _ h0)
  have vb : Below w0.heap.size w0 V := by
    rw [← hV]; exact hb0.trans ((((Below.refl _ w).alloc (Nat.le_refl _) _).alloc (by simp) _).mono hb0.size)
  have nT : ∀ k, d ≤ k → ¬ T k := fun k hk hT => by have := hTw k hT; omega
  -- the iterator's steps, as the caller sees them
  have low : ∀ {A : World} {row : Option Nat}, (∀ r, row = some r → T r ∨ (V.heap.size ≤ r ∧ ∃ o : Obj, A.heap[r]? = some o ∧ o.isWalk = true)) → (∀ r, row = some r → T r ∨ (w.heap.size ≤ r ∧ ∃ o : Obj, A.heap[r]? = some o ∧ o.isCells = false)) :=
    fun hr r e => by
      rcases hr r e with h | ⟨hB, o, ho, hw⟩
      · exact Or.inl h
      · exact Or.inr ⟨by omega, o, ho, Obj.not_cells_of_walk hw⟩
  refine ⟨d + 1, [{ target := .collected d, args := #[] }], V, { target := .fn (.func gf) lb, args := #[.func (.yield (d + 1)) #[] #[]] }, V, gf, #[.func (.yield (d + 1)) #[] #[]] ++ lb, V, ?_, ?_, ?_, ?_, fun _ => h1, ?_⟩
  · rw [← hV, hrec, hd]; exact run_enterLoop_outer _ _ _ _ _
  · simp only [resolve, hg]
    simp [go_sem]
  · intro f' hf'; simp [Target.leads] at hf'; subst hf'; exact hFg
  · simp [invoke, go_sem, eg]
  · have keepJ : AbT T V.heap.size (fun (pre : List α) W => I pre W ∧ W.heap[d + 1]? = some (.loop (rec .ready none)) ∧ W.heap[d]? = some (.deferred (some []))) :=
      fun s A B row hs hg' hr => ⟨hI s A B row hs.1 hg' (low hr), abT_keeps hg' hr hs.2.1 rfl (nT _ (by omega)), abT_keeps hg' hr hs.2.2 rfl (nT _ (Nat.le_refl _))⟩
    have keepX : AbT T V.heap.size (fun (pre : List α) W => ∃ c, Ix c pre W ∧ W.heap[d + 1]? = some (.loop (rec .done (some c))) ∧ W.heap[d]? = some (.deferred (some []))) :=
      fun s A B row hs hg' hr => by
        obtain ⟨c, hc, hl, hk⟩ := hs
        exact ⟨c, hIx c s A B row hc hg' (low hr), abT_keeps hg' hr hl rfl (nT _ (by omega)), abT_keeps hg' hr hk rfl (nT _ (Nat.le_refl _))⟩
    refine (hseq (d + 1) _ _ V vb keepJ keepX ?_ ⟨vI, vl, vk⟩).mono ?_
    · -- one round
      rintro pre x W ⟨hi, hl, hk⟩ hlen hnx
      have hlt : d + 1 < W.heap.size := (Array.getElem?_eq_some_iff.1 hl).1
      have hy := run_yield (P := P) (args := encs x) hl (by rw [hrec]; exact hps x)
      rw [hrec] at hy
      refine ⟨fn, _, assign, body, hy, roundIn_of_wpIn hfn (hassign _ x W _ ⟨_, run_beginRound hl (by rw [hrec]), ?_⟩)⟩
      obtain ⟨U, hU⟩ : ∃ U, W.putObj (d + 1) (.loop { rec .ready none with state := .busy }) = U := ⟨_, rfl⟩
      have ul : U.heap[d + 1]? = some (.loop { rec .ready none with state := .busy }) := by rw [← hU]; exact World.putObj_heap_same hlt
      have uk : U.heap[d]? = some (.deferred (some [])) := by rw [← hU]; exact (World.putObj_heap_other (by omega)).trans hk
      have uK : Kp W U := by rw [← hU]; exact hKb _ _ _ _ (by omega) hl rfl rfl
      have uI : I pre U := by rw [← hU]; exact hI.put _ hi (by omega) hl rfl
      rw [hU]
      refine wpIn_mono (hbody _ pre x U uI hlen hnx) ?_
      have fin : ∀ (jump : Option Code) (Z : World), KeepsFrom w.heap.size U Z →
          (Instr.endRound (d + 1) jump).run P Z = .ok (.bool jump.isNone) (Z.putObj (d + 1) (.loop (rec (if jump.isNone then .ready else .done) jump))) ∧
          Z.heap[d + 1]? = some (.loop { rec .ready none with state := .busy }) ∧
          (Z.putObj (d + 1) (.loop (rec (if jump.isNone then .ready else .done) jump))).heap[d + 1]? = some (.loop (rec (if jump.isNone then .ready else .done) jump)) ∧
          (Z.putObj (d + 1) (.loop (rec (if jump.isNone then .ready else .done) jump))).heap[d]? = some (.deferred (some [])) := fun jump Z hz => by
        have zl := hz.same _ _ (by omega) ul rfl
        have h := run_endRound (P := P) jump zl
        rw [hrec] at h ⊢
        exact ⟨h, by rw [hrec] at zl; exact zl, World.putObj_heap_same (Array.getElem?_eq_some_iff.1 zl).1, (World.putObj_heap_other (by omega)).trans (hz.same _ _ (by omega) uk rfl)⟩
      rintro e a3 Z hp
      cases e with
      | normal =>
        obtain ⟨q1, q2, q3⟩ := hp
        obtain ⟨r1, r2, r3, r4⟩ := fin none Z q1
        exact ⟨_, _, r1, .inl ⟨rfl, ⟨hI.put _ q3 (by omega) r2 rfl, r3, r4⟩, hKt (hKt uK q2) (hKb _ _ _ _ (by omega) r2 rfl rfl)⟩⟩
      | ret =>
        obtain ⟨q1, q3⟩ := hp
        obtain ⟨r1, r2, r3, r4⟩ := fin (some .ret) Z q1
        exact ⟨_, _, r1, .inr ⟨rfl, .ret, (hIx _).put _ q3 (by omega) r2 rfl, r3, r4⟩⟩
      | exit id =>
        obtain ⟨q1, q3⟩ := hp
        obtain ⟨r1, r2, r3, r4⟩ := fin (some (.exit id)) Z q1
        exact ⟨_, _, r1, .inr ⟨rfl, .exit id, (hIx _).put _ q3 (by omega) r2 rfl, r3, r4⟩⟩
      | goto t =>
        obtain ⟨q1, q3⟩ := hp
        obtain ⟨r1, r2, r3, r4⟩ := fin (some (.goto t)) Z q1
        exact ⟨_, _, r1, .inr ⟨rfl, .goto t, (hIx _).put _ q3 (by omega) r2 rfl, r3, r4⟩⟩
      | panic ch => exact hp.elim
      | outgrown => exact hp.elim
    · -- behind the iterator
      rintro e W2 ⟨⟨v, rfl⟩, (⟨xs, hS, hi, hl, hk⟩ | ⟨pre, hSp, c, hi, hl, hk⟩)⟩
      · exact ⟨none, _, by have h := run_endLoop (P := P) hl (by rw [hrec]; simp); rw [hrec] at h; exact h, hdone d xs _ (by omega) hS (hI.put _ hi (by omega) hl rfl) ((World.putObj_heap_other (by omega)).trans hk)⟩
      · exact ⟨some c, _, by have h := run_endLoop (P := P) hl (by rw [hrec]; simp); rw [hrec] at h; exact h, hstop d c pre _ (by omega) hSp ((hIx c).put _ hi (by omega) hl rfl) ((World.putObj_heap_other (by omega)).trans hk)⟩
end Go.Proofs.YtbbcphloafmldaaGreat
