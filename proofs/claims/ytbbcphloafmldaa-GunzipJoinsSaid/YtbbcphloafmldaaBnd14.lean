/- A stream's repetition, and its stored block: their walks. A stream's stored block: its walk. -/
import Derived.Test.YtbbcphloafmldaaBnd13
/-! A stream's repetition, and its stored block: their walks. -/
namespace Go.Proofs.Ytbbcphloafmldaa
open Go.RowKit
set_option linter.unusedVariables false

theorem IPost.pre {w w1 w2 : World} {B R : Nat} {og : Option Nat} {bs : List Nat} {p2 : Nat} {oo : Option Nat} {f2 : List Nat} {keep : Nat} (hx : Ext w w1) (k : IPost w1 B R og bs p2 oo f2 keep w2) : IPost w B R og bs p2 oo f2 keep w2 := by
  obtain ⟨o2, k1, k2, k3⟩ := k
  refine ⟨o2, k1, ?_, hx.trans' k3⟩
  rcases k2 with k2 | ⟨g, k2, hg⟩
  · exact Or.inl k2
  · exact Or.inr ⟨g, k2, Nat.le_trans hx.size hg⟩
def InfE (w : World) (B R : Nat) (og : Option Nat) (bs : List Nat) (oo : Option Nat) (kp : Nat) (r : Option (Nat × List Nat)) (e : Ending) (w' : World) : Prop :=
  (∃ q o, r = some (q, o) ∧ e = .returned (.tuple #[]) ∧ IPost w B R og bs q oo o kp w') ∨ (r = none ∧ e = .panicked [formF] ∧ Touch (FPI B R oo) w w')
def RpI (w : World) (B R : Nat) (og : Option Nat) (bs : List Nat) (p : Nat) (oo : Option Nat) (full : List Nat) (kp d n : Nat) (vi : Value) (wr : World) : Prop := ∃ i : Nat, vi = .int .i64 i ∧ i ≤ n ∧ IPost w B R og bs p oo (copyL full d i) kp wr
set_option maxRecDepth 100000 in
set_option maxHeartbeats 2000000 in
theorem inf_repeat (B R : Nat) (og : Option Nat) (bs : List Nat) (p : Nat) (oo : Option Nat) (full : List Nat) (kp n d : Nat) (w : World) (h : ISt w B R og bs p oo full kp) (hd : 1 ≤ d) (hd2 : d ≤ 2 ^ 40) (hn : n ≤ 1000) (hf : full.length ≤ 2 ^ 44) :
    Calls Try.prog 58 #[.pointer (some ⟨B, 0, none⟩), .int .i64 n, .int .i64 d] w (InfE w B R og bs oo kp (if full.length < d then none else some (p, copyL full d n))) := by
  obtain ⟨c0, c2, c3, hfz⟩ := h.cells
  obtain ⟨N, hN⟩ : ∃ N, N = full.length := ⟨_, rfl⟩
  rw [← hN] at c3 hf ⊢
  obtain ⟨r, hr⟩ : ∃ r, r = if N < d then none else some (p, copyL full d n) := ⟨_, rfl⟩
  rw [← hr]
  have HRR := Lib.hid hr
  clear hr
  by_cases hlt : N < d
  · have hz : (N : Int) < (d : Int) := by omega
    have HL := Lib.hid hlt
    clear h hfz hN hlt hd hd2 hn hf
    go_enter Try.func58, Try.ntmps58
    go_wp2_with fail
    exact ⟨rfl, Or.inr ⟨by rw [HRR.out, if_pos HL.out], rfl, Touch.refl _ _⟩⟩
  · have hz : ¬ (N : Int) < (d : Int) := by omega
    have HL := Lib.hid hlt
    have HH := Lib.hid h
    have HN := Lib.hid (show N = full.length ∧ 1 ≤ d ∧ d ≤ N ∧ n ≤ 1000 ∧ N ≤ 2 ^ 44 from ⟨hN, hd, by omega, hn, hf⟩)
    clear h hfz hN hlt hd hd2 hn hf
    go_enter Try.func58, Try.ntmps58
    go_wp2_with fail
    clear c0 c2 c3
    go_loopw [6, 15] (fun _ vi wr => RpI w B R og bs p oo full kp d n vi wr) (fun _ vi _ => n - (intOf vi).toNat)
    case atStart => exact ⟨0, rfl, Nat.zero_le _, IPost.refl HH.out⟩
    case round =>
      obtain ⟨i, rfl, hin, hip⟩ := hrel
      have HI := Lib.hid (And.intro hin hip)
      by_cases hlt : i < n
      · have hltz : (i : Int) < (n : Int) := by omega
        have HLT := Lib.hid hlt
        obtain ⟨o1, k1, k2, k3⟩ := hip
        obtain ⟨c0, c2, c3, hfz⟩ := k1.cells
        obtain ⟨M, hM⟩ : ∃ M, M = (copyL full d i).length := ⟨_, rfl⟩
        have hMv : M = N + i := by rw [hM, length_copyL, ← HN.out.1]
        rw [← hM] at c3
        have hN1 := HN.out
        have w1 : IntKind.i64.wrap ((i : Int) + 1) = ((i + 1 : Nat) : Int) := by rw [show (i : Int) + 1 = ((i + 1 : Nat) : Int) by omega]; exact IntWalk.i64_in _ (by omega)
        obtain ⟨y, hy⟩ : ∃ y, y = (copyL full d i).getD (M - d) 0 := ⟨_, rfl⟩
        have HM := Lib.hid (show M = (copyL full d i).length ∧ M = N + i ∧ copyL full d (i + 1) = copyL full d i ++ [y] from ⟨hM, hMv, by rw [copyL, hy, hM]⟩)
        have HK := Lib.hid (show ISt wr B R og bs p o1 (copyL full d i) kp ∧ Near oo o1 w ∧ Touch (FPI B R oo) w wr from ⟨k1, k2, k3⟩)
        by_cases hk : M < kp
        · have hkz : (M : Int) < (kp : Int) := by omega
          obtain ⟨ov, b1, b2⟩ := k1.box
          have htk : (copyL full d i).take kp = copyL full d i := List.take_of_length_le (by omega)
          rw [htk, ← hM] at b2
          obtain ⟨oa, oc, rfl⟩ := b2.shape
          have hMd : M - d < M := by omega
          obtain ⟨bb, ob, e, _, hcc⟩ := viewL_cells b2.viewL (by rw [length_u8s]; omega)
          subst e
          have cy : wr.cell? ⟨bb, ob + (M - d), none⟩ = some (.int .u8 y) := by
            rw [hy]; exact hcc _ _ (getElem?_u8s _ _ (by omega))
          have cov : wr.cell? ⟨B, 1, none⟩ = some (.slice (some ⟨bb, ob, none⟩) M oc) := by simp [World.cell?, b1]
          have ws : IntKind.i64.wrap ((M - d : Nat) : Int) = ((M - d : Nat) : Int) := IntWalk.i64_in _ (by omega)
          have wsn : (M : Int) - (d : Int) = ((M - d : Nat) : Int) := by omega
          obtain ⟨m, hm⟩ : ∃ m, m = M - d := ⟨_, rfl⟩
          rw [← hm] at cy ws wsn hMd
          have hMz : (m : Int) < (M : Int) := by omega
          have HP := Lib.hid (fun wx (hx : Ext wr wx) => inf_put B R og bs p o1 (copyL full d i) kp y y wx (HK.out.1.ext hx) (by rw [← HM.out.1]; have := HM.out; have := HLT.out; omega) (fun _ => rfl))
          clear hin hlt k1 k2 k3 hfz hM hMv hN1 hy hk b1 b2 htk hMd hcc hm
          go_wp2_with fail
          go_quiet (fail)
          go_wp2_with fail
          go_quiet (fail)
          go_wp2_with fail
          refine (HP.out _ (by first | exact ((Ext.refl wr).drewN _).drewN _ | exact (Ext.refl wr).drewN _)).mono ?_
          rintro e w5 ⟨rfl, hp⟩
          have HF := Lib.hid hp
          clear hp
          go_wp2_with fail
          go_roundw
          case rel => exact ⟨i + 1, rfl, HLT.out, by rw [HM.out.2.2]; exact IPost.step HK.out.2.1 HK.out.2.2 (IPost.pre (by first | exact ((Ext.refl wr).drewN _).drewN _ | exact (Ext.refl wr).drewN _) HF.out)⟩
          case measure => simp [intOf]; have := HLT.out; omega
        · have hkz : ¬ (M : Int) < (kp : Int) := by omega
          have HP := Lib.hid (fun wx (hx : Ext wr wx) => inf_put B R og bs p o1 (copyL full d i) kp 0 y wx (HK.out.1.ext hx) (by rw [← HM.out.1]; have := HM.out; have := HLT.out; omega) (fun h => by rw [← HM.out.1] at h; omega))
          clear hin hlt k1 k2 k3 hfz hM hMv hN1 hy hk
          go_wp2_with fail
          go_quiet (fail)
          go_wp2_with fail
          refine (HP.out _ ((Ext.refl wr).drewN _)).mono ?_
          rintro e w5 ⟨rfl, hp⟩
          have HF := Lib.hid hp
          clear hp
          go_wp2_with fail
          go_roundw
          case rel => exact ⟨i + 1, rfl, HLT.out, by rw [HM.out.2.2]; exact IPost.step HK.out.2.1 HK.out.2.2 (IPost.pre ((Ext.refl wr).drewN _) HF.out)⟩
          case measure => simp [intOf]; have := HLT.out; omega
      · have hltz : ¬ (i : Int) < (n : Int) := by omega
        obtain rfl : i = n := by have := HI.out.1; omega
        clear hin hip hlt
        go_wp2_with fail
        go_end0
        exact Or.inl ⟨p, _, by rw [HRR.out, if_neg HL.out], rfl, HI.out.2⟩
end Go.Proofs.Ytbbcphloafmldaa

/-! A stream's stored block: its walk. -/
namespace Go.Proofs.Ytbbcphloafmldaa
open Go.RowKit
set_option linter.unusedVariables false

theorem xor_16 (n : Nat) (h : n < 65536) : n ^^^ 65535 = 65535 - n := by
  have h1 : ((BitVec.ofNat 16 n) ^^^ (BitVec.allOnes 16)).toNat = (~~~ (BitVec.ofNat 16 n)).toNat := by rw [BitVec.xor_allOnes]
  rw [BitVec.toNat_xor, BitVec.toNat_not, BitVec.toNat_allOnes, BitVec.toNat_ofNat, Nat.mod_eq_of_lt (by omega)] at h1
  simpa using h1
theorem ofInt_64 (n : Nat) (h : n < 65536) : (BitVec.ofInt 64 (n : Int)).toNat = n := by
  rw [BitVec.toNat_ofInt]
  omega
theorem xor_low (n : Nat) (h : n < 65536) : bits .xor .i64 (n : Int) 65535 = ((65535 - n : Nat) : Int) := by
  show IntKind.i64.wrap ((BitVec.ofInt 64 (n : Int) ^^^ BitVec.ofInt 64 ((65535 : Nat) : Int)).toNat : Int) = _
  rw [BitVec.toNat_xor, ofInt_64 n h, ofInt_64 65535 (by decide), xor_16 n h]
  exact IntWalk.i64_in _ (by omega)
/-- stored bytes. -/
def stB (bs : List Nat) (q i : Nat) : List Nat := (List.range i).map fun i => numOf false (xAt (ofBits false bs) (q + 8 * i) 8)
theorem stB_succ (bs : List Nat) (q i : Nat) : stB bs q (i + 1) = stB bs q i ++ [numOf false (xAt (ofBits false bs) (q + 8 * i) 8)] := by simp [stB, List.range_succ]
theorem stB_len (bs : List Nat) (q i : Nat) : (stB bs q i).length = i := by simp [stB]
def SdI (w : World) (B R : Nat) (og : Option Nat) (bs : List Nat) (q : Nat) (oo : Option Nat) (full : List Nat) (kp n : Nat) (vi : Value) (wr : World) : Prop := ∃ i : Nat, vi = .int .i64 i ∧ i ≤ n ∧ q + 8 * i ≤ 8 * bs.length ∧ IPost w B R og bs (q + 8 * i) oo (full ++ stB bs q i) kp wr
set_option maxRecDepth 100000 in
set_option maxHeartbeats 2000000 in
theorem inf_stored (B R : Nat) (og : Option Nat) (bs : List Nat) (p : Nat) (oo : Option Nat) (full : List Nat) (kp : Nat) (w : World) (h : ISt w B R og bs p oo full kp) (hl : bs.length ≤ 2 ^ 30) (hb : ∀ b ∈ bs, b < 256) (hp : p ≤ 8 * bs.length) (hf : full.length ≤ 2 ^ 44) :
    Calls Try.prog 26 #[.pointer (some ⟨B, 0, none⟩)] w (InfE w B R og bs oo kp (storedF (ofBits false bs) p full)) := by
  obtain ⟨c0, _, _, _⟩ := h.cells
  obtain ⟨r, hr⟩ : ∃ r, r = storedF (ofBits false bs) p full := ⟨_, rfl⟩
  rw [← hr]
  obtain ⟨p1, hp1⟩ : ∃ p1, p1 = (p + 7) / 8 * 8 := ⟨_, rfl⟩
  have hp1l : p1 ≤ 8 * bs.length := by omega
  have HAL := Lib.hid (lsb_ralign R og bs p w h.rdr (by omega) hp)
  rw [← hp1] at HAL
  have HH := Lib.hid h
  have HB := Lib.hid (show bs.length ≤ 2 ^ 30 ∧ (∀ b ∈ bs, b < 256) ∧ p1 ≤ 8 * bs.length ∧ full.length ≤ 2 ^ 44 from ⟨hl, hb, hp1l, hf⟩)
  have hlen : (ofBits false bs).length = 8 * bs.length := length_ofBits _ _
  have HR := Lib.hid hr
  have HP1 := Lib.hid hp1
  have HLEN := Lib.hid hlen
  clear h hr hp1 hp1l hl hb hp hf hlen
  go_enter Try.func26, Try.ntmps26
  go_wp2_with fail
  refine HAL.out.mono ?_
  rintro e w1 ⟨rfl, hr1⟩
  obtain ⟨o1, k1, k2, k3⟩ := HH.out.reader hr1
  have H1 := Lib.hid (show ISt w1 B R og bs p1 o1 full kp ∧ Near oo o1 w ∧ Touch (FPI B R oo) w w1 from ⟨k1, k2, k3⟩)
  clear hr1 k1 k2 k3 c0
  go_wp2_with fail
  refine (inf_bits B R og bs p1 16 o1 full kp w1 H1.out.1 HB.out.1 HB.out.2.1 HB.out.2.2.1 (by omega)).mono ?_
  rintro e w2 (⟨n, q, hrd, rfl, hip⟩ | ⟨hrd, rfl, ht⟩)
  rotate_left
  · exact ⟨rfl, Or.inr ⟨by rw [HR.out, storedF, ← HP1.out, hrd], rfl, H1.out.2.2.trans ht (fun k hk hh => H1.out.2.1.fpi B R k hk hh)⟩⟩
  obtain ⟨o2, k1, k2, k3⟩ := hip
  have hrl := rd_lt hrd
  dsimp only at hrl
  have hn16 : n < 65536 := by
    have := numOf_low_lt (xAt (ofBits false bs) p1 16)
    have hx : (xAt (ofBits false bs) p1 16).length ≤ 16 := by unfold xAt; rw [List.length_take]; omega
    have h2 : 2 ^ (xAt (ofBits false bs) p1 16).length ≤ 2 ^ 16 := Nat.pow_le_pow_right (by decide) hx
    rw [hrl.2.2]; omega
  have H2 := Lib.hid (show ISt w2 B R og bs q o2 full kp ∧ Near oo o2 w ∧ Touch (FPI B R oo) w w2 ∧ rd (ofBits false bs) p1 16 = some (n, q) ∧ q ≤ 8 * bs.length from ⟨k1, H1.out.2.1.trans k2 H1.out.2.2.size, H1.out.2.2.trans k3 (fun k hk hh => H1.out.2.1.fpi B R k hk hh), hrd, by have := HLEN.out; omega⟩)
  clear hrd k1 k2 k3 hrl H1
  go_wp2_with fail
  refine (inf_bits B R og bs q 16 o2 full kp w2 H2.out.1 HB.out.1 HB.out.2.1 H2.out.2.2.2.2 (by omega)).mono ?_
  rintro e w3 (⟨m, q2, hrd, rfl, hip⟩ | ⟨hrd, rfl, ht⟩)
  rotate_left
  · exact ⟨rfl, Or.inr ⟨by rw [HR.out, storedF, ← HP1.out, H2.out.2.2.2.1]; simp only; rw [hrd], rfl, H2.out.2.2.1.trans ht (fun k hk hh => H2.out.2.1.fpi B R k hk hh)⟩⟩
  obtain ⟨o3, k1, k2, k3⟩ := hip
  have hrl := rd_lt hrd
  dsimp only at hrl
  have hx := xor_low n hn16
  have H3 := Lib.hid (show ISt w3 B R og bs q2 o3 full kp ∧ Near oo o3 w ∧ Touch (FPI B R oo) w w3 ∧ rd (ofBits false bs) q 16 = some (m, q2) ∧ q2 ≤ 8 * bs.length ∧ n < 65536 from ⟨k1, H2.out.2.1.trans k2 H2.out.2.2.1.size, H2.out.2.2.1.trans k3 (fun k hk hh => H2.out.2.1.fpi B R k hk hh), hrd, by have := HLEN.out; omega, hn16⟩)
  have HSF := Lib.hid (show r = if m ≠ 65535 - n then none else if q2 + 8 * n ≤ (ofBits false bs).length then some (q2 + 8 * n, full ++ stB bs q2 n) else none from by
    rw [HR.out, storedF, ← HP1.out, H2.out.2.2.2.1]; simp only; rw [hrd]; rfl)
  clear hrd k1 k2 k3 hrl
  by_cases hm : m = 65535 - n
  · have hmz : ((m : Int) == ((65535 - n : Nat) : Int)) = true := by rw [beq_iff_eq]; omega
    have hmz2 : ((m : Int) != ((65535 - n : Nat) : Int)) = false := by rw [bne_eq_false_iff_eq]; omega
    have HM := Lib.hid hm
    clear hm
    go_wp2_with fail
    clear hx hmz hmz2
    go_loopw [17] (fun vi wr => SdI w B R og bs q2 oo full kp n vi wr) (fun vi _ => n - (intOf vi).toNat)
    case atStart => exact ⟨0, rfl, Nat.zero_le _, by simpa using H3.out.2.2.2.2.1, by rw [Nat.mul_zero, Nat.add_zero, stB, List.range_zero, List.map_nil, List.append_nil]; exact ⟨o3, H3.out.1, H3.out.2.1, H3.out.2.2.1⟩⟩
    case round =>
      obtain ⟨i, rfl, hin, hq8, o4, k1, k2, k3⟩ := hrel
      have HI := Lib.hid (show ISt wr B R og bs (q2 + 8 * i) o4 (full ++ stB bs q2 i) kp ∧ Near oo o4 w ∧ Touch (FPI B R oo) w wr ∧ q2 + 8 * i ≤ 8 * bs.length ∧ i ≤ n from ⟨k1, k2, k3, hq8, hin⟩)
      clear k1 k2 k3 hq8
      by_cases hlt : i < n
      · have hltz : (i : Int) < (n : Int) := by omega
        have hi16 : (i : Int) ≤ 65536 := by omega
        have HLT := Lib.hid hlt
        clear hin hlt
        go_wp2_with fail
        refine (inf_bits B R og bs (q2 + 8 * i) 8 o4 (full ++ stB bs q2 i) kp wr HI.out.1 HB.out.1 HB.out.2.1 HI.out.2.2.2.1 (by omega)).mono ?_
        rintro e w5 (⟨c, q, hrd, rfl, hip⟩ | ⟨hrd, rfl, ht⟩)
        rotate_left
        · refine ⟨rfl, Or.inr ⟨?_, rfl, HI.out.2.2.1.trans ht (fun k hk hh => HI.out.2.1.fpi B R k hk hh)⟩⟩
          rw [HSF.out, if_neg (by rw [HM.out]; exact fun h => h rfl), if_neg]
          unfold rd at hrd
          split at hrd
          · cases hrd
          · have := HLT.out; omega
        obtain ⟨o5, k1, k2, k3⟩ := hip
        have hrl := rd_lt hrd
        dsimp only at hrl
        have hc8 : c < 256 := by
          have := numOf_low_lt (xAt (ofBits false bs) (q2 + 8 * i) 8)
          have hx : (xAt (ofBits false bs) (q2 + 8 * i) 8).length ≤ 8 := by unfold xAt; rw [List.length_take]; omega
          have h2 : 2 ^ (xAt (ofBits false bs) (q2 + 8 * i) 8).length ≤ 2 ^ 8 := Nat.pow_le_pow_right (by decide) hx
          rw [hrl.2.2]; omega
        have wc : IntKind.u8.wrap (c : Int) = (c : Int) := IntWalk.u8_in _ (by omega)
        have wi : IntKind.i64.wrap ((i : Int) + 1) = ((i + 1 : Nat) : Int) := by rw [show (i : Int) + 1 = ((i + 1 : Nat) : Int) by omega]; exact IntWalk.i64_in _ (by omega)
        have H5 := Lib.hid (show ISt w5 B R og bs q o5 (full ++ stB bs q2 i) kp ∧ Near oo o5 w ∧ Touch (FPI B R oo) w w5 ∧ q = q2 + 8 * (i + 1) ∧ q ≤ 8 * bs.length ∧ stB bs q2 (i + 1) = stB bs q2 i ++ [c] from ⟨k1, HI.out.2.1.trans k2 HI.out.2.2.1.size, HI.out.2.2.1.trans k3 (fun k hk hh => HI.out.2.1.fpi B R k hk hh), by omega, by have := HLEN.out; omega, by rw [stB_succ, ← hrl.2.2]⟩)
        have HPUT := Lib.hid (inf_put B R og bs q o5 (full ++ stB bs q2 i) kp c c w5 H5.out.1 (by rw [List.length_append, stB_len]; have := HB.out.2.2.2; have := HLT.out; have := H3.out.2.2.2.2.2; omega) (fun _ => rfl))
        clear hrd k1 k2 k3 hrl hc8
        go_wp2_with fail
        refine HPUT.out.mono ?_
        rintro e w6 ⟨rfl, hp⟩
        have HP := Lib.hid hp
        clear hp
        go_wp2_with fail
        go_roundw
        case rel => exact ⟨i + 1, rfl, HLT.out, by rw [← H5.out.2.2.2.1]; exact H5.out.2.2.2.2.1, by rw [← H5.out.2.2.2.1, H5.out.2.2.2.2.2, ← List.append_assoc]; exact IPost.step H5.out.2.1 H5.out.2.2.1 HP.out⟩
        case measure => simp [intOf]; have := HLT.out; omega
      · have hltz : ¬ (i : Int) < (n : Int) := by omega
        obtain rfl : i = n := by omega
        clear hin hlt
        go_wp2_with fail
        go_end0
        exact Or.inl ⟨_, _, by rw [HSF.out, if_neg (by rw [HM.out]; exact fun h => h rfl), if_pos (by rw [HLEN.out]; exact HI.out.2.2.2.1)], rfl, ⟨o4, HI.out.1, HI.out.2.1, HI.out.2.2.1⟩⟩
  · have hmz : ((m : Int) == ((65535 - n : Nat) : Int)) = false := by rw [beq_eq_false_iff_ne]; omega
    have hmz2 : ((m : Int) != ((65535 - n : Nat) : Int)) = true := by rw [bne_iff_ne]; omega
    have HM := Lib.hid hm
    clear hm
    go_wp2_with fail
    exact ⟨rfl, Or.inr ⟨by rw [HSF.out, if_pos HM.out], rfl, H3.out.2.2.1⟩⟩
end Go.Proofs.Ytbbcphloafmldaa
