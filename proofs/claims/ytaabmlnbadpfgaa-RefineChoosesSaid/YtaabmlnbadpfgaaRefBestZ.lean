/- refine.refined's closure: the best code of a group. -/
import Derived.BigQuiet
import Derived.Test.YtaabmlnbadpfgaaRefGoodZ
import Derived.Test.YtaabmlnbadpfgaaLimCmps
namespace Go.Proofs.Ytaabmlnbadpfgaa
open Go.RowKit
set_option linter.unusedVariables false

/-- the first code that costs least, of the first i. -/
def bestTo (Ls : List (List Nat)) (l : List Nat) : Nat → Nat
  | 0 => 0
  | i + 1 => if bitsR (Ls.getD i []) l < bitsR (Ls.getD (bestTo Ls l i) []) l then i else bestTo Ls l i
theorem bestTo_lt (Ls : List (List Nat)) (l : List Nat) : ∀ i, 0 < i → bestTo Ls l i < i
  | 1, _ => by rw [bestTo]; split <;> simp [bestTo]
  | i + 2, _ => by
    have := bestTo_lt Ls l (i + 1) (by omega)
    rw [bestTo]; split <;> omega
theorem bestTo_le (Ls : List (List Nat)) (l : List Nat) (i : Nat) : bestTo Ls l i ≤ i := by
  cases i with
  | zero => simp [bestTo]
  | succ i => exact Nat.le_of_lt (bestTo_lt Ls l (i + 1) (by omega))
def bestN (Ls : List (List Nat)) (l : List Nat) : Nat := bestTo Ls l Ls.length
def BR (Ls : List (List Nat)) (l : List Nat) (w : World) (vk vi : Value) (wr : World) : Prop := ∃ i : Nat, vi = .int .i64 i ∧ i ≤ Ls.length ∧ vk = .int .i64 (bestTo Ls l i) ∧ Ext w wr
set_option maxRecDepth 100000 in
set_option maxHeartbeats 2000000 in
theorem ref_best (B : Nat) (lv gv : Value) (Ls : List (List Nat)) (l : List Nat) (n : Nat) (w : World) (hb : w.cell? ⟨B, 0, none⟩ = some lv) (hL : RowsV w lv Ls) (hl : ViewL w gv (intsL l)) (hn : ∀ L ∈ Ls, L.length = n ∧ ∀ x ∈ L, x < 256) (hs : ∀ s ∈ l, s < n) (hll : l.length ≤ 50) (hK : Ls.length ≤ 2 ^ 40) :
    Calls Try.prog 51 #[gv, .pointer (some ⟨B, 0, none⟩)] w fun e w' => e = .returned (.int .i64 (bestN Ls l)) ∧ Ext w w' := by
  obtain ⟨la, lc, rfl⟩ := hL.shape
  have HL := Lib.hid hL
  have HB := Lib.hid hb
  have HBITS := Lib.hid (show ∀ (i : Nat) (L : List Nat) (u : Value) (wx : World), Ext w wx → Ls[i]? = some L → ViewL wx u (u8s L) → Calls Try.prog 24 #[u, gv] wx fun e w' => e = .returned (.int .i64 (bitsR L l)) ∧ w' = wx from fun i L u wx hx hi hu => (ref_bits u gv L l wx hu (hl.ext hx) (fun s h => by rw [(hn L (List.mem_of_getElem? hi)).1]; exact hs s h) (hn L (List.mem_of_getElem? hi)).2 (by omega)).mono fun e w' ⟨h1, h2⟩ => ⟨h1, h2.symm⟩)
  have HBL := Lib.hid (show ∀ (i : Nat) (L : List Nat), Ls[i]? = some L → bitsR L l ≤ 12800 from fun i L hi => by have := bitsR_le (hn L (List.mem_of_getElem? hi)).2 l; omega)
  have HKK := Lib.hid hK
  obtain ⟨K, hKe⟩ : ∃ K, K = Ls.length := ⟨_, rfl⟩
  rw [← hKe] at HL hb
  have HK := Lib.hid hKe
  clear hL hl hn hs hll hK hKe
  go_enter Try.func51, Try.ntmps51
  go_wp2_with fail
  go_loopw [4, 9] (fun vk vi wr => BR Ls l w vk vi wr) (fun _ vi _ => K - (intOf vi).toNat)
  case atStart => exact ⟨0, rfl, Nat.zero_le _, rfl, Ext.refl _⟩
  case round =>
    obtain ⟨i, rfl, hi, rfl, hx⟩ := hrel
    have HX := Lib.hid hx
    have hble := bestTo_le Ls l i
    have HBT := Lib.hid (bestTo_lt Ls l i)
    obtain ⟨k, hk⟩ : ∃ k, k = bestTo Ls l i := ⟨_, rfl⟩
    rw [← hk] at hble ⊢
    rw [← HK.out] at hi
    by_cases hlt : i < K
    · have hltz : (i : Int) < (K : Int) := by omega
      have hkz : (k : Int) < (K : Int) := by omega
      obtain ⟨L, hLi⟩ : ∃ L, Ls[i]? = some L := ⟨_, List.getElem?_eq_getElem (show i < Ls.length by have := HK.out; omega)⟩
      obtain ⟨M, hMi⟩ : ∃ M, Ls[k]? = some M := ⟨_, List.getElem?_eq_getElem (show k < Ls.length by have := HK.out; omega)⟩
      have cb : wr.cell? ⟨B, 0, none⟩ = some (.slice la K lc) := cell_touch hx (by rw [HB.out, HK.out]) (fun f => f)
      obtain ⟨b0, o0, uo, uc, rfl, ci, hvi⟩ := (HL.out.ext hx).at hLi rfl
      obtain ⟨b1, o1, vo, vc, e1, ck, hvk⟩ := (HL.out.ext hx).at hMi rfl
      cases e1
      obtain ⟨x, hxe⟩ : ∃ x, x = bitsR L l := ⟨_, rfl⟩
      obtain ⟨y, hye⟩ : ∃ y, y = bitsR M l := ⟨_, rfl⟩
      have C1 := Lib.hid (show ∀ wx, Ext wr wx → Calls Try.prog 24 #[.slice uo L.length uc, gv] wx fun e w' => e = .returned (.int .i64 x) ∧ w' = wx from fun wx hwx => by rw [hxe]; exact HBITS.out i L _ wx (hx.trans hwx) hLi (hvi.ext hwx))
      have C2 := Lib.hid (show ∀ wx, Ext wr wx → Calls Try.prog 24 #[.slice vo M.length vc, gv] wx fun e w' => e = .returned (.int .i64 y) ∧ w' = wx from fun wx hwx => by rw [hye]; exact HBITS.out k M _ wx (hx.trans hwx) hMi (hvk.ext hwx))
      have HN := Lib.hid (show bestTo Ls l (i + 1) = if x < y then i else k by
        rw [bestTo, ← hk, hxe, hye, show Ls.getD i [] = L by rw [List.getD, hLi]; rfl, show Ls.getD k [] = M by rw [List.getD, hMi]; rfl])
      have HLT := Lib.hid hlt
      have hK40 : (K : Int) ≤ 1099511627776 := by have := HK.out; have := HKK.out; omega
      obtain ⟨p, hp⟩ : ∃ p, p = L.length := ⟨_, rfl⟩
      obtain ⟨q, hq⟩ : ∃ q, q = M.length := ⟨_, rfl⟩
      rw [← hp] at ci C1
      rw [← hq] at ck C2
      clear hx hi hble hk hlt hLi hMi hvi hvk hxe hye hp hq
      by_cases hxy : x < y
      · have hxyz : (x : Int) < (y : Int) := by omega
        have HE := Lib.hid (show bestTo Ls l (i + 1) = i by rw [HN.out, if_pos hxy])
        clear hxy
        go_wp2_with fail
        go_quiet (first | (go_at_call 24; with_reducible exact Calls.quiet_of_same (C1.out _ ((Ext.refl wr).drewN _))) | (go_at_call 24; with_reducible exact Calls.quiet_of_same (C2.out _ ((Ext.refl wr).drewN _))))
        go_wp2_with fail
        go_roundw
        case rel => exact ⟨i + 1, by go_num, by have := HK.out; have := HLT.out; omega, by rw [HE.out], HX.out.drewN _⟩
        case measure => simp [intOf]; have := HLT.out; omega
      · have hxyz : ¬ (x : Int) < (y : Int) := by omega
        have HE := Lib.hid (show bestTo Ls l (i + 1) = k by rw [HN.out, if_neg hxy])
        clear hxy
        go_wp2_with fail
        go_quiet (first | (go_at_call 24; with_reducible exact Calls.quiet_of_same (C1.out _ ((Ext.refl wr).drewN _))) | (go_at_call 24; with_reducible exact Calls.quiet_of_same (C2.out _ ((Ext.refl wr).drewN _))))
        go_wp2_with fail
        go_roundw
        case rel => exact ⟨i + 1, by go_num, by have := HK.out; have := HLT.out; omega, by rw [HE.out], HX.out.drewN _⟩
        case measure => simp [intOf]; have := HLT.out; omega
    · obtain rfl : i = K := by omega
      have hltz : ¬ (i : Int) < (i : Int) := by omega
      have HF := Lib.hid (show k = bestN Ls l by rw [bestN, hk, HK.out])
      clear hx hi hble hk hlt
      go_wp2_with fail
      go_ret
      exact ⟨by rw [← HF.out]; rfl, HX.out⟩
end Go.Proofs.Ytaabmlnbadpfgaa
