/- bytes.Equal; frame.Tail, Ends; pressworkref11.Tail: their walks. -/
import Derived.Test.YtmhkjcoidjpocaaCrcRef
import Derived.Test.YtmhkjcoidjpocaaFrmSum
namespace Go.Proofs.Ytmhkjcoidjpocaa
open Go.RowKit
set_option linter.unusedVariables false
set_option linter.unusedSimpArgs false

theorem frm_equal (u v : Value) (a b : List Nat) (w : World) (hu : ViewL w u (u8s a)) (hv : ViewL w v (u8s b)) (ha : ∀ x ∈ a, x < 256) (hb : ∀ x ∈ b, x < 256) :
    Calls Try.prog 28 #[u, v] w fun e w' => e = .returned (.bool (decide (a = b))) ∧ w = w' := by
  have hs1 := run_string_view (P := Try.prog) 23 9 5 (viewL_view8 hu) Try.underlying23 Try.underlying5 Try.underlying9
  have hs2 := run_string_view (P := Try.prog) 23 9 5 (viewL_view8 hv) Try.underlying23 Try.underlying5 Try.underlying9
  have HE := Lib.hid (str_eq ha hb)
  clear hu hv
  go_enter Try.func28, Try.ntmps28
  go_wp2_with fail
  go_ret
  exact ⟨by rw [← HE.out]; rfl, rfl⟩
/-- a member's tail. -/
def tailL (bs : List Nat) : List Nat := leN 4 (crcL bs) ++ leN 4 bs.length
theorem tailL_lt (bs : List Nat) : ∀ b ∈ tailL bs, b < 256 := fun b hb => by
  rcases List.mem_append.1 hb with h | h
  · exact leN_lt _ _ _ h
  · exact leN_lt _ _ _ h
theorem leN_len (n : Nat) : leN 4 (n % 4294967296) = leN 4 n := by
  simp only [leN, List.range_succ, List.range_zero, List.nil_append, List.map_append, List.map_cons, List.map_nil]
  have e : ∀ k, k < 4 → n % 4294967296 / 256 ^ k % 256 = n / 256 ^ k % 256 := by
    intro k hk
    have : k = 0 ∨ k = 1 ∨ k = 2 ∨ k = 3 := by omega
    rcases this with rfl | rfl | rfl | rfl <;> omega
  rw [e 0 (by decide), e 1 (by decide), e 2 (by decide), e 3 (by decide)]
set_option maxHeartbeats 4000000 in
theorem frm_tail (v : Value) (bs : List Nat) (w : World) (hv : ViewL w v (u8s bs)) (hb : ∀ b ∈ bs, b < 256) (hl : bs.length ≤ 2 ^ 30) : Calls Try.prog 19 #[v] w (CloneOf w (tailL bs)) := by
  obtain ⟨ao, cap, rfl⟩ := hv.shape
  rw [length_u8s] at *
  have k32 : IntKind.u32.wrap (bs.length : Int) = (bs.length : Int) := IntWalk.u32_in _ (by omega)
  have HLOW := Lib.hid (crc_low _ bs w hv hb (by omega))
  clear hv hb
  go_enter Try.func19, Try.ntmps19
  go_wp2_with fail
  refine HLOW.out.mono ?_
  rintro e w2 ⟨rfl, he⟩
  have HE := Lib.hid he
  clear he
  go_wp2_with fail
  refine (frm_low _ none [] (crcL bs) 4 w2 (Owns.nil _ _ _) (by simp) (crcL_lt _) (by decide)).mono ?_
  rintro e w3 ⟨v3, rfl, hre⟩
  have hc := clone_regrown (w := w) (l := []) (Owns.nil w2 5 1) (fun g e => by cases e) HE.out hre
  obtain ⟨u, og, e, k1, k2, k3⟩ := hc
  cases e
  have K3 := Lib.hid (show Ext w w3 from k3)
  have K2 := Lib.hid k2
  have K1 := Lib.hid k1
  clear k1 k2 k3 hre
  go_wp2_with fail
  refine (frm_low _ og _ bs.length 4 w3 K1.out (by simp [length_leN]) (by omega) (by decide)).mono ?_
  rintro e w4 ⟨v4, rfl, hre⟩
  have HF := Lib.hid (clone_regrown (w := w) K1.out K2.out K3.out hre)
  clear hre
  go_wp2_with fail
  go_ret
  exact HF.out
set_option maxHeartbeats 4000000 in
theorem frm_ref_tail (v : Value) (bs : List Nat) (w : World) (hv : ViewL w v (u8s bs)) (hb : ∀ b ∈ bs, b < 256) (hl : bs.length ≤ 2 ^ 30) : Calls Try.prog 18 #[v] w (CloneOf w (tailL bs)) := by
  obtain ⟨i0, hi, hz0, hz1, hz2⟩ := info_parts info_u8
  obtain ⟨ao, cap, rfl⟩ := hv.shape
  rw [length_u8s] at *
  have k32 : IntKind.u32.wrap (bs.length : Int) = (bs.length : Int) := IntWalk.u32_in _ (by omega)
  have HLOW := Lib.hid (crc_ref_low _ bs w hv hb (by omega))
  clear hv hb
  go_enter Try.func18, Try.ntmps18
  go_wp2_with fail
  refine HLOW.out.mono ?_
  rintro e w2 ⟨rfl, rfl⟩
  go_wp2_with fail
  refine (frm_number (crcL bs) 4 w (crcL_lt _) (by decide)).mono ?_
  rintro e w3 ⟨v3, og, rfl, k1, k2, k3⟩
  have k3 : Ext w w3 := k3
  have K3 := Lib.hid k3
  have K2 := Lib.hid k2
  have K1 := Lib.hid k1
  clear k1 k2 k3
  go_wp2_with fail
  refine (frm_number bs.length 4 w3 (by omega) (by decide)).mono ?_
  rintro e w4 ⟨v4, og4, rfl, k1, k2, k3⟩
  have k3 : Ext w3 w4 := k3
  have HO := Lib.hid (show CloneOf w (leN 4 (crcL bs)) (.returned v3) w4 from ⟨v3, og, rfl, K1.out.ext' k3, K2.out, K3.out.trans k3⟩)
  have HV4 := Lib.hid k1.viewL
  have HB := Lib.hid (show w.heap.size ≤ w4.heap.size from (K3.out.trans k3).size)
  clear k1 k2 k3 K1 K2 K3
  go_wp2_with (at_builtin; go_must (refine wpList_append_view _ rfl (.tmp 5) (.tmp 9) 23 rfl w.heap.size 5 i0 (.int .u8 0) 1 Try.underlying23 hi hz0 hz1 hz2 rfl v3 4 (u8s (leN 4 (crcL bs))) rfl (HO.out.own_at (by rw [length_leN])) v4 (u8s (leN 4 bs.length)) rfl HV4.out (u8s_one _) (by rw [length_u8s, length_leN]; decide) (by rw [length_u8s, length_leN]; decide) HB.out ?_))
  intro v' w5 hown' hgrow hat
  obtain ⟨u, og5, e5, k1, k2, k3⟩ := HO.out
  cases e5
  have k3 : Ext w w4 := k3
  have HF := Lib.hid (show CloneOf w (tailL bs) (.returned v') w5 from ⟨v', v'.ownBlock, rfl, ⟨by
    have := ownsRow_zero hown'
    rw [length_u8s] at this
    unfold tailL
    rw [u8s_append, List.length_append, length_leN, length_leN]
    rw [length_leN] at this
    exact this, rfl⟩, own_block_ge hown', Touch.grown k3 hgrow (fun i e => Or.inr (k2 i (by rw [← k1.2]; exact e)))⟩)
  clear hown' hgrow hat k1 k2 k3
  go_wp2_with fail
  go_ret
  exact HF.out
theorem frm_ends (v t : Value) (bs ts : List Nat) (w : World) (hv : ViewL w v (u8s bs)) (ht : ViewL w t (u8s ts)) (hb : ∀ b ∈ bs, b < 256) (htb : ∀ b ∈ ts, b < 256) (hl : bs.length ≤ 2 ^ 30) :
    Calls Try.prog 20 #[v, t] w fun e w' => e = .returned (.bool (decide (ts = tailL bs))) ∧ Ext w w' := by
  have HT := Lib.hid (frm_tail v bs w hv hb hl)
  have HV := Lib.hid ht
  clear hv ht
  go_enter Try.func20, Try.ntmps20
  go_wp2_with fail
  refine HT.out.mono ?_
  rintro e w2 ⟨u, og, rfl, k1, k2, k3⟩
  have k3 : Ext w w2 := k3
  have HQ := Lib.hid (frm_equal t u ts (tailL bs) w2 (HV.out.ext k3) k1.viewL htb (tailL_lt bs))
  have HX := Lib.hid k3
  clear k1 k2 k3
  go_wp2_with fail
  refine HQ.out.mono ?_
  rintro e w3 ⟨rfl, rfl⟩
  go_wp2_with fail
  go_ret
  exact ⟨rfl, HX.out⟩
end Go.Proofs.Ytmhkjcoidjpocaa
