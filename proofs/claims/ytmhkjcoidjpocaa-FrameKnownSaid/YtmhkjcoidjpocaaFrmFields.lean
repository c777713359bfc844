/- frame.reader.extra, sum: their walks. -/
import Derived.Test.YtmhkjcoidjpocaaFrmWord
import Derived.Test.YtmhkjcoidjpocaaBClone
namespace Go.Proofs.Ytmhkjcoidjpocaa
open Go.RowKit
set_option linter.unusedVariables false
set_option linter.unusedSimpArgs false

theorem or_has : ∀ x : Fin 8, ∀ b : Fin 3, x.val / 2 ^ b.val % 2 = 0 → bits .or .u8 ((x.val : Nat) : Int) ((2 ^ b.val : Nat) : Int) = ((x.val + 2 ^ b.val : Nat) : Int) := by decide +kernel
theorem FRP.touch {w0 w w1 : World} {B at_ : Nat} {bv ev : Value} {h : Hd} {wr : Bool} (r : FRP w0 B bv at_ h ev wr w w1) : Touch (fun k => k = B) w w1 := r.2
/-- what 'extra' reads. -/
def exL (bs : List Nat) (p : Nat) : Nat := valL ((bs.drop p).take 2)
def exB (bs : List Nat) (p : Nat) : List Nat := (bs.drop (p + 2)).take (exL bs p)
theorem exL_lt (bs : List Nat) (p : Nat) (hb : ∀ b ∈ bs, b < 256) : exL bs p < 65536 := by
  have := valL_lt ((bs.drop p).take 2) (fun x hx => hb x (List.mem_of_mem_drop (List.mem_of_mem_take hx)))
  have h2 : ((bs.drop p).take 2).length ≤ 2 := by simp; omega
  unfold exL
  have : 256 ^ ((bs.drop p).take 2).length ≤ 256 ^ 2 := Nat.pow_le_pow_right (by decide) h2
  omega
set_option maxHeartbeats 4000000 in
theorem frd_extra (w0 : World) (B : Nat) (bo : Option Addr) (bcap : Nat) (bs : List Nat) (p : Nat) (h : Hd) (ev : Value) (wr : Bool) (w : World) (hr : FR w0 B (.slice bo bs.length bcap) p h ev wr w) (hv : ViewL w0 (.slice bo bs.length bcap) (u8s bs)) (hl : bs.length ≤ 2 ^ 40) (hb : ∀ b ∈ bs, b < 256) (hp : p ≤ bs.length) (hh : h.has < 8 ∧ h.has % 2 = 0) :
    Calls Try.prog 30 #[.pointer (some ⟨B, 0, none⟩)] w fun e w' =>
      if p + 2 + exL bs p ≤ bs.length then ∃ ev', e = .returned (.tuple #[]) ∧ FRP w0 B (.slice bo bs.length bcap) (p + 2 + exL bs p) { h with has := h.has + 1, extra := exB bs p } ev' wr w w'
      else e = .panicked [formF] ∧ Touch (fun k => k = B) w w' := by
  have c9 : w.cell? ⟨B, 9, none⟩ = some (.int .u8 h.has) := hr.cell 9
  have f9 := hr.free 9
  obtain ⟨m, hm⟩ : ∃ m, m = h.has + 1 := ⟨_, rfl⟩
  rw [← hm]
  have hor : bits .or .u8 (h.has : Int) 1 = (m : Int) := by rw [hm]; exact or_has ⟨h.has, hh.1⟩ 0 (by simpa using hh.2)
  have hlt := exL_lt bs p hb
  have HH := Lib.hid (hr.set (at2 := p) (h2 := { h with has := m }) (ev2 := ev) (wr2 := wr) 9 (.int .u8 (m : Int)) rfl hr.own)
  have HV := Lib.hid hv
  have hE := hr.ext
  clear hv hr hm
  by_cases h2 : p + 2 ≤ bs.length
  · have hval : ∀ v wx, ViewL wx v (u8s ((bs.drop p).take 2)) → Calls Try.prog 29 #[v] wx fun e w' => e = .returned (.int .u32 (exL bs p)) ∧ wx = w' := fun v wx hvx =>
      frm_value v _ wx hvx (fun x hx => hb x (List.mem_of_mem_drop (List.mem_of_mem_take hx))) (by simp; omega)
    have HVAL := Lib.hid hval
    clear hval
    have kc : IntKind.i64.wrap ((exL bs p : Nat) : Int) = (exL bs p : Nat) := IntWalk.i64_in _ (by omega)
    have hex : exB bs p = (bs.drop (p + 2)).take (exL bs p) := rfl
    have HEX := Lib.hid hex
    clear hex
    generalize exL bs p = L at *
    by_cases h3 : p + 2 + L ≤ bs.length
    · simp only [if_pos h3]
      go_enter Try.func30, Try.ntmps30
      go_wp2_with fail
      refine (frd_take_ok w0 B bo bcap bs p 2 _ ev wr _ HH.out.1 HV.out hl h2).mono ?_
      rintro e w2 ⟨v, rfl, hv2, hf⟩
      have HF := Lib.hid (HH.out.step hf)
      have HV2 := Lib.hid (hv2.ext hf.1.ext)
      clear hv2 hf HH
      go_wp2_with fail
      refine (HVAL.out v _ HV2.out).mono ?_
      rintro e w3 ⟨rfl, rfl⟩
      go_wp2_with fail
      refine (frd_take_ok w0 B bo bcap bs (p + 2) L _ ev wr _ HF.out.1 HV.out hl h3).mono ?_
      rintro e w4 ⟨v4, rfl, hv4, hf⟩
      have HF4 := Lib.hid (HF.out.step hf)
      have HV4 := Lib.hid (hv4.ext hf.1.ext)
      clear hv4 hf HF HV2 HVAL
      go_wp2_with fail
      refine (bclone v4 _ _ (viewL_view8 HV4.out) (by rw [List.length_take, List.length_drop]; omega)).mono ?_
      rintro e w5 ⟨v5, og, rfl, k1, k2, k3⟩
      have k3 : Ext w4 w5 := k3
      rw [← HEX.out] at k1
      obtain ⟨so, sc, rfl⟩ := k1.shape
      have hfr := HF4.out.up k3
      have hb6 := hfr.1.free 6
      have c6 : w5.cell? ⟨B, 6, none⟩ = some ev := hfr.1.cell 6
      have HB4 := Lib.hid (show B < w4.heap.size from block_lt HF4.out.1.box)
      have HLOW := Lib.hid (show w0.heap.size ≤ w4.heap.size from HF4.out.1.ext.size)
      have HS := Lib.hid (hfr.step (hfr.1.set (at2 := p + 2 + L) (h2 := { h with has := m, extra := exB bs p }) (ev2 := .slice so (exB bs p).length sc) (wr2 := wr) 6 (.slice so (exB bs p).length sc) rfl ⟨og, k1, fun e => by have := k2 B e; have := HB4.out; omega, fun g e => Nat.le_trans HLOW.out (k2 g e)⟩))
      clear k1 k2 k3 hfr HF4 HV4
      go_wp2_with fail
      go_end0
      exact ⟨_, rfl, HS.out⟩
    · simp only [if_neg h3]
      go_enter Try.func30, Try.ntmps30
      go_wp2_with fail
      refine (frd_take_ok w0 B bo bcap bs p 2 _ ev wr _ HH.out.1 HV.out hl h2).mono ?_
      rintro e w2 ⟨v, rfl, hv2, hf⟩
      have HF := Lib.hid (HH.out.step hf)
      have HV2 := Lib.hid (hv2.ext hf.1.ext)
      clear hv2 hf HH
      go_wp2_with fail
      refine (HVAL.out v _ HV2.out).mono ?_
      rintro e w3 ⟨rfl, rfl⟩
      go_wp2_with fail
      refine (frd_take_bad w0 B bo bcap bs (p + 2) L _ ev wr _ HF.out.1 hl h2 (by omega)).mono ?_
      rintro e w4 ⟨rfl, hf⟩
      exact ⟨rfl, rfl, (HF.out.step hf).2⟩
  · have h3 : ¬ (p + 2 + exL bs p ≤ bs.length) := by omega
    simp only [if_neg h3]
    go_enter Try.func30, Try.ntmps30
    go_wp2_with fail
    refine (frd_take_bad w0 B bo bcap bs p 2 _ ev wr _ HH.out.1 hl hp (by omega)).mono ?_
    rintro e w2 ⟨rfl, hf⟩
    exact ⟨rfl, rfl, (HH.out.step hf).2⟩
end Go.Proofs.Ytmhkjcoidjpocaa
