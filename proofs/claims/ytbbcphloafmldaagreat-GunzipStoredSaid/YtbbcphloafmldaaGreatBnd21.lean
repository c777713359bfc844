/- frame.reader.sum: its walk. What a head's reading yields: plain. -/
import Derived.Test.YtbbcphloafmldaaGreatFrmNameZ
/-! frame.reader.sum: its walk. -/
namespace Go.Proofs.YtbbcphloafmldaaGreat
open Go.RowKit
set_option linter.unusedVariables false
set_option linter.unusedSimpArgs false

set_option maxRecDepth 100000 in
set_option maxHeartbeats 4000000 in
theorem frd_sum (w0 : World) (B : Nat) (bo : Option Addr) (bcap : Nat) (bs : List Nat) (p : Nat) (h : Hd) (ev : Value) (wr : Bool) (w : World) (hr : FR w0 B (.slice bo bs.length bcap) p h ev wr w) (hv : ViewL w0 (.slice bo bs.length bcap) (u8s bs)) (hl : bs.length ≤ 2 ^ 40) (hb : ∀ b ∈ bs, b < 256) (hp : p ≤ bs.length) :
    Calls Tryz.prog 53 #[.pointer (some ⟨B, 0, none⟩)] w fun e w' =>
      if p + 2 ≤ bs.length then e = .returned (.tuple #[]) ∧ FRP w0 B (.slice bo bs.length bcap) (p + 2) { h with sum := true } ev (decide (exL bs p ≠ crcL (bs.take p) % 65536)) w w'
      else e = .panicked [formF] ∧ Touch (fun k => k = B) w w' := by
  have c0 : w.cell? ⟨B, 0, none⟩ = some (.slice bo bs.length bcap) := hr.cell 0
  have c1 : w.cell? ⟨B, 1, none⟩ = some (.int .i64 p) := hr.cell 1
  have hcap : bs.length ≤ bcap := by obtain ⟨ao', cap', e, h1, _⟩ := hv; rw [length_u8s] at e h1; cases e; exact h1
  have hpc : (p : Int) ≤ (bcap : Int) := by omega
  have hfr := hv.front p hp
  have e1 : (u8s bs).take p = u8s (bs.take p) := by simp [u8s, List.map_take]
  rw [e1] at hfr
  have hlow : ∀ wx, Ext w wx → Calls Tryz.prog 20 #[.slice bo p bcap] wx fun e w' => e = .returned (.int .u32 (crcL (bs.take p))) ∧ Ext wx w' := fun wx hx =>
    crc_low _ _ wx (hfr.ext (hr.ext.trans hx)) (fun b h => hb b (List.mem_of_mem_take h)) (by rw [List.length_take]; omega)
  have HLOW := Lib.hid hlow
  have hlt := exL_lt bs p hb
  have hcl := crcL_lt (bs.take p)
  obtain ⟨c16, hc16⟩ : ∃ c, c = crcL (bs.take p) % 65536 := ⟨_, rfl⟩
  rw [← hc16]
  have k16 : IntKind.u16.wrap ((crcL (bs.take p) : Nat) : Int) = (c16 : Int) := by rw [hc16, IntKind.wrap_u16]; simp
  clear hlow hfr e1
  generalize crcL (bs.take p) = C at *
  have HC := Lib.hid hc16
  have HR := Lib.hid hr
  have HV := Lib.hid hv
  clear hc16 hr hv
  by_cases h2 : p + 2 ≤ bs.length
  · simp only [if_pos h2]
    have hval : ∀ v wx, ViewL wx v (u8s ((bs.drop p).take 2)) → Calls Tryz.prog 49 #[v] wx fun e w' => e = .returned (.int .u32 (exL bs p)) ∧ wx = w' := fun v wx hvx =>
      frm_value v _ wx hvx (fun x hx => hb x (List.mem_of_mem_drop (List.mem_of_mem_take hx))) (by simp; omega)
    have HVAL := Lib.hid hval
    clear hval
    generalize exL bs p = L at *
    have kl : IntKind.u16.wrap (L : Int) = (L : Int) := by rw [IntKind.wrap_u16]; omega
    have HWR := Lib.hid (show ((L : Int) != (c16 : Int)) = decide (L ≠ c16) by
      by_cases e : L = c16
      · subst e; simp
      · rw [decide_eq_true e]; exact bne_iff_ne.2 (by omega))
    go_enter Tryz.func53, Tryz.ntmps53
    go_wp2_with fail
    refine wp_region_owns 27 [0] [3, 4, 5, 6, 7, 8, 9, 10, 11, 12, 13, 2] [] (fun _ => False) [(12, .pointer (some ⟨B, 0, none⟩)), (0, .pointer (some ⟨B, 0, none⟩)), (1, .pointer (some ⟨B, 0, none⟩)), (2, .pointer (some ⟨B, 0, none⟩)), (3, .slice bo bs.length bcap), (4, .pointer (some ⟨B, 0, none⟩)), (5, .pointer (some ⟨B, 0, none⟩)), (6, .pointer (some ⟨B, 1, none⟩)), (7, .int .i64 p), (8, .slice bo p bcap), (9, .int .u32 C), (10, .int .u16 c16), (11, .int .u16 c16)] [] (by kernel_rfl) rfl (by kernel_rfl) (by kernel_rfl) rfl ?base ⟨?_, ?_, ?_, ?_, ?_, ?_, ?_, ?_, ?_, ?_, ?_, ?_, trivial⟩ ?fin
    case base =>
      refine BaseD.one 99 (fun _ => False) (fun hm0 => absurd hm0 (by decide)) (fun k f => f.elim) (fun t ht _ => ?_)
      simp only [List.mem_cons, List.not_mem_nil, or_false] at ht
      subst ht
      exact PhiD.ofVal rfl rfl
    · refine OblD.val (.pointer (some ⟨B, 0, none⟩)) (fun ev w1 Ss hE hT hk => ?_) (fun _ => PhiD.ofVal rfl rfl)
      obtain ⟨hc, hf, hg⟩ := hE
      have h0 := PhiD.fact (kn (k' := 12) hk.1 (by kernel_rfl)) rfl rfl
      clear hk
      exact ⟨rfl, by go_simp⟩
    · refine OblD.val (.pointer (some ⟨B, 0, none⟩)) (fun ev w1 Ss hE hT hk => ?_) (fun _ => PhiD.ofVal rfl rfl)
      obtain ⟨hc, hf, hg⟩ := hE
      have h0 := PhiD.fact (kn (k' := 0) hk.1 (by kernel_rfl)) rfl rfl
      clear hk
      exact ⟨rfl, by go_simp⟩
    · refine OblD.val (.pointer (some ⟨B, 0, none⟩)) (fun ev w1 Ss hE hT hk => ?_) (fun _ => PhiD.ofVal rfl rfl)
      obtain ⟨hc, hf, hg⟩ := hE
      have h0 := PhiD.fact (kn (k' := 1) hk.1 (by kernel_rfl)) rfl rfl
      clear hk
      exact ⟨rfl, by go_simp⟩
    · refine OblD.val (.slice bo bs.length bcap) (fun ev w1 Ss hE hT hk => ?_) (fun _ => PhiD.ofVal rfl rfl)
      obtain ⟨hc, hf, hg⟩ := hE
      have h0 := PhiD.fact (kn (k' := 2) hk.1 (by kernel_rfl)) rfl rfl
      clear hk
      have c9c := cell_touch hT.drew_l c0 (fun f => f)
      exact ⟨rfl, by go_simp⟩
    · refine OblD.val (.pointer (some ⟨B, 0, none⟩)) (fun ev w1 Ss hE hT hk => ?_) (fun _ => PhiD.ofVal rfl rfl)
      obtain ⟨hc, hf, hg⟩ := hE
      have h0 := PhiD.fact (kn (k' := 12) hk.1 (by kernel_rfl)) rfl rfl
      clear hk
      exact ⟨rfl, by go_simp⟩
    · refine OblD.val (.pointer (some ⟨B, 0, none⟩)) (fun ev w1 Ss hE hT hk => ?_) (fun _ => PhiD.ofVal rfl rfl)
      obtain ⟨hc, hf, hg⟩ := hE
      have h0 := PhiD.fact (kn (k' := 4) hk.1 (by kernel_rfl)) rfl rfl
      clear hk
      exact ⟨rfl, by go_simp⟩
    · refine OblD.val (.pointer (some ⟨B, 1, none⟩)) (fun ev w1 Ss hE hT hk => ?_) (fun _ => PhiD.ofVal rfl rfl)
      obtain ⟨hc, hf, hg⟩ := hE
      have h0 := PhiD.fact (kn (k' := 5) hk.1 (by kernel_rfl)) rfl rfl
      clear hk
      exact ⟨rfl, by go_simp⟩
    · refine OblD.val (.int .i64 p) (fun ev w1 Ss hE hT hk => ?_) (fun _ => PhiD.ofVal rfl rfl)
      obtain ⟨hc, hf, hg⟩ := hE
      have h0 := PhiD.fact (kn (k' := 6) hk.1 (by kernel_rfl)) rfl rfl
      clear hk
      have c9c := cell_touch hT.drew_l c1 (fun f => f)
      exact ⟨rfl, by go_simp⟩
    · refine OblD.val (.slice bo p bcap) (fun ev w1 Ss hE hT hk => ?_) (fun _ => PhiD.ofVal rfl rfl)
      obtain ⟨hc, hf, hg⟩ := hE
      have h0 := PhiD.fact (kn (k' := 3) hk.1 (by kernel_rfl)) rfl rfl; have h1 := PhiD.fact (kn (k' := 7) hk.2.1 (by kernel_rfl)) rfl rfl
      clear hk
      exact ⟨rfl, by go_simp⟩
    · refine OblD.call 20 (fun ev => #[.slice bo p bcap]) (fun ev w1 Ss hE hT hk hd hs => ?_)
      obtain ⟨hc, hf, hg⟩ := hE
      have h0 := PhiD.fact (kn (k' := 8) hk.1 (by kernel_rfl)) rfl rfl
      clear hk
      refine ⟨rfl, by go_simp, ?_⟩
      have hx : Ext w w1 := hT.drew_l
      refine (HLOW.out w1 hx).mono ?_
      rintro e w2 ⟨rfl, hx2⟩
      exact ⟨_, fun _ => False, rfl, hx2.mono (fun _ _ f => f.elim), fun k f => f.elim, PhiD.ofVal rfl rfl⟩
    · refine OblD.val (.int .u16 c16) (fun ev w1 Ss hE hT hk => ?_) (fun _ => PhiD.ofVal rfl rfl)
      obtain ⟨hc, hf, hg⟩ := hE
      have h0 := PhiD.fact (kn (k' := 9) hk.1 (by kernel_rfl)) rfl rfl
      clear hk
      exact ⟨rfl, by go_simp⟩
    · refine OblD.val (.int .u16 c16) (fun ev w1 Ss hE hT hk => ?_) (fun _ => PhiD.ofVal rfl rfl)
      obtain ⟨hc, hf, hg⟩ := hE
      have h0 := PhiD.fact (kn (k' := 10) hk.1 (by kernel_rfl)) rfl rfl
      clear hk
      exact ⟨rfl, by go_simp⟩
    case fin =>
      intro vs w5 Ss hT hF hB
      have e2 : vs 2 = .int .u16 c16 := PhiD.fact (hF 11 _ 2 rfl rfl (by kernel_rfl)).1 rfl rfl
      clear hF hB
      simp only [List.foldl_cons, List.foldl_nil]
      rw [e2]
      generalize vs 3 = x3
      generalize vs 4 = x4
      generalize vs 5 = x5
      generalize vs 6 = x6
      generalize vs 7 = x7
      generalize vs 8 = x8
      generalize vs 9 = x9
      generalize vs 10 = x10
      generalize vs 11 = x11
      generalize vs 12 = x12
      generalize vs 13 = x13
      simp only [Act.put, List.setIfInBounds_toArray, List.set_cons_succ, List.set_cons_zero]
      clear e2
      have hx5 : Ext w w5 := hT
      clear hT c0 c1
      have h5 := HR.out.up hx5
      have c10 : w5.cell? ⟨B, 10, none⟩ = some (.bool h.sum) := h5.cell 10
      have f10 := h5.free 10
      have HS := Lib.hid ((HR.out.up2 hx5).step (h5.set (at2 := p) (h2 := { h with sum := true }) (ev2 := ev) (wr2 := wr) 10 (.bool true) rfl h5.own))
      clear h5 hx5
      go_wp2_with fail
      refine (frd_take_ok w0 B bo bcap bs p 2 _ ev wr _ HS.out.1 HV.out hl h2).mono ?_
      rintro e w2 ⟨v, rfl, hv2, hf⟩
      have HF := Lib.hid (HS.out.step hf)
      have HV2 := Lib.hid (hv2.ext hf.1.ext)
      clear hv2 hf HS
      go_wp2_with fail
      refine (HVAL.out v _ HV2.out).mono ?_
      rintro e w3 ⟨rfl, rfl⟩
      have c11 : w2.cell? ⟨B, 11, none⟩ = some (.bool wr) := HF.out.1.cell 11
      have f11 := HF.out.1.free 11
      have HG := Lib.hid (HF.out.step (HF.out.1.set (at2 := p + 2) (h2 := { h with sum := true }) (ev2 := ev) (wr2 := ((L : Int) != (c16 : Int))) 11 (.bool ((L : Int) != (c16 : Int))) rfl HF.out.1.own))
      clear HF HV2 HVAL
      go_wp2_with fail
      go_end0
      refine ⟨rfl, ?_⟩
      rw [← HWR.out]
      exact HG.out
  · simp only [if_neg h2]
    go_enter Tryz.func53, Tryz.ntmps53
    go_wp2_with fail
    refine wp_region_owns 27 [0] [3, 4, 5, 6, 7, 8, 9, 10, 11, 12, 13, 2] [] (fun _ => False) [(12, .pointer (some ⟨B, 0, none⟩)), (0, .pointer (some ⟨B, 0, none⟩)), (1, .pointer (some ⟨B, 0, none⟩)), (2, .pointer (some ⟨B, 0, none⟩)), (3, .slice bo bs.length bcap), (4, .pointer (some ⟨B, 0, none⟩)), (5, .pointer (some ⟨B, 0, none⟩)), (6, .pointer (some ⟨B, 1, none⟩)), (7, .int .i64 p), (8, .slice bo p bcap), (9, .int .u32 C), (10, .int .u16 c16), (11, .int .u16 c16)] [] (by kernel_rfl) rfl (by kernel_rfl) (by kernel_rfl) rfl ?base ⟨?_, ?_, ?_, ?_, ?_, ?_, ?_, ?_, ?_, ?_, ?_, ?_, trivial⟩ ?fin
    case base =>
      refine BaseD.one 99 (fun _ => False) (fun hm0 => absurd hm0 (by decide)) (fun k f => f.elim) (fun t ht _ => ?_)
      simp only [List.mem_cons, List.not_mem_nil, or_false] at ht
      subst ht
      exact PhiD.ofVal rfl rfl
    · refine OblD.val (.pointer (some ⟨B, 0, none⟩)) (fun ev w1 Ss hE hT hk => ?_) (fun _ => PhiD.ofVal rfl rfl)
      obtain ⟨hc, hf, hg⟩ := hE
      have h0 := PhiD.fact (kn (k' := 12) hk.1 (by kernel_rfl)) rfl rfl
      clear hk
      exact ⟨rfl, by go_simp⟩
    · refine OblD.val (.pointer (some ⟨B, 0, none⟩)) (fun ev w1 Ss hE hT hk => ?_) (fun _ => PhiD.ofVal rfl rfl)
      obtain ⟨hc, hf, hg⟩ := hE
      have h0 := PhiD.fact (kn (k' := 0) hk.1 (by kernel_rfl)) rfl rfl
      clear hk
      exact ⟨rfl, by go_simp⟩
    · refine OblD.val (.pointer (some ⟨B, 0, none⟩)) (fun ev w1 Ss hE hT hk => ?_) (fun _ => PhiD.ofVal rfl rfl)
      obtain ⟨hc, hf, hg⟩ := hE
      have h0 := PhiD.fact (kn (k' := 1) hk.1 (by kernel_rfl)) rfl rfl
      clear hk
      exact ⟨rfl, by go_simp⟩
    · refine OblD.val (.slice bo bs.length bcap) (fun ev w1 Ss hE hT hk => ?_) (fun _ => PhiD.ofVal rfl rfl)
      obtain ⟨hc, hf, hg⟩ := hE
      have h0 := PhiD.fact (kn (k' := 2) hk.1 (by kernel_rfl)) rfl rfl
      clear hk
      have c9c := cell_touch hT.drew_l c0 (fun f => f)
      exact ⟨rfl, by go_simp⟩
    · refine OblD.val (.pointer (some ⟨B, 0, none⟩)) (fun ev w1 Ss hE hT hk => ?_) (fun _ => PhiD.ofVal rfl rfl)
      obtain ⟨hc, hf, hg⟩ := hE
      have h0 := PhiD.fact (kn (k' := 12) hk.1 (by kernel_rfl)) rfl rfl
      clear hk
      exact ⟨rfl, by go_simp⟩
    · refine OblD.val (.pointer (some ⟨B, 0, none⟩)) (fun ev w1 Ss hE hT hk => ?_) (fun _ => PhiD.ofVal rfl rfl)
      obtain ⟨hc, hf, hg⟩ := hE
      have h0 := PhiD.fact (kn (k' := 4) hk.1 (by kernel_rfl)) rfl rfl
      clear hk
      exact ⟨rfl, by go_simp⟩
    · refine OblD.val (.pointer (some ⟨B, 1, none⟩)) (fun ev w1 Ss hE hT hk => ?_) (fun _ => PhiD.ofVal rfl rfl)
      obtain ⟨hc, hf, hg⟩ := hE
      have h0 := PhiD.fact (kn (k' := 5) hk.1 (by kernel_rfl)) rfl rfl
      clear hk
      exact ⟨rfl, by go_simp⟩
    · refine OblD.val (.int .i64 p) (fun ev w1 Ss hE hT hk => ?_) (fun _ => PhiD.ofVal rfl rfl)
      obtain ⟨hc, hf, hg⟩ := hE
      have h0 := PhiD.fact (kn (k' := 6) hk.1 (by kernel_rfl)) rfl rfl
      clear hk
      have c9c := cell_touch hT.drew_l c1 (fun f => f)
      exact ⟨rfl, by go_simp⟩
    · refine OblD.val (.slice bo p bcap) (fun ev w1 Ss hE hT hk => ?_) (fun _ => PhiD.ofVal rfl rfl)
      obtain ⟨hc, hf, hg⟩ := hE
      have h0 := PhiD.fact (kn (k' := 3) hk.1 (by kernel_rfl)) rfl rfl; have h1 := PhiD.fact (kn (k' := 7) hk.2.1 (by kernel_rfl)) rfl rfl
      clear hk
      exact ⟨rfl, by go_simp⟩
    · refine OblD.call 20 (fun ev => #[.slice bo p bcap]) (fun ev w1 Ss hE hT hk hd hs => ?_)
      obtain ⟨hc, hf, hg⟩ := hE
      have h0 := PhiD.fact (kn (k' := 8) hk.1 (by kernel_rfl)) rfl rfl
      clear hk
      refine ⟨rfl, by go_simp, ?_⟩
      have hx : Ext w w1 := hT.drew_l
      refine (HLOW.out w1 hx).mono ?_
      rintro e w2 ⟨rfl, hx2⟩
      exact ⟨_, fun _ => False, rfl, hx2.mono (fun _ _ f => f.elim), fun k f => f.elim, PhiD.ofVal rfl rfl⟩
    · refine OblD.val (.int .u16 c16) (fun ev w1 Ss hE hT hk => ?_) (fun _ => PhiD.ofVal rfl rfl)
      obtain ⟨hc, hf, hg⟩ := hE
      have h0 := PhiD.fact (kn (k' := 9) hk.1 (by kernel_rfl)) rfl rfl
      clear hk
      exact ⟨rfl, by go_simp⟩
    · refine OblD.val (.int .u16 c16) (fun ev w1 Ss hE hT hk => ?_) (fun _ => PhiD.ofVal rfl rfl)
      obtain ⟨hc, hf, hg⟩ := hE
      have h0 := PhiD.fact (kn (k' := 10) hk.1 (by kernel_rfl)) rfl rfl
      clear hk
      exact ⟨rfl, by go_simp⟩
    case fin =>
      intro vs w5 Ss hT hF hB
      have e2 : vs 2 = .int .u16 c16 := PhiD.fact (hF 11 _ 2 rfl rfl (by kernel_rfl)).1 rfl rfl
      clear hF hB
      simp only [List.foldl_cons, List.foldl_nil]
      rw [e2]
      generalize vs 3 = x3
      generalize vs 4 = x4
      generalize vs 5 = x5
      generalize vs 6 = x6
      generalize vs 7 = x7
      generalize vs 8 = x8
      generalize vs 9 = x9
      generalize vs 10 = x10
      generalize vs 11 = x11
      generalize vs 12 = x12
      generalize vs 13 = x13
      simp only [Act.put, List.setIfInBounds_toArray, List.set_cons_succ, List.set_cons_zero]
      clear e2
      have hx5 : Ext w w5 := hT
      clear hT c0 c1
      have h5 := HR.out.up hx5
      have c10 : w5.cell? ⟨B, 10, none⟩ = some (.bool h.sum) := h5.cell 10
      have f10 := h5.free 10
      have HS := Lib.hid ((HR.out.up2 hx5).step (h5.set (at2 := p) (h2 := { h with sum := true }) (ev2 := ev) (wr2 := wr) 10 (.bool true) rfl h5.own))
      clear h5 hx5
      go_wp2_with fail
      refine (frd_take_bad w0 B bo bcap bs p 2 _ ev wr _ HS.out.1 hl hp (by omega)).mono ?_
      rintro e w2 ⟨rfl, hf⟩
      exact ⟨rfl, rfl, (HS.out.step hf).2⟩
end Go.Proofs.YtbbcphloafmldaaGreat

/-! What a head's reading yields: plain. -/
namespace Go.Proofs.YtbbcphloafmldaaGreat
set_option linter.unusedVariables false

def fz (bs : List Nat) (p : Nat) : Option Nat := if fzI (bs.drop p) = -1 then none else some (fzI (bs.drop p)).toNat
def stX (bs : List Nat) (f : Nat) (s : Hd × Nat) : Option (Hd × Nat) :=
  if f / 4 % 2 = 1 then (if s.2 + 2 + exL bs s.2 ≤ bs.length then some ({ s.1 with has := s.1.has + 1, extra := exB bs s.2 }, s.2 + 2 + exL bs s.2) else none) else some s
def stN (bs : List Nat) (f : Nat) (s : Hd × Nat) : Option (Hd × Nat) :=
  if f / 8 % 2 = 1 then (fz bs s.2).map fun z => ({ s.1 with has := s.1.has + 2, name := strOf ((bs.drop s.2).take z) }, s.2 + (z + 1)) else some s
def stC (bs : List Nat) (f : Nat) (s : Hd × Nat) : Option (Hd × Nat) :=
  if f / 16 % 2 = 1 then (fz bs s.2).map fun z => ({ s.1 with has := s.1.has + 4, comment := strOf ((bs.drop s.2).take z) }, s.2 + (z + 1)) else some s
def stS (bs : List Nat) (f : Nat) (s : Hd × Nat) : Option (Hd × Nat × Bool) :=
  if f / 2 % 2 = 1 then (if s.2 + 2 ≤ bs.length then some ({ s.1 with sum := true }, s.2 + 2, decide (exL bs s.2 ≠ crcL (bs.take s.2) % 65536)) else none) else some (s.1, s.2, false)
def hd0 (bs : List Nat) : Hd := { text := decide (bs.getD 3 0 % 2 = 1), time := valL ((bs.drop 4).take 4), xfl := bs.getD 8 0, os := bs.getD 9 0, extra := [], name := ⟨#[]⟩, comment := ⟨#[]⟩, has := 0, sum := false }
def getH (bs : List Nat) : Option (Hd × Nat × Bool) :=
  if 10 ≤ bs.length ∧ bs.take 3 = [31, 139, 8] ∧ bs.getD 3 0 < 32 then
    (stX bs (bs.getD 3 0) (hd0 bs, 10)).bind fun s => (stN bs (bs.getD 3 0) s).bind fun s => (stC bs (bs.getD 3 0) s).bind fun s => stS bs (bs.getD 3 0) s
  else none
end Go.Proofs.YtbbcphloafmldaaGreat
