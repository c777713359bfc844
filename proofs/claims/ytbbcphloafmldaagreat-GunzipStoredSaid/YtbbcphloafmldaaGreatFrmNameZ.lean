/- frame.reader.name, comment: their walks. -/
import Derived.Deep.RegionWith
import Derived.Test.YtbbcphloafmldaaGreatBnd20
import Derived.Test.YtbbcphloafmldaaGreatOwnPanZ
namespace Go.Proofs.YtbbcphloafmldaaGreat
open Go.RowKit
set_option linter.unusedVariables false
set_option linter.unusedSimpArgs false

set_option maxRecDepth 100000 in
set_option maxHeartbeats 4000000 in
theorem frd_name (w0 : World) (B : Nat) (bo : Option Addr) (bcap : Nat) (bs : List Nat) (p : Nat) (h : Hd) (ev : Value) (wr : Bool) (w : World) (hr : FR w0 B (.slice bo bs.length bcap) p h ev wr w) (hv : ViewL w0 (.slice bo bs.length bcap) (u8s bs)) (hl : bs.length ≤ 2 ^ 40) (hb : ∀ b ∈ bs, b < 256) (hp : p ≤ bs.length) (hh : h.has < 8 ∧ h.has / 2 % 2 = 0) :
    Calls Tryz.prog 51 #[.pointer (some ⟨B, 0, none⟩)] w fun e w' =>
      (fzI (bs.drop p) = -1 → e = .panicked [formF] ∧ Touch (fun k => k = B) w w') ∧
      (∀ z : Nat, fzI (bs.drop p) = z → e = .returned (.tuple #[]) ∧ FRP w0 B (.slice bo bs.length bcap) (p + (z + 1)) { h with has := h.has + 2, name := strOf ((bs.drop p).take z) } ev wr w w') := by
  have c9 : w.cell? ⟨B, 9, none⟩ = some (.int .u8 h.has) := hr.cell 9
  have f9 := hr.free 9
  obtain ⟨m, hm⟩ : ∃ m, m = h.has + 2 := ⟨_, rfl⟩
  rw [← hm]
  have hor : bits .or .u8 (h.has : Int) 2 = (m : Int) := by rw [hm]; exact or_has ⟨h.has, hh.1⟩ 1 (by simpa using hh.2)
  have HR := Lib.hid hr
  have HV := Lib.hid hv
  have HW := Lib.hid (fun w' hx => (frd_word w0 B bo bcap bs p h ev wr w' (HR.out.up hx) HV.out hl hb hp))
  clear hv hr hm
  by_cases hz : fzI (bs.drop p) = -1
  · have HZ := Lib.hid hz
    clear hz
    go_enter Tryz.func51, Tryz.ntmps51
    refine wp_region_pan 9 _ 18 [0] [(18, .pointer (some ⟨B, 0, none⟩)), (0, .pointer (some ⟨B, 0, none⟩)), (1, .pointer (some ⟨B, 0, none⟩)), (2, .pointer (some ⟨B, 0, none⟩)), (3, .pointer (some ⟨B, 0, none⟩)), (4, .pointer (some ⟨B, 2, none⟩)), (5, .pointer (some ⟨B, 9, none⟩)), (6, .int .u8 h.has), (7, .int .u8 m), (8, .pointer (some ⟨B, 0, none⟩)), (10, .pointer (some ⟨B, 0, none⟩)), (11, .pointer (some ⟨B, 2, none⟩)), (12, .pointer (some ⟨B, 9, none⟩)), (14, .pointer (some ⟨B, 0, none⟩)), (15, .pointer (some ⟨B, 2, none⟩)), (16, .pointer (some ⟨B, 7, none⟩))] (by kernel_rfl) rfl (by kernel_rfl) rfl ?base ⟨?_, ?_, ?_, ?_, ?_, ?_, ?_, ?_, ?_, ?_, ?_, ?_, ?_, ?_, ?_, ?_, ?_, ?_, trivial⟩ ?pan
    case base =>
      refine BaseD.one 99 (fun _ => False) (fun hm0 => absurd hm0 (by decide)) (fun k f => f.elim) (fun t ht _ => ?_)
      simp only [List.mem_cons, List.not_mem_nil, or_false] at ht
      subst ht
      exact PhiD.ofVal rfl rfl
    · refine fun _ => OblD.val (.pointer (some ⟨B, 0, none⟩)) (fun ev w1 Ss hE hT hk => ?_) (fun _ => PhiD.ofVal rfl rfl)
      obtain ⟨hc, hf, hg⟩ := hE
      have h0 := PhiD.fact (kn (k' := 18) hk.1 (by kernel_rfl)) rfl rfl
      clear hk
      exact ⟨rfl, by go_simp⟩
    · refine fun _ => OblD.val (.pointer (some ⟨B, 0, none⟩)) (fun ev w1 Ss hE hT hk => ?_) (fun _ => PhiD.ofVal rfl rfl)
      obtain ⟨hc, hf, hg⟩ := hE
      have h0 := PhiD.fact (kn (k' := 18) hk.1 (by kernel_rfl)) rfl rfl
      clear hk
      exact ⟨rfl, by go_simp⟩
    · refine fun _ => OblD.val (.pointer (some ⟨B, 0, none⟩)) (fun ev w1 Ss hE hT hk => ?_) (fun _ => PhiD.ofVal rfl rfl)
      obtain ⟨hc, hf, hg⟩ := hE
      have h0 := PhiD.fact (kn (k' := 18) hk.1 (by kernel_rfl)) rfl rfl
      clear hk
      exact ⟨rfl, by go_simp⟩
    · refine fun _ => OblD.val (.pointer (some ⟨B, 0, none⟩)) (fun ev w1 Ss hE hT hk => ?_) (fun _ => PhiD.ofVal rfl rfl)
      obtain ⟨hc, hf, hg⟩ := hE
      have h0 := PhiD.fact (kn (k' := 2) hk.1 (by kernel_rfl)) rfl rfl
      clear hk
      exact ⟨rfl, by go_simp⟩
    · refine fun _ => OblD.val (.pointer (some ⟨B, 2, none⟩)) (fun ev w1 Ss hE hT hk => ?_) (fun _ => PhiD.ofVal rfl rfl)
      obtain ⟨hc, hf, hg⟩ := hE
      have h0 := PhiD.fact (kn (k' := 3) hk.1 (by kernel_rfl)) rfl rfl
      clear hk
      exact ⟨rfl, by go_simp⟩
    · refine fun _ => OblD.val (.pointer (some ⟨B, 9, none⟩)) (fun ev w1 Ss hE hT hk => ?_) (fun _ => PhiD.ofVal rfl rfl)
      obtain ⟨hc, hf, hg⟩ := hE
      have h0 := PhiD.fact (kn (k' := 4) hk.1 (by kernel_rfl)) rfl rfl
      clear hk
      exact ⟨rfl, by go_simp⟩
    · refine fun _ => OblD.val (.int .u8 h.has) (fun ev w1 Ss hE hT hk => ?_) (fun _ => PhiD.ofVal rfl rfl)
      obtain ⟨hc, hf, hg⟩ := hE
      have h0 := PhiD.fact (kn (k' := 5) hk.1 (by kernel_rfl)) rfl rfl
      clear hk
      have c9c := cell_touch hT.drew_l c9 (fun f => f)
      exact ⟨rfl, by go_simp⟩
    · refine fun _ => OblD.val (.int .u8 m) (fun ev w1 Ss hE hT hk => ?_) (fun _ => PhiD.ofVal rfl rfl)
      obtain ⟨hc, hf, hg⟩ := hE
      have h0 := PhiD.fact (kn (k' := 6) hk.1 (by kernel_rfl)) rfl rfl
      clear hk
      exact ⟨rfl, by go_simp⟩
    · refine fun _ => OblD.val (.pointer (some ⟨B, 0, none⟩)) (fun ev w1 Ss hE hT hk => ?_) (fun _ => PhiD.ofVal rfl rfl)
      obtain ⟨hc, hf, hg⟩ := hE
      have h0 := PhiD.fact (kn (k' := 18) hk.1 (by kernel_rfl)) rfl rfl
      clear hk
      exact ⟨rfl, by go_simp⟩
    · exact fun hne => absurd hne (by rw [show needB _ 9 9 = true from by kernel_rfl]; decide)
    · refine fun _ => OblD.val (.pointer (some ⟨B, 0, none⟩)) (fun ev w1 Ss hE hT hk => ?_) (fun _ => PhiD.ofVal rfl rfl)
      obtain ⟨hc, hf, hg⟩ := hE
      have h0 := PhiD.fact (kn (k' := 0) hk.1 (by kernel_rfl)) rfl rfl
      clear hk
      exact ⟨rfl, by go_simp⟩
    · refine fun _ => OblD.val (.pointer (some ⟨B, 2, none⟩)) (fun ev w1 Ss hE hT hk => ?_) (fun _ => PhiD.ofVal rfl rfl)
      obtain ⟨hc, hf, hg⟩ := hE
      have h0 := PhiD.fact (kn (k' := 10) hk.1 (by kernel_rfl)) rfl rfl
      clear hk
      exact ⟨rfl, by go_simp⟩
    · refine fun _ => OblD.val (.pointer (some ⟨B, 9, none⟩)) (fun ev w1 Ss hE hT hk => ?_) (fun _ => PhiD.ofVal rfl rfl)
      obtain ⟨hc, hf, hg⟩ := hE
      have h0 := PhiD.fact (kn (k' := 11) hk.1 (by kernel_rfl)) rfl rfl
      clear hk
      exact ⟨rfl, by go_simp⟩
    · exact fun hne => absurd hne (by rw [show needB _ 9 13 = true from by kernel_rfl]; decide)
    · refine fun _ => OblD.val (.pointer (some ⟨B, 0, none⟩)) (fun ev w1 Ss hE hT hk => ?_) (fun _ => PhiD.ofVal rfl rfl)
      obtain ⟨hc, hf, hg⟩ := hE
      have h0 := PhiD.fact (kn (k' := 1) hk.1 (by kernel_rfl)) rfl rfl
      clear hk
      exact ⟨rfl, by go_simp⟩
    · refine fun _ => OblD.val (.pointer (some ⟨B, 2, none⟩)) (fun ev w1 Ss hE hT hk => ?_) (fun _ => PhiD.ofVal rfl rfl)
      obtain ⟨hc, hf, hg⟩ := hE
      have h0 := PhiD.fact (kn (k' := 14) hk.1 (by kernel_rfl)) rfl rfl
      clear hk
      exact ⟨rfl, by go_simp⟩
    · refine fun _ => OblD.val (.pointer (some ⟨B, 7, none⟩)) (fun ev w1 Ss hE hT hk => ?_) (fun _ => PhiD.ofVal rfl rfl)
      obtain ⟨hc, hf, hg⟩ := hE
      have h0 := PhiD.fact (kn (k' := 15) hk.1 (by kernel_rfl)) rfl rfl
      clear hk
      exact ⟨rfl, by go_simp⟩
    · exact fun hne => absurd hne (by rw [show needB _ 9 17 = true from by kernel_rfl]; decide)
    case pan =>
      intro a1 w1 Ss hE hT hk hdf
      obtain ⟨hc, hf, hg⟩ := hE
      have h0 := PhiD.fact (kn (k' := 8) hk.1 (by kernel_rfl)) rfl rfl
      clear hk
      have hx : Ext w w1 := hT.drew_l
      generalize a1.eval = ev at *
      refine ⟨rfl, 78, #[.pointer (some ⟨B, 0, none⟩)], by go_simp, ?_⟩
      refine (HW.out w1 hx).mono ?_
      rintro e w2 ⟨hret, _⟩
      obtain ⟨rfl, hf2⟩ := hret HZ.out
      refine ⟨_, rfl, hdf, fun _ => ⟨rfl, (hx.mono (fun _ _ f => f.elim)).trans hf2.2 fun _ _ h => h⟩, fun z2 hz3 => ?_⟩
      rw [HZ.out] at hz3; omega
  · obtain ⟨z, hz1, hz2, _, _⟩ := fzI_nat _ hz
    have HZ := Lib.hid hz1
    clear hz hz1
    go_enter Tryz.func51, Tryz.ntmps51
    go_region_with (go_at_call 78; refine (HW.out _ (by first | exact (Ext.refl w).drew | exact Ext.refl w)).mono ?_; rintro e w2 ⟨_, hret⟩; obtain ⟨rfl, hf⟩ := hret z HZ.out; have c9b : w2.cell? ⟨B, 9, none⟩ = some (.int .u8 h.has) := hf.1.cell 9; have f9b := hf.1.free 9; have c7b : w2.cell? ⟨B, 7, none⟩ = some (.string h.name) := hf.1.cell 7; have f7b := hf.1.free 7; have HF := Lib.hid hf; clear hf hret)
    all_goals
      go_end0
      refine ⟨fun hz3 => by rw [HZ.out] at hz3; omega, fun z2 hz3 => ?_⟩
      rw [HZ.out] at hz3
      obtain rfl : z = z2 := by omega
      have x := HF.out.1.set (at2 := p + (z + 1)) (h2 := { h with has := m }) (ev2 := ev) (wr2 := wr) 9 (.int .u8 (m : Int)) rfl HF.out.1.own
      have y := x.1.set (at2 := p + (z + 1)) (h2 := { h with has := m, name := strOf ((bs.drop p).take z) }) (ev2 := ev) (wr2 := wr) 7 (.string (strOf ((bs.drop p).take z))) rfl x.1.own
      have q := (HF.out.step x).step y
      exact ⟨rfl, q.1, q.2.drew_l⟩
set_option maxRecDepth 100000 in
set_option maxHeartbeats 4000000 in
theorem frd_comment (w0 : World) (B : Nat) (bo : Option Addr) (bcap : Nat) (bs : List Nat) (p : Nat) (h : Hd) (ev : Value) (wr : Bool) (w : World) (hr : FR w0 B (.slice bo bs.length bcap) p h ev wr w) (hv : ViewL w0 (.slice bo bs.length bcap) (u8s bs)) (hl : bs.length ≤ 2 ^ 40) (hb : ∀ b ∈ bs, b < 256) (hp : p ≤ bs.length) (hh : h.has < 8 ∧ h.has / 4 % 2 = 0) :
    Calls Tryz.prog 52 #[.pointer (some ⟨B, 0, none⟩)] w fun e w' =>
      (fzI (bs.drop p) = -1 → e = .panicked [formF] ∧ Touch (fun k => k = B) w w') ∧
      (∀ z : Nat, fzI (bs.drop p) = z → e = .returned (.tuple #[]) ∧ FRP w0 B (.slice bo bs.length bcap) (p + (z + 1)) { h with has := h.has + 4, comment := strOf ((bs.drop p).take z) } ev wr w w') := by
  have c9 : w.cell? ⟨B, 9, none⟩ = some (.int .u8 h.has) := hr.cell 9
  have f9 := hr.free 9
  obtain ⟨m, hm⟩ : ∃ m, m = h.has + 4 := ⟨_, rfl⟩
  rw [← hm]
  have hor : bits .or .u8 (h.has : Int) 4 = (m : Int) := by rw [hm]; exact or_has ⟨h.has, hh.1⟩ 2 (by simpa using hh.2)
  have HR := Lib.hid hr
  have HV := Lib.hid hv
  have HW := Lib.hid (fun w' hx => (frd_word w0 B bo bcap bs p h ev wr w' (HR.out.up hx) HV.out hl hb hp))
  clear hv hr hm
  by_cases hz : fzI (bs.drop p) = -1
  · have HZ := Lib.hid hz
    clear hz
    go_enter Tryz.func52, Tryz.ntmps52
    refine wp_region_pan 9 _ 18 [0] [(18, .pointer (some ⟨B, 0, none⟩)), (0, .pointer (some ⟨B, 0, none⟩)), (1, .pointer (some ⟨B, 0, none⟩)), (2, .pointer (some ⟨B, 0, none⟩)), (3, .pointer (some ⟨B, 0, none⟩)), (4, .pointer (some ⟨B, 2, none⟩)), (5, .pointer (some ⟨B, 9, none⟩)), (6, .int .u8 h.has), (7, .int .u8 m), (8, .pointer (some ⟨B, 0, none⟩)), (10, .pointer (some ⟨B, 0, none⟩)), (11, .pointer (some ⟨B, 2, none⟩)), (12, .pointer (some ⟨B, 9, none⟩)), (14, .pointer (some ⟨B, 0, none⟩)), (15, .pointer (some ⟨B, 2, none⟩)), (16, .pointer (some ⟨B, 8, none⟩))] (by kernel_rfl) rfl (by kernel_rfl) rfl ?base ⟨?_, ?_, ?_, ?_, ?_, ?_, ?_, ?_, ?_, ?_, ?_, ?_, ?_, ?_, ?_, ?_, ?_, ?_, trivial⟩ ?pan
    case base =>
      refine BaseD.one 99 (fun _ => False) (fun hm0 => absurd hm0 (by decide)) (fun k f => f.elim) (fun t ht _ => ?_)
      simp only [List.mem_cons, List.not_mem_nil, or_false] at ht
      subst ht
      exact PhiD.ofVal rfl rfl
    · refine fun _ => OblD.val (.pointer (some ⟨B, 0, none⟩)) (fun ev w1 Ss hE hT hk => ?_) (fun _ => PhiD.ofVal rfl rfl)
      obtain ⟨hc, hf, hg⟩ := hE
      have h0 := PhiD.fact (kn (k' := 18) hk.1 (by kernel_rfl)) rfl rfl
      clear hk
      exact ⟨rfl, by go_simp⟩
    · refine fun _ => OblD.val (.pointer (some ⟨B, 0, none⟩)) (fun ev w1 Ss hE hT hk => ?_) (fun _ => PhiD.ofVal rfl rfl)
      obtain ⟨hc, hf, hg⟩ := hE
      have h0 := PhiD.fact (kn (k' := 18) hk.1 (by kernel_rfl)) rfl rfl
      clear hk
      exact ⟨rfl, by go_simp⟩
    · refine fun _ => OblD.val (.pointer (some ⟨B, 0, none⟩)) (fun ev w1 Ss hE hT hk => ?_) (fun _ => PhiD.ofVal rfl rfl)
      obtain ⟨hc, hf, hg⟩ := hE
      have h0 := PhiD.fact (kn (k' := 18) hk.1 (by kernel_rfl)) rfl rfl
      clear hk
      exact ⟨rfl, by go_simp⟩
    · refine fun _ => OblD.val (.pointer (some ⟨B, 0, none⟩)) (fun ev w1 Ss hE hT hk => ?_) (fun _ => PhiD.ofVal rfl rfl)
      obtain ⟨hc, hf, hg⟩ := hE
      have h0 := PhiD.fact (kn (k' := 2) hk.1 (by kernel_rfl)) rfl rfl
      clear hk
      exact ⟨rfl, by go_simp⟩
    · refine fun _ => OblD.val (.pointer (some ⟨B, 2, none⟩)) (fun ev w1 Ss hE hT hk => ?_) (fun _ => PhiD.ofVal rfl rfl)
      obtain ⟨hc, hf, hg⟩ := hE
      have h0 := PhiD.fact (kn (k' := 3) hk.1 (by kernel_rfl)) rfl rfl
      clear hk
      exact ⟨rfl, by go_simp⟩
    · refine fun _ => OblD.val (.pointer (some ⟨B, 9, none⟩)) (fun ev w1 Ss hE hT hk => ?_) (fun _ => PhiD.ofVal rfl rfl)
      obtain ⟨hc, hf, hg⟩ := hE
      have h0 := PhiD.fact (kn (k' := 4) hk.1 (by kernel_rfl)) rfl rfl
      clear hk
      exact ⟨rfl, by go_simp⟩
    · refine fun _ => OblD.val (.int .u8 h.has) (fun ev w1 Ss hE hT hk => ?_) (fun _ => PhiD.ofVal rfl rfl)
      obtain ⟨hc, hf, hg⟩ := hE
      have h0 := PhiD.fact (kn (k' := 5) hk.1 (by kernel_rfl)) rfl rfl
      clear hk
      have c9c := cell_touch hT.drew_l c9 (fun f => f)
      exact ⟨rfl, by go_simp⟩
    · refine fun _ => OblD.val (.int .u8 m) (fun ev w1 Ss hE hT hk => ?_) (fun _ => PhiD.ofVal rfl rfl)
      obtain ⟨hc, hf, hg⟩ := hE
      have h0 := PhiD.fact (kn (k' := 6) hk.1 (by kernel_rfl)) rfl rfl
      clear hk
      exact ⟨rfl, by go_simp⟩
    · refine fun _ => OblD.val (.pointer (some ⟨B, 0, none⟩)) (fun ev w1 Ss hE hT hk => ?_) (fun _ => PhiD.ofVal rfl rfl)
      obtain ⟨hc, hf, hg⟩ := hE
      have h0 := PhiD.fact (kn (k' := 18) hk.1 (by kernel_rfl)) rfl rfl
      clear hk
      exact ⟨rfl, by go_simp⟩
    · exact fun hne => absurd hne (by rw [show needB _ 9 9 = true from by kernel_rfl]; decide)
    · refine fun _ => OblD.val (.pointer (some ⟨B, 0, none⟩)) (fun ev w1 Ss hE hT hk => ?_) (fun _ => PhiD.ofVal rfl rfl)
      obtain ⟨hc, hf, hg⟩ := hE
      have h0 := PhiD.fact (kn (k' := 0) hk.1 (by kernel_rfl)) rfl rfl
      clear hk
      exact ⟨rfl, by go_simp⟩
    · refine fun _ => OblD.val (.pointer (some ⟨B, 2, none⟩)) (fun ev w1 Ss hE hT hk => ?_) (fun _ => PhiD.ofVal rfl rfl)
      obtain ⟨hc, hf, hg⟩ := hE
      have h0 := PhiD.fact (kn (k' := 10) hk.1 (by kernel_rfl)) rfl rfl
      clear hk
      exact ⟨rfl, by go_simp⟩
    · refine fun _ => OblD.val (.pointer (some ⟨B, 9, none⟩)) (fun ev w1 Ss hE hT hk => ?_) (fun _ => PhiD.ofVal rfl rfl)
      obtain ⟨hc, hf, hg⟩ := hE
      have h0 := PhiD.fact (kn (k' := 11) hk.1 (by kernel_rfl)) rfl rfl
      clear hk
      exact ⟨rfl, by go_simp⟩
    · exact fun hne => absurd hne (by rw [show needB _ 9 13 = true from by kernel_rfl]; decide)
    · refine fun _ => OblD.val (.pointer (some ⟨B, 0, none⟩)) (fun ev w1 Ss hE hT hk => ?_) (fun _ => PhiD.ofVal rfl rfl)
      obtain ⟨hc, hf, hg⟩ := hE
      have h0 := PhiD.fact (kn (k' := 1) hk.1 (by kernel_rfl)) rfl rfl
      clear hk
      exact ⟨rfl, by go_simp⟩
    · refine fun _ => OblD.val (.pointer (some ⟨B, 2, none⟩)) (fun ev w1 Ss hE hT hk => ?_) (fun _ => PhiD.ofVal rfl rfl)
      obtain ⟨hc, hf, hg⟩ := hE
      have h0 := PhiD.fact (kn (k' := 14) hk.1 (by kernel_rfl)) rfl rfl
      clear hk
      exact ⟨rfl, by go_simp⟩
    · refine fun _ => OblD.val (.pointer (some ⟨B, 8, none⟩)) (fun ev w1 Ss hE hT hk => ?_) (fun _ => PhiD.ofVal rfl rfl)
      obtain ⟨hc, hf, hg⟩ := hE
      have h0 := PhiD.fact (kn (k' := 15) hk.1 (by kernel_rfl)) rfl rfl
      clear hk
      exact ⟨rfl, by go_simp⟩
    · exact fun hne => absurd hne (by rw [show needB _ 9 17 = true from by kernel_rfl]; decide)
    case pan =>
      intro a1 w1 Ss hE hT hk hdf
      obtain ⟨hc, hf, hg⟩ := hE
      have h0 := PhiD.fact (kn (k' := 8) hk.1 (by kernel_rfl)) rfl rfl
      clear hk
      have hx : Ext w w1 := hT.drew_l
      generalize a1.eval = ev at *
      refine ⟨rfl, 78, #[.pointer (some ⟨B, 0, none⟩)], by go_simp, ?_⟩
      refine (HW.out w1 hx).mono ?_
      rintro e w2 ⟨hret, _⟩
      obtain ⟨rfl, hf2⟩ := hret HZ.out
      refine ⟨_, rfl, hdf, fun _ => ⟨rfl, (hx.mono (fun _ _ f => f.elim)).trans hf2.2 fun _ _ h => h⟩, fun z2 hz3 => ?_⟩
      rw [HZ.out] at hz3; omega
  · obtain ⟨z, hz1, hz2, _, _⟩ := fzI_nat _ hz
    have HZ := Lib.hid hz1
    clear hz hz1
    go_enter Tryz.func52, Tryz.ntmps52
    go_region_with (go_at_call 78; refine (HW.out _ (by first | exact (Ext.refl w).drew | exact Ext.refl w)).mono ?_; rintro e w2 ⟨_, hret⟩; obtain ⟨rfl, hf⟩ := hret z HZ.out; have c9b : w2.cell? ⟨B, 9, none⟩ = some (.int .u8 h.has) := hf.1.cell 9; have f9b := hf.1.free 9; have c7b : w2.cell? ⟨B, 8, none⟩ = some (.string h.comment) := hf.1.cell 8; have f7b := hf.1.free 8; have HF := Lib.hid hf; clear hf hret)
    all_goals
      go_end0
      refine ⟨fun hz3 => by rw [HZ.out] at hz3; omega, fun z2 hz3 => ?_⟩
      rw [HZ.out] at hz3
      obtain rfl : z = z2 := by omega
      have x := HF.out.1.set (at2 := p + (z + 1)) (h2 := { h with has := m }) (ev2 := ev) (wr2 := wr) 9 (.int .u8 (m : Int)) rfl HF.out.1.own
      have y := x.1.set (at2 := p + (z + 1)) (h2 := { h with has := m, comment := strOf ((bs.drop p).take z) }) (ev2 := ev) (wr2 := wr) 8 (.string (strOf ((bs.drop p).take z))) rfl x.1.own
      have q := (HF.out.step x).step y
      exact ⟨rfl, q.1, q.2.drew_l⟩
end Go.Proofs.YtbbcphloafmldaaGreat
