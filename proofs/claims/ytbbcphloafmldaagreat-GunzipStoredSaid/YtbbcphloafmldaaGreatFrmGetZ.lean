/- frame.Get: its walk. -/
import Derived.Deep.RegionWith
import Derived.Deep.RegionHeld3
import Derived.Laws.EntriesVeiled
import Derived.Deep.DeepCutAuto
import Derived.Test.YtbbcphloafmldaaGreatFrmGetSetZ
namespace Go.Proofs.YtbbcphloafmldaaGreat
open Go.RowKit
set_option linter.unusedVariables false
set_option linter.unusedSimpArgs false

theorem and1_8 : ∀ x : Fin 32, (bits .and .u8 ((x.val : Nat) : Int) 1 != 0) = decide (x.val % 2 = 1) := by decide +kernel
/-- what is left to be read, from a field on. -/
def rk2 (bs : List Nat) (f : Nat) (s : Hd × Nat) : Option (Hd × Nat × Bool) := (stC bs f s).bind fun s => stS bs f s
def rk1 (bs : List Nat) (f : Nat) (s : Hd × Nat) : Option (Hd × Nat × Bool) := (stN bs f s).bind fun s => rk2 bs f s
def rk0 (bs : List Nat) (f : Nat) (s : Hd × Nat) : Option (Hd × Nat × Bool) := (stX bs f s).bind fun s => rk1 bs f s
def restK (bs : List Nat) (f : Nat) (k : Nat) (s : Hd × Nat × Bool) : Option (Hd × Nat × Bool) :=
  match k with
  | 0 => rk0 bs f (s.1, s.2.1)
  | 1 => rk1 bs f (s.1, s.2.1)
  | 2 => rk2 bs f (s.1, s.2.1)
  | 3 => stS bs f (s.1, s.2.1)
  | _ => some s
def hasK (f k : Nat) : Nat := if k = 0 then 0 else if k = 1 then f / 4 % 2 else if k = 2 then f / 4 % 4 else f / 4 % 8
theorem has_0 (F : Nat) : hasK F 0 < 8 ∧ hasK F 0 % 2 = 0 := by simp [hasK]
theorem has_1 (F : Nat) : hasK F 1 < 8 ∧ hasK F 1 / 2 % 2 = 0 := by simp [hasK]; omega
theorem has_2 (F : Nat) : hasK F 2 < 8 ∧ hasK F 2 / 4 % 2 = 0 := by simp [hasK]; omega
theorem has_s0 (F : Nat) : (F / 4 % 2 = 1 → hasK F 0 + 1 = hasK F 1) ∧ (¬ F / 4 % 2 = 1 → hasK F 0 = hasK F 1) := by simp [hasK]; omega
theorem has_s1 (F : Nat) : (F / 8 % 2 = 1 → hasK F 1 + 2 = hasK F 2) ∧ (¬ F / 8 % 2 = 1 → hasK F 1 = hasK F 2) := by simp [hasK]; omega
theorem has_s2 (F : Nat) : (F / 16 % 2 = 1 → hasK F 2 + 4 = hasK F 3) ∧ (¬ F / 16 % 2 = 1 → hasK F 2 = hasK F 3) := by simp [hasK]; omega
theorem and2_8 : ∀ x : Fin 32, bits .and .u8 ((x.val : Nat) : Int) 2 = ((x.val / 2 % 2 * 2 : Nat) : Int) := by decide +kernel
theorem getH_rest {bs : List Nat} (h10 : 10 ≤ bs.length) (h3 : bs.take 3 = [31, 139, 8]) (h32 : bs.getD 3 0 < 32) : getH bs = rk0 bs (bs.getD 3 0) (hd0 bs, 10) := by
  rw [getH, if_pos ⟨h10, h3, h32⟩]; rfl
/-- the four fields' readers. -/
def fieldCells (B : Nat) : Array Value := #[.int .u8 4, .func (.func 50) #[.pointer (some ⟨B, 0, none⟩)] #[], .int .u8 8, .func (.func 51) #[.pointer (some ⟨B, 0, none⟩)] #[], .int .u8 16, .func (.func 52) #[.pointer (some ⟨B, 0, none⟩)] #[], .int .u8 2, .func (.func 53) #[.pointer (some ⟨B, 0, none⟩)] #[]]
set_option maxRecDepth 100000 in
set_option maxHeartbeats 8000000 in
theorem frm_get (v : Value) (bs : List Nat) (w : World) (hv : ViewL w v (u8s bs)) (hl : bs.length ≤ 2 ^ 40) (hb : ∀ b ∈ bs, b < 256) : Calls Tryz.prog 36 #[v] w (GotH w bs) := by
  obtain ⟨bo, bcap, rfl⟩ := hv.shape
  rw [length_u8s] at *
  have hf0 : FR (w4of w) (w.heap.size + 1 + 1 + 1 + 1) (.slice bo bs.length bcap) 0 hdZ (.slice none 0 0) false ((w4of w).alloc (.cells (rcells (.slice bo bs.length bcap) 0 hdZ (.slice none 0 0) false) 77)) :=
    ⟨by rw [← w4_size w]; exact heap_alloc_new _ _, (Ext.refl _).alloc _, by rw [w4_size]; omega, none, Owns.nil _ _ _, by simp, fun g e => by cases e⟩
  have HF0 := Lib.hid hf0
  have HV := Lib.hid (hv.ext (w4_ext w))
  have HB := Lib.hid hb
  clear hv hb hf0
  have hmf : ∀ (fn : Fn) (first cap : Array Value) (w : World), (Instr.makeFunc fn first cap).run Tryz.prog w = .ok (.func fn first cap) w := fun _ _ _ _ => rfl
  by_cases h10 : 10 ≤ bs.length
  · obtain ⟨F, hF⟩ : ∃ F, F = bs.getD 3 0 := ⟨_, rfl⟩
    go_enter_defers Tryz.func36, Tryz.ntmps36
    go_wp2_with fail
    refine (frd_take_ok (w4of w) (w.heap.size + 1 + 1 + 1 + 1) bo bcap bs 0 10 hdZ (.slice none 0 0) false _ HF0.out HV.out hl (by omega)).mono ?_
    rintro e w5 ⟨v, rfl, hv5, hf5⟩
    rw [List.drop_zero] at hv5
    have hv5' := hv5.ext hf5.1.ext
    obtain ⟨fo, fcap, e0⟩ := hv5.shape
    have hl10 : (u8s (bs.take 10)).length = 10 := by rw [length_u8s, List.length_take]; omega
    rw [hl10] at e0
    subst e0
    obtain ⟨fo', fcap', e1, hfc, _, hcells⟩ := hv5'
    rw [hl10] at e1 hfc hcells
    obtain ⟨gb, go, rfl, hcs⟩ : ∃ b o, fo = some ⟨b, o, none⟩ ∧ ∀ j u, (u8s (bs.take 10))[j]? = some u → w5.cell? ⟨b, o + j, none⟩ = some u := by
      cases e1; exact hcells (by omega)
    obtain rfl : fcap = fcap' := by cases e1; rfl
    clear e1 hcells
    have hcell : ∀ j, j < 10 → w5.cell? ⟨gb, go + j, none⟩ = some (.int .u8 (bs.getD j 0 : Nat)) := fun j hj => hcs j _ (by
      have : j < bs.length := by omega
      simp [u8s, hj, List.getD, List.getElem?_take, List.getElem?_eq_getElem this])
    have c3 := hcell 3 (by omega)
    rw [← hF] at c3
    have HCELL := Lib.hid hcell
    have HV5 := Lib.hid (hv5.front 3 (by omega))
    have HV48 := Lib.hid hv5
    have HF5 := Lib.hid hf5
    have HFD := Lib.hid hF
    have hfci : (10 : Int) ≤ (fcap : Int) := by omega
    have hgb : gb ≠ w.heap.size + 1 + 1 + 1 + 1 := by
      obtain ⟨_, _, e9, _, _, hc9⟩ := hv5
      rw [hl10] at e9 hc9
      cases e9
      obtain ⟨b9, o9, e8, hc8⟩ := hc9 (by omega)
      cases e8
      have := World.block_lt_of_cell? _ _ (hc8 0 _ (by rw [List.getElem?_eq_getElem (by omega)]))
      rw [w4_size] at this
      simp only at this
      omega
    clear hcell hv5 hf5 hF hcs hl10 hfc
    have e3 : (u8s (bs.take 10)).take 3 = u8s (bs.take 3) := by rw [u8s, ← List.map_take, List.take_take]; rfl
    by_cases hEq : bs.take 3 = [31, 139, 8]
    · have hc := fun wx (hx : Ext (w4of w) wx) => frm_equal (.slice (some ⟨gb, go, none⟩) 3 fcap) (.slice (some ⟨wx.heap.size, 0, none⟩) 3 3) (bs.take 3) [31, 139, 8] (wx.alloc (.cells #[.int .u8 31, .int .u8 139, .int .u8 8] 5)) (by rw [← e3]; exact HV5.out.ext (hx.alloc _)) ((view_new wx [31, 139, 8] 5 (0, 0)).viewL (fun a n c e => by cases e; exact Nat.le_refl _)) (fun x hx => HB.out x (List.mem_of_mem_take hx)) (by decide)
      rw [decide_eq_true hEq] at hc
      have HC := Lib.hid hc
      have HEQ := Lib.hid hEq
      clear hc e3 hEq
      by_cases h32 : F < 32
      · have h32i : ¬ (32 : Int) ≤ (F : Int) := by omega
        go_wp2_with fail
        refine (HC.out _ HF5.out.1.ext).mono ?_
        rintro e w6 ⟨rfl, hw6⟩
        have hx6 : Ext w5 w6 := by rw [← hw6]; exact (Ext.refl _).alloc _
        have hf6 := HF5.out.1.up hx6
        obtain ⟨TX, hTX⟩ : ∃ b : Bool, b = decide (F % 2 = 1) := ⟨_, rfl⟩
        have kT : (bits .and .u8 (F : Int) 1 != 0) = TX := by rw [hTX]; exact and1_8 ⟨F, h32⟩
        have HX6 := Lib.hid hx6
        have c2 : w6.cell? ⟨w.heap.size + 1 + 1 + 1 + 1, 2, none⟩ = some (.bool false) := hf6.cell 2
        have f2 := hf6.free 2
        have HF6 := Lib.hid (hf6.set (at2 := 10) (h2 := { hdZ with text := TX }) (ev2 := .slice none 0 0) (wr2 := false) 2 (.bool TX) rfl hf6.own)
        have HTX := Lib.hid hTX
        clear hw6 hx6 hf6 hTX
        go_wp2_with fail
        obtain ⟨w7, hw7⟩ : ∃ w7, w7 = w6.setCell ⟨w.heap.size + 1 + 1 + 1 + 1, 2, none⟩ (.bool TX) := ⟨_, rfl⟩
        rw [← hw7]
        have hx7 : Ext (w4of w) w7 := by rw [hw7]; exact HF6.out.1.ext
        have hcell7 : ∀ j, j < 10 → w7.cell? ⟨gb, go + j, none⟩ = some (.int .u8 (bs.getD j 0 : Nat)) := fun j hj => by
          rw [hw7]
          exact cell_touch HF6.out.2 (cell_touch HX6.out (HCELL.out j hj) (fun f => f)) hgb
        obtain ⟨X8, hX8⟩ : ∃ x, x = bs.getD 8 0 := ⟨_, rfl⟩
        obtain ⟨X9, hX9⟩ : ∃ x, x = bs.getD 9 0 := ⟨_, rfl⟩
        obtain ⟨TM, hTM⟩ : ∃ x, x = valL ((bs.drop 4).take 4) := ⟨_, rfl⟩
        have d8 := hcell7 8 (by omega)
        have d9 := hcell7 9 (by omega)
        rw [← hX8] at d8
        rw [← hX9] at d9
        have hf7 : FR (w4of w) (w.heap.size + 1 + 1 + 1 + 1) (.slice bo bs.length bcap) 10 { hdZ with text := TX } (.slice none 0 0) false w7 := by rw [hw7]; exact HF6.out.1
        have b3 : w7.cell? ⟨w.heap.size + 1 + 1 + 1 + 1, 3, none⟩ = some (.int .u32 0) := hf7.cell 3
        have b4 : w7.cell? ⟨w.heap.size + 1 + 1 + 1 + 1, 4, none⟩ = some (.int .u8 0) := hf7.cell 4
        have b5 : w7.cell? ⟨w.heap.size + 1 + 1 + 1 + 1, 5, none⟩ = some (.int .u8 0) := hf7.cell 5
        have fb3 := hf7.free 3
        have fb4 := hf7.free 4
        have fb5 := hf7.free 5
        have e4 : ((u8s (bs.take 10)).drop 4).take 4 = u8s ((bs.drop 4).take 4) := by
          simp only [u8s, ← List.map_drop, ← List.map_take, List.drop_take, List.take_take]; rfl
        have hpc := HV48.out
        have hl10 : (u8s (bs.take 10)).length = 10 := by rw [length_u8s, List.length_take]; omega
        have hpv := (show ViewL (w4of w) (.slice (some ⟨gb, go, none⟩) (u8s (bs.take 10)).length fcap) (u8s (bs.take 10)) by rw [hl10]; exact HV48.out).piece 4 4 (by omega) (by omega)
        rw [e4] at hpv
        have hval : ∀ wx, Ext (w4of w) wx → Calls Tryz.prog 49 #[.slice (some ⟨gb, go + 4, none⟩) 4 (fcap - 4)] wx fun e w' => e = .returned (.int .u32 TM) ∧ wx = w' := fun wx hx => by
          rw [hTM]
          exact frm_value _ _ wx (hpv.ext hx) (fun x hx => HB.out x (List.mem_of_mem_drop (List.mem_of_mem_take hx))) (by simp; omega)
        have HVAL := Lib.hid hval
        have HF7 := Lib.hid hf7
        have HX7 := Lib.hid hx7
        have HXS := Lib.hid (And.intro hX8 (And.intro hX9 hTM))
        clear hw7 hx7 hcell7 hX8 hX9 hTM hf7 e4 hl10 hpv hval hpc HC HF6 HX6 c2 f2 c3 kT
        have hgb2 := hgb.symm
        have h8c : (8 : Int) ≤ (fcap : Int) := by omega
        have h8n : (4 : Int) ≤ (fcap : Int) := by omega
        have h8d : 4 ≤ fcap := by omega
        have h8e : ¬ fcap = 4 := by omega
        go_region_held3 (fun w' => w'.cell? ⟨gb, go + 8, none⟩ = some (.int .u8 X8) ∧ w'.cell? ⟨gb, go + 9, none⟩ = some (.int .u8 X9)) ((refine ⟨?_, ?_⟩ <;> first | assumption | (simp [World.cell?_setCell_other, hgb, hgb2]; assumption) | (go_simp))) (first | (go_at_call 49; refine (HVAL.out _ (by first | exact HX7.out | exact HX7.out.drew)).mono ?_; rintro e w8 ⟨rfl, rfl⟩))
        obtain ⟨w8, hw8⟩ : ∃ w8, w8 = (((w7.setCell ⟨w.heap.size + 1 + 1 + 1 + 1, 3, none⟩ (.int .u32 TM)).setCell ⟨w.heap.size + 1 + 1 + 1 + 1, 4, none⟩ (.int .u8 X8)).setCell ⟨w.heap.size + 1 + 1 + 1 + 1, 5, none⟩ (.int .u8 X9)).drew := ⟨_, rfl⟩
        rw [← hw8]
        have g1 := HF7.out.set (at2 := 10) (h2 := { hdZ with text := TX, time := TM }) (ev2 := .slice none 0 0) (wr2 := false) 3 (.int .u32 TM) rfl HF7.out.own
        have g2 := g1.1.set (at2 := 10) (h2 := { hdZ with text := TX, time := TM, xfl := X8 }) (ev2 := .slice none 0 0) (wr2 := false) 4 (.int .u8 X8) rfl g1.1.own
        have g3 := g2.1.set (at2 := 10) (h2 := { hdZ with text := TX, time := TM, xfl := X8, os := X9 }) (ev2 := .slice none 0 0) (wr2 := false) 5 (.int .u8 X9) rfl g2.1.own
        have hd : ({ hdZ with text := TX, time := TM, xfl := X8, os := X9 } : Hd) = hd0 bs := by
          rw [HTX.out, HXS.out.1, HXS.out.2.1, HXS.out.2.2, HFD.out]; rfl
        have g4 := g3.1.up ((Ext.refl _).drew)
        rw [hd, ← hw8] at g4
        have HF8 := Lib.hid g4
        clear hw8 g1 g2 g3 g4 hd HF7 HX7 HXS HTX HVAL b3 b4 b5 fb3 fb4 fb5 d8 d9 HV5 HV48 HCELL
        go_wp2_with fail
        obtain ⟨w9, hw9⟩ : ∃ w9, w9 = w8.alloc (.cells (fieldCells (w.heap.size + 1 + 1 + 1 + 1)) 80) := ⟨_, rfl⟩
        unfold fieldCells at hw9
        rw [← hw9]
        have hf9 := HF8.out.up ((Ext.refl w8).alloc (.cells (fieldCells (w.heap.size + 1 + 1 + 1 + 1)) 80))
        have hsb := heap_alloc_new w8 (.cells (fieldCells (w.heap.size + 1 + 1 + 1 + 1)) 80)
        have hne : w8.heap.size ≠ w.heap.size + 1 + 1 + 1 + 1 := by have := block_lt HF8.out.box; omega
        have hge : (w4of w).heap.size ≤ w8.heap.size := HF8.out.ext.size
        generalize w8.heap.size = SB at *
        have HF9 := Lib.hid (show FR (w4of w) (w.heap.size + 1 + 1 + 1 + 1) (.slice bo bs.length bcap) 10 (hd0 bs) (.slice none 0 0) false w9 by rw [hw9]; exact hf9)
        have HSB := Lib.hid (show w9.heap[SB]? = some (.cells (fieldCells (w.heap.size + 1 + 1 + 1 + 1)) 80 (0, 0)) by rw [hw9]; exact hsb)
        have HG := Lib.hid (show getH bs = restK bs F 0 (hd0 bs, 10, false) by rw [HFD.out]; exact getH_rest h10 HEQ.out (by rw [← HFD.out]; exact h32))
        have HGE := Lib.hid hge
        clear hw9 hf9 hsb HF8 hge HEQ
        go_loopw [72] (fun kv wr => ∃ (k n : Nat) (h : Hd) (ev : Value) (wrong : Bool), kv = .int .i64 k ∧ k ≤ 4 ∧ n ≤ bs.length ∧ FR (w4of w) (w.heap.size + 1 + 1 + 1 + 1) (.slice bo bs.length bcap) n h ev wrong wr ∧
          wr.heap[SB]? = some (.cells (fieldCells (w.heap.size + 1 + 1 + 1 + 1)) 80 (0, 0)) ∧ Hid (getH bs = restK bs F k (h, n, wrong)) ∧ Hid (h.has = hasK F k) ∧ Hid (k < 4 → wrong = false)) (fun kv _ => 4 - (intOf kv).toNat)
        case atStart => exact ⟨0, 10, hd0 bs, .slice none 0 0, false, rfl, by omega, h10, HF9.out, HSB.out, HG, Lib.hid rfl, Lib.hid (fun _ => rfl)⟩
        case round =>
          clear HF9 HSB HG
          obtain ⟨k, n, h, ev, wrong, rfl, hk, hn, hfr, hsb, HREST, HHAS, HWR⟩ := hrel
          have HFR := Lib.hid hfr
          have HSB := Lib.hid hsb
          clear hfr
          have s0 : wr.cell? ⟨SB, 0, none⟩ = some (.int .u8 4) := by simp [World.cell?, hsb, fieldCells]
          have s1 : wr.cell? ⟨SB, 1, none⟩ = some (.func (.func 50) #[.pointer (some ⟨w.heap.size + 1 + 1 + 1 + 1, 0, none⟩)] #[]) := by simp [World.cell?, hsb, fieldCells]
          have s2 : wr.cell? ⟨SB, 2, none⟩ = some (.int .u8 8) := by simp [World.cell?, hsb, fieldCells]
          have s3 : wr.cell? ⟨SB, 3, none⟩ = some (.func (.func 51) #[.pointer (some ⟨w.heap.size + 1 + 1 + 1 + 1, 0, none⟩)] #[]) := by simp [World.cell?, hsb, fieldCells]
          have s4 : wr.cell? ⟨SB, 4, none⟩ = some (.int .u8 16) := by simp [World.cell?, hsb, fieldCells]
          have s5 : wr.cell? ⟨SB, 5, none⟩ = some (.func (.func 52) #[.pointer (some ⟨w.heap.size + 1 + 1 + 1 + 1, 0, none⟩)] #[]) := by simp [World.cell?, hsb, fieldCells]
          have s6 : wr.cell? ⟨SB, 6, none⟩ = some (.int .u8 2) := by simp [World.cell?, hsb, fieldCells]
          have s7 : wr.cell? ⟨SB, 7, none⟩ = some (.func (.func 53) #[.pointer (some ⟨w.heap.size + 1 + 1 + 1 + 1, 0, none⟩)] #[]) := by simp [World.cell?, hsb, fieldCells]
          clear hsb
          by_cases k0 : k = 0
          · subst k0
            have HXA := Lib.hid (show FR (w4of w) (w.heap.size + 1 + 1 + 1 + 1) (.slice bo bs.length bcap) n h ev wrong (wr.alloc (.cells #[.int .u8 4, .func (.func 50) #[.pointer (some ⟨w.heap.size + 1 + 1 + 1 + 1, 0, none⟩)] #[]] 80)) from HFR.out.up ((Ext.refl wr).alloc _))
            have HSA := Lib.hid (((Ext.refl wr).alloc (.cells #[.int .u8 4, .func (.func 50) #[.pointer (some ⟨w.heap.size + 1 + 1 + 1 + 1, 0, none⟩)] #[]] 80)).keep HSB.out (fun f => f))
            by_cases hbit : F / 4 % 2 = 1
            · have kb : (bits .and .u8 (F : Int) 4 != 0) = true := by rw [and4_8 ⟨F, h32⟩]; simp only [hbit]; decide
              by_cases hx : n + 2 + exL bs n ≤ bs.length
              · go_wp2_with fail
                refine (frd_extra (w4of w) (w.heap.size + 1 + 1 + 1 + 1) bo bcap bs n h ev wrong _ HXA.out HV.out hl HB.out hn (by rw [HHAS.out]; exact has_0 F)).mono ?_
                rintro e wz hpost
                rw [if_pos hx] at hpost
                obtain ⟨ev', rfl, hf⟩ := hpost
                have HF2 := Lib.hid hf
                have HSZ := Lib.hid (hf.2.keep HSA.out hne)
                have HR2 := Lib.hid (show getH bs = restK bs F 1 ({ h with has := h.has + 1, extra := exB bs n }, n + 2 + exL bs n, wrong) by rw [HREST.out]; simp only [restK, rk0, stX, if_pos hbit, if_pos hx]; rfl)
                clear hf
                go_wp2_with fail
                go_roundw
                case rel => exact ⟨1, n + 2 + exL bs n, _, ev', wrong, by go_num, by omega, hx, HF2.out.1, HSZ.out, HR2, Lib.hid (by rw [← (has_s0 F).1 hbit, ← HHAS.out]), Lib.hid (fun _ => HWR.out (by omega))⟩
                case measure => simp [intOf]
              · have HN := Lib.hid (show getH bs = none by rw [HREST.out]; simp only [restK, rk0, stX, if_pos hbit, if_neg hx]; rfl)
                go_wp2_with fail
                refine (frd_extra (w4of w) (w.heap.size + 1 + 1 + 1 + 1) bo bcap bs n h ev wrong _ HXA.out HV.out hl HB.out hn (by rw [HHAS.out]; exact has_0 F)).mono ?_
                rintro e wz hpost
                rw [if_neg hx] at hpost
                obtain ⟨rfl, ht⟩ := hpost
                have HEX := Lib.hid (HXA.out.ext.touch ht (fun i hi e => by have := HXA.out.low; omega))
                go_wp2_with fail
                exact get_bad HN.out HEX.out rfl rfl rfl rfl
            · have kb : (bits .and .u8 (F : Int) 4 != 0) = false := by rw [and4_8 ⟨F, h32⟩, flag_bool _ _ (by decide)]; exact decide_eq_false hbit
              have HR2 := Lib.hid (show getH bs = restK bs F 1 (h, n, wrong) by rw [HREST.out]; simp only [restK, rk0, stX, if_neg hbit]; rfl)
              go_wp2_with fail
              go_roundw
              case rel => exact ⟨1, n, h, ev, wrong, by go_num, by omega, hn, HXA.out, HSA.out, HR2, Lib.hid (by rw [HHAS.out]; exact (has_s0 F).2 hbit), Lib.hid (fun _ => HWR.out (by omega))⟩
              case measure => simp [intOf]
          by_cases k1 : k = 1
          · subst k1
            have HXA := Lib.hid (show FR (w4of w) (w.heap.size + 1 + 1 + 1 + 1) (.slice bo bs.length bcap) n h ev wrong (wr.alloc (.cells #[.int .u8 8, .func (.func 51) #[.pointer (some ⟨w.heap.size + 1 + 1 + 1 + 1, 0, none⟩)] #[]] 80)) from HFR.out.up ((Ext.refl wr).alloc _))
            have HSA := Lib.hid (((Ext.refl wr).alloc (.cells #[.int .u8 8, .func (.func 51) #[.pointer (some ⟨w.heap.size + 1 + 1 + 1 + 1, 0, none⟩)] #[]] 80)).keep HSB.out (fun f => f))
            by_cases hbit : F / 8 % 2 = 1
            · have kb : (bits .and .u8 (F : Int) 8 != 0) = true := by rw [and8_8 ⟨F, h32⟩]; simp only [hbit]; decide
              by_cases hz : fzI (bs.drop n) = -1
              · have HN := Lib.hid (show getH bs = none by rw [HREST.out]; simp only [restK, rk1, stN, if_pos hbit, fz, if_pos hz]; rfl)
                have HZ := Lib.hid hz
                clear hz
                go_wp2_with fail
                refine (frd_name (w4of w) (w.heap.size + 1 + 1 + 1 + 1) bo bcap bs n h ev wrong _ HXA.out HV.out hl HB.out hn (by rw [HHAS.out]; exact has_1 F)).mono ?_
                rintro e wz ⟨hpost, _⟩
                obtain ⟨rfl, ht⟩ := hpost HZ.out
                have HEX := Lib.hid (HXA.out.ext.touch ht (fun i hi e => by have := HXA.out.low; omega))
                go_wp2_with fail
                exact get_bad HN.out HEX.out rfl rfl rfl rfl
              · obtain ⟨z, hz1, hz2, _, _⟩ := fzI_nat _ hz
                rw [List.length_drop] at hz2
                have HR2 := Lib.hid (show getH bs = restK bs F 2 ({ h with has := h.has + 2, name := strOf ((bs.drop n).take z) }, n + (z + 1), wrong) by rw [HREST.out]; simp only [restK, rk1, stN, if_pos hbit, fz, if_neg hz, hz1]; rfl)
                have HZ := Lib.hid hz1
                clear hz hz1
                go_wp2_with fail
                refine (frd_name (w4of w) (w.heap.size + 1 + 1 + 1 + 1) bo bcap bs n h ev wrong _ HXA.out HV.out hl HB.out hn (by rw [HHAS.out]; exact has_1 F)).mono ?_
                rintro e wz ⟨_, hpost⟩
                obtain ⟨rfl, hf⟩ := hpost z HZ.out
                have HF2 := Lib.hid hf
                have HSZ := Lib.hid (hf.2.keep HSA.out hne)
                clear hf hpost
                go_wp2_with fail
                go_roundw
                case rel => exact ⟨2, n + (z + 1), _, ev, wrong, by go_num, by omega, by omega, HF2.out.1, HSZ.out, HR2, Lib.hid (by rw [← (has_s1 F).1 hbit, ← HHAS.out]), Lib.hid (fun _ => HWR.out (by omega))⟩
                case measure => simp [intOf]
            · have kb : (bits .and .u8 (F : Int) 8 != 0) = false := by rw [and8_8 ⟨F, h32⟩, flag_bool _ _ (by decide)]; exact decide_eq_false hbit
              have HR2 := Lib.hid (show getH bs = restK bs F 2 (h, n, wrong) by rw [HREST.out]; simp only [restK, rk1, stN, if_neg hbit]; rfl)
              go_wp2_with fail
              go_roundw
              case rel => exact ⟨2, n, h, ev, wrong, by go_num, by omega, hn, HXA.out, HSA.out, HR2, Lib.hid (by rw [HHAS.out]; exact (has_s1 F).2 hbit), Lib.hid (fun _ => HWR.out (by omega))⟩
              case measure => simp [intOf]
          by_cases k2 : k = 2
          · subst k2
            have HXA := Lib.hid (show FR (w4of w) (w.heap.size + 1 + 1 + 1 + 1) (.slice bo bs.length bcap) n h ev wrong (wr.alloc (.cells #[.int .u8 16, .func (.func 52) #[.pointer (some ⟨w.heap.size + 1 + 1 + 1 + 1, 0, none⟩)] #[]] 80)) from HFR.out.up ((Ext.refl wr).alloc _))
            have HSA := Lib.hid (((Ext.refl wr).alloc (.cells #[.int .u8 16, .func (.func 52) #[.pointer (some ⟨w.heap.size + 1 + 1 + 1 + 1, 0, none⟩)] #[]] 80)).keep HSB.out (fun f => f))
            by_cases hbit : F / 16 % 2 = 1
            · have kb : (bits .and .u8 (F : Int) 16 != 0) = true := by rw [and16_8 ⟨F, h32⟩]; simp only [hbit]; decide
              by_cases hz : fzI (bs.drop n) = -1
              · have HN := Lib.hid (show getH bs = none by rw [HREST.out]; simp only [restK, rk2, stC, if_pos hbit, fz, if_pos hz]; rfl)
                have HZ := Lib.hid hz
                clear hz
                go_wp2_with fail
                refine (frd_comment (w4of w) (w.heap.size + 1 + 1 + 1 + 1) bo bcap bs n h ev wrong _ HXA.out HV.out hl HB.out hn (by rw [HHAS.out]; exact has_2 F)).mono ?_
                rintro e wz ⟨hpost, _⟩
                obtain ⟨rfl, ht⟩ := hpost HZ.out
                have HEX := Lib.hid (HXA.out.ext.touch ht (fun i hi e => by have := HXA.out.low; omega))
                go_wp2_with fail
                exact get_bad HN.out HEX.out rfl rfl rfl rfl
              · obtain ⟨z, hz1, hz2, _, _⟩ := fzI_nat _ hz
                rw [List.length_drop] at hz2
                have HR2 := Lib.hid (show getH bs = restK bs F 3 ({ h with has := h.has + 4, comment := strOf ((bs.drop n).take z) }, n + (z + 1), wrong) by rw [HREST.out]; simp only [restK, rk2, stC, if_pos hbit, fz, if_neg hz, hz1]; rfl)
                have HZ := Lib.hid hz1
                clear hz hz1
                go_wp2_with fail
                refine (frd_comment (w4of w) (w.heap.size + 1 + 1 + 1 + 1) bo bcap bs n h ev wrong _ HXA.out HV.out hl HB.out hn (by rw [HHAS.out]; exact has_2 F)).mono ?_
                rintro e wz ⟨_, hpost⟩
                obtain ⟨rfl, hf⟩ := hpost z HZ.out
                have HF2 := Lib.hid hf
                have HSZ := Lib.hid (hf.2.keep HSA.out hne)
                clear hf hpost
                go_wp2_with fail
                go_roundw
                case rel => exact ⟨3, n + (z + 1), _, ev, wrong, by go_num, by omega, by omega, HF2.out.1, HSZ.out, HR2, Lib.hid (by rw [← (has_s2 F).1 hbit, ← HHAS.out]), Lib.hid (fun _ => HWR.out (by omega))⟩
                case measure => simp [intOf]
            · have kb : (bits .and .u8 (F : Int) 16 != 0) = false := by rw [and16_8 ⟨F, h32⟩, flag_bool _ _ (by decide)]; exact decide_eq_false hbit
              have HR2 := Lib.hid (show getH bs = restK bs F 3 (h, n, wrong) by rw [HREST.out]; simp only [restK, rk2, stC, if_neg hbit]; rfl)
              go_wp2_with fail
              go_roundw
              case rel => exact ⟨3, n, h, ev, wrong, by go_num, by omega, hn, HXA.out, HSA.out, HR2, Lib.hid (by rw [HHAS.out]; exact (has_s2 F).2 hbit), Lib.hid (fun _ => HWR.out (by omega))⟩
              case measure => simp [intOf]
          by_cases k3 : k = 3
          · subst k3
            have HXA := Lib.hid (show FR (w4of w) (w.heap.size + 1 + 1 + 1 + 1) (.slice bo bs.length bcap) n h ev wrong (wr.alloc (.cells #[.int .u8 2, .func (.func 53) #[.pointer (some ⟨w.heap.size + 1 + 1 + 1 + 1, 0, none⟩)] #[]] 80)) from HFR.out.up ((Ext.refl wr).alloc _))
            have HSA := Lib.hid (((Ext.refl wr).alloc (.cells #[.int .u8 2, .func (.func 53) #[.pointer (some ⟨w.heap.size + 1 + 1 + 1 + 1, 0, none⟩)] #[]] 80)).keep HSB.out (fun f => f))
            by_cases hbit : F / 2 % 2 = 1
            · have kb : (bits .and .u8 (F : Int) 2 != 0) = true := by rw [and2_8 ⟨F, h32⟩]; simp only [hbit]; decide
              by_cases hx : n + 2 ≤ bs.length
              · go_wp2_with fail
                refine (frd_sum (w4of w) (w.heap.size + 1 + 1 + 1 + 1) bo bcap bs n h ev wrong _ HXA.out HV.out hl HB.out hn).mono ?_
                rintro e wz hpost
                rw [if_pos hx] at hpost
                obtain ⟨rfl, hf⟩ := hpost
                have HF2 := Lib.hid hf
                have HSZ := Lib.hid (hf.2.keep HSA.out hne)
                have HR2 := Lib.hid (show getH bs = restK bs F 4 ({ h with sum := true }, n + 2, decide (exL bs n ≠ crcL (bs.take n) % 65536)) by rw [HREST.out]; simp only [restK, stS, if_pos hbit, if_pos hx])
                clear hf
                go_wp2_with fail
                go_roundw
                case rel => exact ⟨4, n + 2, _, ev, _, by go_num, by omega, hx, HF2.out.1, HSZ.out, HR2, Lib.hid HHAS.out, Lib.hid (fun h4 => by omega)⟩
                case measure => simp [intOf]
              · have HN := Lib.hid (show getH bs = none by rw [HREST.out]; simp only [restK, stS, if_pos hbit, if_neg hx])
                go_wp2_with fail
                refine (frd_sum (w4of w) (w.heap.size + 1 + 1 + 1 + 1) bo bcap bs n h ev wrong _ HXA.out HV.out hl HB.out hn).mono ?_
                rintro e wz hpost
                rw [if_neg hx] at hpost
                obtain ⟨rfl, ht⟩ := hpost
                have HEX := Lib.hid (HXA.out.ext.touch ht (fun i hi e => by have := HXA.out.low; omega))
                go_wp2_with fail
                exact get_bad HN.out HEX.out rfl rfl rfl rfl
            · have kb : (bits .and .u8 (F : Int) 2 != 0) = false := by rw [and2_8 ⟨F, h32⟩, flag_bool _ _ (by decide)]; exact decide_eq_false hbit
              have HR2 := Lib.hid (show getH bs = restK bs F 4 (h, n, wrong) by rw [HREST.out]; simp only [restK, stS, if_neg hbit, HWR.out (by omega)])
              go_wp2_with fail
              go_roundw
              case rel => exact ⟨4, n, h, ev, wrong, by go_num, by omega, hn, HXA.out, HSA.out, HR2, Lib.hid (by rw [HHAS.out]; rfl), Lib.hid (fun _ => HWR.out (by omega))⟩
              case measure => simp [intOf]
          obtain rfl : k = 4 := by omega
          have HG := Lib.hid (show getH bs = some (h, n, wrong) from HREST.out)
          have HOWN := Lib.hid (show ∃ og, Owns wr 5 1 ev og h.extra.length (u8s h.extra) ∧ ∀ g, og = some g → (w4of w).heap.size ≤ g from by
            obtain ⟨og, k1, _, k3⟩ := HFR.out.own
            exact ⟨og, k1, k3⟩)
          obtain ⟨so, sc, rfl⟩ := HOWN.out.choose_spec.1.shape
          have b1 : wr.cell? ⟨w.heap.size + 1 + 1 + 1 + 1, 1, none⟩ = some (.int .i64 n) := HFR.out.cell 1
          have b2 : wr.cell? ⟨w.heap.size + 1 + 1 + 1 + 1, 2, none⟩ = some (.bool h.text) := HFR.out.cell 2
          have b3 : wr.cell? ⟨w.heap.size + 1 + 1 + 1 + 1, 3, none⟩ = some (.int .u32 h.time) := HFR.out.cell 3
          have b4 : wr.cell? ⟨w.heap.size + 1 + 1 + 1 + 1, 4, none⟩ = some (.int .u8 h.xfl) := HFR.out.cell 4
          have b5 : wr.cell? ⟨w.heap.size + 1 + 1 + 1 + 1, 5, none⟩ = some (.int .u8 h.os) := HFR.out.cell 5
          have b6 : wr.cell? ⟨w.heap.size + 1 + 1 + 1 + 1, 6, none⟩ = some (.slice so h.extra.length sc) := HFR.out.cell 6
          have b7 : wr.cell? ⟨w.heap.size + 1 + 1 + 1 + 1, 7, none⟩ = some (.string h.name) := HFR.out.cell 7
          have b8 : wr.cell? ⟨w.heap.size + 1 + 1 + 1 + 1, 8, none⟩ = some (.string h.comment) := HFR.out.cell 8
          have b9 : wr.cell? ⟨w.heap.size + 1 + 1 + 1 + 1, 9, none⟩ = some (.int .u8 h.has) := HFR.out.cell 9
          have b10 : wr.cell? ⟨w.heap.size + 1 + 1 + 1 + 1, 10, none⟩ = some (.bool h.sum) := HFR.out.cell 10
          have b11 : wr.cell? ⟨w.heap.size + 1 + 1 + 1 + 1, 11, none⟩ = some (.bool wrong) := HFR.out.cell 11
          obtain ⟨c0, f0, c1, f1, c2, f2, c33, f3, c4, f4, c5, f5, c6, f6, c7, f7, c8, f8, cq, fq, cr, fr, cs, fs⟩ := w4_cells HFR.out.ext
          have ne0 : w.heap.size + 1 + 1 + 1 + 1 ≠ w.heap.size := by omega
          have en0 : w.heap.size ≠ w.heap.size + 1 + 1 + 1 + 1 := by omega
          have ne1 : w.heap.size + 1 + 1 + 1 + 1 ≠ w.heap.size + 1 := by omega
          have en1 : w.heap.size + 1 ≠ w.heap.size + 1 + 1 + 1 + 1 := by omega
          have ne2 : w.heap.size + 1 + 1 + 1 + 1 ≠ w.heap.size + 1 + 1 := by omega
          have en2 : w.heap.size + 1 + 1 ≠ w.heap.size + 1 + 1 + 1 + 1 := by omega
          have ne3 : w.heap.size + 1 + 1 + 1 + 1 ≠ w.heap.size + 1 + 1 + 1 := by omega
          have en3 : w.heap.size + 1 + 1 + 1 ≠ w.heap.size + 1 + 1 + 1 + 1 := by omega
          clear s0 s1 s2 s3 s4 s5 s6 s7
          go_wp2_with fail
          go_region_held3 (fun w' => w'.cell? ⟨w.heap.size + 1 + 1 + 1 + 1, 1, none⟩ = some (.int .i64 n) ∧ w'.cell? ⟨w.heap.size + 1 + 1 + 1 + 1, 2, none⟩ = some (.bool h.text) ∧ w'.cell? ⟨w.heap.size + 1 + 1 + 1 + 1, 3, none⟩ = some (.int .u32 h.time) ∧ w'.cell? ⟨w.heap.size + 1 + 1 + 1 + 1, 4, none⟩ = some (.int .u8 h.xfl) ∧ w'.cell? ⟨w.heap.size + 1 + 1 + 1 + 1, 5, none⟩ = some (.int .u8 h.os) ∧ w'.cell? ⟨w.heap.size + 1 + 1 + 1 + 1, 6, none⟩ = some (.slice so h.extra.length sc) ∧ w'.cell? ⟨w.heap.size + 1 + 1 + 1 + 1, 7, none⟩ = some (.string h.name) ∧ w'.cell? ⟨w.heap.size + 1 + 1 + 1 + 1, 8, none⟩ = some (.string h.comment) ∧ w'.cell? ⟨w.heap.size + 1 + 1 + 1 + 1, 9, none⟩ = some (.int .u8 h.has) ∧ w'.cell? ⟨w.heap.size + 1 + 1 + 1 + 1, 10, none⟩ = some (.bool h.sum) ∧ w'.cell? ⟨w.heap.size + 1 + 1 + 1 + 1, 11, none⟩ = some (.bool wrong)) (first | go_keep | ((repeat' apply And.intro) <;> go_simp)) (fail)
          go_wp2_with fail
          exact get_yes HG.out HFR.out.ext HOWN.out rfl rfl rfl rfl
      · have HN := Lib.hid (show getH bs = none by rw [getH, if_neg (by rw [← HFD.out]; omega)])
        have h32i : (32 : Int) ≤ (F : Int) := by omega
        go_wp2_with fail
        refine (HC.out _ HF5.out.1.ext).mono ?_
        rintro e w6 ⟨rfl, hw6⟩
        have hx6 : Ext (w4of w) w6 := by rw [← hw6]; exact HF5.out.1.ext.alloc _
        obtain ⟨c0, f0, c1, f1, c2, f2, c33, f3, c4, f4, c5, f5, c6, f6, c7, f7, c8, f8, cq, fq, cr, fr, cs, fs⟩ := w4_cells hx6
        have HX6 := Lib.hid hx6
        clear hw6 hx6
        go_wp2_with fail
        exact get_no HN.out HX6.out rfl rfl rfl rfl
    · have HN := Lib.hid (show getH bs = none by rw [getH, if_neg (by simp [hEq])])
      have hc := fun wx (hx : Ext (w4of w) wx) => frm_equal (.slice (some ⟨gb, go, none⟩) 3 fcap) (.slice (some ⟨wx.heap.size, 0, none⟩) 3 3) (bs.take 3) [31, 139, 8] (wx.alloc (.cells #[.int .u8 31, .int .u8 139, .int .u8 8] 5)) (by rw [← e3]; exact HV5.out.ext (hx.alloc _)) ((view_new wx [31, 139, 8] 5 (0, 0)).viewL (fun a n c e => by cases e; exact Nat.le_refl _)) (fun x hx => HB.out x (List.mem_of_mem_take hx)) (by decide)
      rw [decide_eq_false hEq] at hc
      have HC := Lib.hid hc
      clear hc e3 hEq
      go_wp2_with fail
      refine (HC.out _ HF5.out.1.ext).mono ?_
      rintro e w6 ⟨rfl, hw6⟩
      have hx6 : Ext (w4of w) w6 := by rw [← hw6]; exact HF5.out.1.ext.alloc _
      obtain ⟨c0, f0, c1, f1, c2, f2, c33, f3, c4, f4, c5, f5, c6, f6, c7, f7, c8, f8, cq, fq, cr, fr, cs, fs⟩ := w4_cells hx6
      have HX6 := Lib.hid hx6
      clear hw6 hx6
      go_wp2_with fail
      exact get_no HN.out HX6.out rfl rfl rfl rfl
  · have HN := Lib.hid (show getH bs = none by rw [getH, if_neg (by omega)])
    go_enter_defers Tryz.func36, Tryz.ntmps36
    go_wp2_with fail
    refine (frd_take_bad (w4of w) (w.heap.size + 1 + 1 + 1 + 1) bo bcap bs 0 10 hdZ (.slice none 0 0) false _ HF0.out hl (by omega) (by omega)).mono ?_
    rintro e w5 ⟨rfl, hf⟩
    go_wp2_with fail
    exact get_bad HN.out hf.1.ext rfl rfl rfl rfl
end Go.Proofs.YtbbcphloafmldaaGreat
