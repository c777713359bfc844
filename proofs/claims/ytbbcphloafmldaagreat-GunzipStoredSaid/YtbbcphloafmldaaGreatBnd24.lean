/- inflate.Inflate: its walk. frame.Get's deferred closure: its walk. The ways out of frame.Get. -/
import Derived.Test.YtbbcphloafmldaaGreatBnd20
import Derived.Defers
import Derived.Recover
import Derived.Test.YtbbcphloafmldaaGreatBnd22
import Derived.Test.YtbbcphloafmldaaGreatBnd21
/-! inflate.Inflate: its walk. -/
namespace Go.Proofs.YtbbcphloafmldaaGreat
open Go.RowKit
set_option linter.unusedVariables false

/-- what Inflate answers. -/
def InfR (w : World) (bs : List Nat) (kp : Nat) (r : Option (Nat × List Nat)) (e : Ending) (w' : World) : Prop :=
  (∃ q full ov oo, r = some (q, full) ∧ e = .returned (.tuple #[.agg #[ov, .int .i64 full.length, .int .i64 ((q + 7) / 8 : Nat), .bool false], .int .i64 0]) ∧ Owns w' 5 1 ov oo (full.take kp).length (u8s (full.take kp)) ∧ (∀ g, oo = some g → w.heap.size ≤ g) ∧ Ext w w') ∨
  (r = none ∧ e = .returned (.tuple #[.agg #[.slice none 0 0, .int .i64 0, .int .i64 0, .bool false], .int .i64 2]) ∧ Ext w w')
def infW (w : World) : World := (w.alloc (.cells #[.slice none 0 0, .int .i64 0, .int .i64 0, .bool false] 24)).alloc (.cells #[.int .i64 0] 25)
theorem infW_facts (w : World) : Ext w (infW w) ∧ FBx (infW w) w.heap.size (w.heap.size + 1) (.slice none 0 0) 0 0 false 0 ∧ (infW w).heap.size = w.heap.size + 2 := by
  refine ⟨((Ext.refl w).alloc _).alloc _, ⟨?_, ?_⟩, by simp [infW]⟩
  · have h := World.alloc_heap_new w (.cells #[.slice none 0 0, .int .i64 0, .int .i64 0, .bool false] 24)
    exact (Below.heap_alloc _ _ _ (by simp)).trans h
  · have h := World.alloc_heap_new (w.alloc (.cells #[.slice none 0 0, .int .i64 0, .int .i64 0, .bool false] 24)) (.cells #[.int .i64 0] 25)
    rw [World.size_alloc] at h
    exact h
/-- the loop over the blocks. -/
def InR (W1 : World) (B R : Nat) (og : Option Nat) (bs : List Nat) (kp : Nat) (r : Option (Nat × List Nat)) (g : Nat) (lv : Value) (wr : World) : Prop :=
  ∃ (l p : Nat) (full : List Nat), lv = .int .i64 l ∧ l ≤ 1 ∧ p ≤ 8 * bs.length ∧ g = 8 * bs.length - p ∧ full.length ≤ 258 * p ∧ IPost W1 B R og bs p none full kp wr ∧ (l = 0 → r = inflF (ofBits false bs) p full) ∧ (l ≠ 0 → r = some (p, full))
set_option maxRecDepth 100000 in
set_option maxHeartbeats 4000000 in
theorem inflate (v : Value) (bs : List Nat) (kp : Nat) (w : World) (hv : Vw w v bs) (hl : bs.length ≤ 2 ^ 30) (hb : ∀ b ∈ bs, b < 256) (hkp : kp ≤ 2 ^ 62) :
    Calls Tryz.prog 37 #[v, .int .i64 kp] w (InfR w bs kp (inflF (ofBits false bs) 0 [])) := by
  obtain ⟨r, hrr⟩ : ∃ r, r = inflF (ofBits false bs) 0 [] := ⟨_, rfl⟩
  rw [← hrr]
  have hmf : ∀ (fn : Fn) (first cap : Array Value) (w : World), (Instr.makeFunc fn first cap).run Tryz.prog w = .ok (.func fn first cap) w := fun _ _ _ _ => rfl
  obtain ⟨hxW, hbxW, hsW⟩ := infW_facts w
  have HB := Lib.hid (show bs.length ≤ 2 ^ 30 ∧ (∀ b ∈ bs, b < 256) from ⟨hl, hb⟩)
  have HV := Lib.hid (hv.ext hxW)
  have HW := Lib.hid (And.intro hxW (And.intro hbxW hsW))
  have HRR := Lib.hid hrr
  have H8 := Lib.hid (show 8 ∣ (ofBits false bs).length from by rw [length_ofBits]; exact ⟨_, rfl⟩)
  clear hrr hl hb hxW hbxW hsW hv
  go_enter_defers Tryz.func37, Tryz.ntmps37
  go_wp2_with fail
  have hfold : (w.alloc (.cells #[.slice none 0 0, .int .i64 0, .int .i64 0, .bool false] 24)).alloc (.cells #[.int .i64 0] 25) = infW w := rfl
  rw [hfold]
  clear hfold
  refine (lsb_new v bs (infW w) HV.out.vw (by have := HB.out; omega)).mono ?_
  rintro e w1 ⟨R, og, rfl, hr, hRn, hgn, hx⟩
  obtain ⟨B, hB⟩ : ∃ B, B = w1.heap.size := ⟨_, rfl⟩
  have H1 := Lib.hid (show IsR 107 w1 R og bs 0 ∧ (infW w).heap.size ≤ R ∧ (∀ g, og = some g → (infW w).heap.size ≤ g) ∧ Ext (infW w) w1 ∧ B = w1.heap.size from ⟨hr, hRn, hgn, hx, hB⟩)
  clear hr hRn hgn hx
  go_wp2_with fail
  rw [← hB]
  obtain ⟨W5, hW5⟩ : ∃ W5, W5 = (w1.alloc (.cells #[.pointer (some ⟨R, 0, none⟩), .slice none 0 0, .int .i64 kp, .int .i64 0] 86)).alloc (.cells #[.func (.func 56) #[] #[], .func (.func 57) #[] #[], .func (.func 58) #[] #[], .func (.func 59) #[] #[]] 88) := ⟨_, rfl⟩
  have hx5 : Ext w1 W5 := by rw [hW5]; exact ((Ext.refl _).alloc _).alloc _
  have hst : ISt W5 B R og bs 0 none [] kp := by
    have h1 := H1.out
    have hbx : W5.heap[B]? = some (.cells #[.pointer (some ⟨R, 0, none⟩), .slice none 0 0, .int .i64 kp, .int .i64 0] 86 (0, 0)) := by
      rw [hW5, hB]
      exact (Below.heap_alloc _ _ _ (by simp)).trans (heap_alloc_new w1 _)
    exact ⟨⟨_, hbx, by rw [List.take_nil]; exact Owns.nil _ _ _⟩, h1.1.ext hx5, by have := h1.1.lt; omega, fun e => by have := h1.1.glt B e; omega, (fun e => by cases e), (fun e => by cases e), (fun g e => by cases e)⟩
  have hkk : W5.heap[B + 1]? = some (.cells #[.func (.func 56) #[] #[], .func (.func 57) #[] #[], .func (.func 58) #[] #[], .func (.func 59) #[] #[]] 88 (0, 0)) := by
    have h := heap_alloc_new (w1.alloc (.cells #[.pointer (some ⟨R, 0, none⟩), .slice none 0 0, .int .i64 kp, .int .i64 0] 86)) (.cells #[.func (.func 56) #[] #[], .func (.func 57) #[] #[], .func (.func 58) #[] #[], .func (.func 59) #[] #[]] 88)
    rw [World.size_alloc, ← hB] at h
    rw [hW5]; exact h
  rw [← hW5]
  have H5 := Lib.hid (show Ext (infW w) W5 ∧ ISt W5 B R og bs 0 none [] kp ∧ W5.heap[B + 1]? = some (.cells #[.func (.func 56) #[] #[], .func (.func 57) #[] #[], .func (.func 58) #[] #[], .func (.func 59) #[] #[]] 88 (0, 0)) ∧ w.heap.size + 2 ≤ R ∧ w.heap.size + 2 ≤ B ∧ R < B ∧ ∀ g, og = some g → w.heap.size + 2 ≤ g from ⟨H1.out.2.2.2.1.trans hx5, hst, hkk, by have := H1.out; have := HW.out; omega, by have := H1.out.2.2.2.1.size; have := HW.out; omega, by have := H1.out.1.lt; omega, fun g e => by have := H1.out.2.2.1 g e; have := HW.out; omega⟩)
  have HPAN := Lib.hid (show ∀ (wr : World) (tmps : Array Value), r = none → Touch (FPI B R none) W5 wr → tmps[4]? = some (.pointer (some ⟨w.heap.size, 0, none⟩)) → tmps[5]? = some (.pointer (some ⟨w.heap.size + 1, 0, none⟩)) →
      bodyPostD Tryz.prog Tryz.f37 (InfR w bs kp r) (Exit.panic [formF]) { tmps := tmps, defers := [{ target := .fn (.func 55) #[.pointer (some ⟨w.heap.size, 0, none⟩), .pointer (some ⟨w.heap.size + 1, 0, none⟩)], args := #[] }] } wr from
    fun wr tmps hn ht t4 t5 => by
      have h5 := H5.out
      have hlow : ∀ k, k < w.heap.size + 2 → ¬ FPI B R none k := fun k hk h => by
        rcases h with h | h | h
        · omega
        · omega
        · cases h
      exact inf_panic t4 t5 ((HW.out.2.1.keep h5.1 (fun f => f) (fun f => f)).keep ht (hlow _ (by omega)) (hlow _ (by omega))) (by omega) (fun w' ht2 => Or.inr ⟨hn, rfl, (((HW.out.1.trans h5.1).touch ht (fun k hk h => hlow k (by omega) h)).touch ht2 (fun k hk h => by omega))⟩))
  have hnk : decide ((kp : Int) < 0) = false := by simp
  rw [hnk]
  clear hx5 hst hkk hW5 hB hnk hmf
  go_loopg [8] (8 * bs.length) (fun k lv wr => InR W5 B R og bs kp r k lv wr)
  case atStart => exact ⟨0, 0, [], rfl, by decide, Nat.zero_le _, rfl, Nat.zero_le _, IPost.refl H5.out.2.1, fun _ => HRR.out, fun h => absurd rfl h⟩
  case round =>
    obtain ⟨l, p, full, rfl, hl1, hp, hg, hfl, hip, hr0, hr1⟩ := hrel
    have HI := Lib.hid (show l ≤ 1 ∧ p ≤ 8 * bs.length ∧ gk = 8 * bs.length - p ∧ full.length ≤ 258 * p ∧ IPost W5 B R og bs p none full kp wr ∧ (l = 0 → r = inflF (ofBits false bs) p full) ∧ (l ≠ 0 → r = some (p, full)) from ⟨hl1, hp, hg, hfl, hip, hr0, hr1⟩)
    clear hp hg hfl hip hr0 hr1
    by_cases hl0 : l = 0
    · subst hl0
      have HRL := Lib.hid (HI.out.2.2.2.2.2.1 rfl)
      clear hl1
      go_wp2_with fail
      refine (bits_at HI.out.2.2.2.2.1 HB.out 1 HI.out.2.1 (by decide)).mono ?_
      rintro e w2 (⟨l, p1, hrd, rfl, hi2⟩ | ⟨hrd, rfl, ht2⟩)
      rotate_left
      · have HX := Lib.hid (show r = none ∧ Touch (FPI B R none) W5 w2 from ⟨by rw [HRL.out]; exact inflF_b1 hrd, ht2⟩)
        clear hrd ht2
        go_wp2_with fail
        exact HPAN.out _ _ HX.out.1 HX.out.2 rfl rfl
      have hrf := rd_fit hrd
      rw [length_ofBits] at hrf
      have H2 := Lib.hid (show rd (ofBits false bs) p 1 = some (l, p1) ∧ IPost W5 B R og bs p1 none full kp w2 ∧ l ≤ 1 ∧ p1 = p + 1 ∧ p1 ≤ 8 * bs.length from ⟨hrd, hi2, by omega, hrf.2.1, hrf.2.2⟩)
      clear hrd hi2 hrf
      go_wp2_with fail
      refine (bits_at H2.out.2.1 HB.out 2 H2.out.2.2.2.2 (by decide)).mono ?_
      rintro e w3 (⟨k, p2, hrd, rfl, hi3⟩ | ⟨hrd, rfl, ht3⟩)
      rotate_left
      · have HX := Lib.hid (show r = none ∧ Touch (FPI B R none) W5 w3 from ⟨by rw [HRL.out]; exact inflF_b2 H2.out.1 hrd, ht3⟩)
        clear hrd ht3
        go_wp2_with fail
        exact HPAN.out _ _ HX.out.1 HX.out.2 rfl rfl
      have hrf := rd_fit hrd
      rw [length_ofBits] at hrf
      have hk4 : k < 4 := hrf.1
      have hKc : w3.heap[B + 1]? = _ := hi3.touch.keep H5.out.2.2.1 (fun h => by
        have h5 := H5.out
        rcases h with h | h | h
        · omega
        · omega
        · cases h)
      have HK := Lib.hid (kind_at k hk4 hi3 HB.out hrf.2.2 (by have := HI.out; have := H2.out; omega))
      have H3 := Lib.hid (show rd (ofBits false bs) p1 2 = some (k, p2) ∧ p2 = p1 + 2 ∧ p2 ≤ 8 * bs.length ∧ full.length ≤ 258 * p2 from ⟨hrd, hrf.2.1, hrf.2.2, by have := HI.out; have := H2.out; omega⟩)
      have hc : w3.cell? ⟨B + 1, k, none⟩ = some (.func (.func (if k = 0 then 56 else if k = 1 then 57 else if k = 2 then 58 else 59)) #[] #[]) := by
        rcases (by omega : k = 0 ∨ k = 1 ∨ k = 2 ∨ k = 3) with rfl | rfl | rfl | rfl <;> simp [World.cell?, hKc]
      obtain ⟨F, hF⟩ : ∃ F, F = if k = 0 then 56 else if k = 1 then 57 else if k = 2 then 58 else 59 := ⟨_, rfl⟩
      rw [← hF] at HK hc
      have HF := Lib.hid hF
      have hkz : (k : Int) < 4 := by omega
      have hent : (callFunc F #[.pointer (some ⟨B, 0, none⟩)]).run Tryz.prog w3 = .ok (.enter F #[.pointer (some ⟨B, 0, none⟩)]) w3 := by
        rw [hF]
        rcases (by omega : k = 0 ∨ k = 1 ∨ k = 2 ∨ k = 3) with rfl | rfl | rfl | rfl
        · exact enters_of Tryz.func56 (by kernel_rfl) rfl _ _
        · exact enters_of Tryz.func57 (by kernel_rfl) rfl _ _
        · exact enters_of Tryz.func58 (by kernel_rfl) rfl _ _
        · exact enters_of Tryz.func59 (by kernel_rfl) rfl _ _
      clear hrd hi3 hrf hKc hF hk4
      go_wp2_with fail
      refine HK.out.mono ?_
      rintro e w4 (⟨q, o, hkf, rfl, hi4⟩ | ⟨hkf, rfl, ht4⟩)
      rotate_left
      · have HX := Lib.hid (show r = none ∧ Touch (FPI B R none) W5 w4 from ⟨by rw [HRL.out]; exact inflF_b3 H2.out.1 H3.out.1 hkf, ht4⟩)
        clear hkf ht4 hent
        go_wp2_with fail
        exact HPAN.out _ _ HX.out.1 HX.out.2 rfl rfl
      have hfit := kindF_fit hkf (by rw [length_ofBits]; exact H3.out.2.2.1) H8.out
      rw [length_ofBits] at hfit
      have hgo := inflF_go H2.out.1 H3.out.1 hkf H8.out
      have H4 := Lib.hid (show InR W5 B R og bs kp r (8 * bs.length - q) (.int .i64 l) w4 from by
        have h2 := H2.out
        have h3 := H3.out
        refine ⟨l, q, o, rfl, h2.2.2.1, hfit.2.1, rfl, by omega, hi4, fun h => ?_, fun h => ?_⟩
        · rw [HRL.out, hgo, if_neg (by omega)]
        · rw [HRL.out, hgo, if_pos h])
      have HM := Lib.hid (show 8 * bs.length - q < gk from by have := HI.out; have := H2.out; have := H3.out; omega)
      clear hkf hi4 hfit hgo hent
      go_wp2_with fail
      go_roundg (8 * bs.length - q)
      case measure => exact HM.out
      case rel => exact H4.out
    · have hl2 : ((l : Int) == 0) = false := by rw [beq_eq_false_iff_ne]; omega
      have HRS := Lib.hid (HI.out.2.2.2.2.2.2 hl0)
      clear hl0 hl1
      go_wp2_with fail
      obtain ⟨o1, k1, k2, k3⟩ := HI.out.2.2.2.2.1
      obtain ⟨c0, c2, c3, _⟩ := k1.cells
      obtain ⟨ov, hbx, hown⟩ := k1.box
      have hrd := k1.rdr
      obtain ⟨oa, oc, rfl⟩ := hown.shape
      obtain ⟨N, hN⟩ : ∃ N, N = full.length := ⟨_, rfl⟩
      obtain ⟨M, hM⟩ : ∃ M, M = (full.take kp).length := ⟨_, rfl⟩
      rw [← hN] at c3 hbx
      rw [← hM] at hown hbx
      have c1 : wr.cell? ⟨B, 1, none⟩ = some (.slice oa M oc) := by simp [World.cell?, hbx]
      have hlow : ∀ k, k < w.heap.size + 2 → ¬ FPI B R none k := fun k hk h => by
        have h5 := H5.out
        rcases h with h | h | h
        · omega
        · omega
        · cases h
      have hfb : FBx wr w.heap.size (w.heap.size + 1) (.slice none 0 0) 0 0 false 0 := (HW.out.2.1.keep H5.out.1 (fun f => f) (fun f => f)).keep k3 (hlow _ (by omega)) (hlow _ (by omega))
      have hnew : ∀ g, o1 = some g → w.heap.size + 2 ≤ g := fun g e => by
        rcases k2 with h | ⟨g2, h, hg⟩
        · rw [h] at e; cases e
        · rw [h] at e; cases e; have := H5.out.1.size; have := HW.out.2.2; omega
      have HF := Lib.hid (show FBx wr w.heap.size (w.heap.size + 1) (.slice none 0 0) 0 0 false 0 ∧ Owns wr 5 1 (.slice oa M oc) o1 M (u8s (full.take kp)) ∧ (∀ g, o1 = some g → w.heap.size + 2 ≤ g) ∧ Ext w wr ∧ N = full.length ∧ M = (full.take kp).length from ⟨hfb, hown, hnew, (HW.out.1.trans H5.out.1).touch k3 (fun k hk h => hlow k (by omega) h), hN, hM⟩)
      have HAT := Lib.hid (lsb_at R og bs p wr.drew (hrd.ext ((Ext.refl wr).drew)))
      obtain ⟨⟨b0, b1, b2, b3, b4⟩, fz, f4⟩ := hfb.cells
      have z0 := fz 0
      have z1 := fz 1
      have z2 := fz 2
      have z3 := fz 3
      obtain ⟨U, hU⟩ : ∃ U, U = (p + 7) / 8 := ⟨_, rfl⟩
      have hpb : p ≤ 8589934592 := by have := HI.out.2.1; have := HB.out.1; omega
      obtain ⟨P7, hP7⟩ : ∃ P7, P7 = p + 7 := ⟨_, rfl⟩
      have w7 : IntKind.i64.wrap ((p : Int) + 7) = (P7 : Int) := by rw [show (p : Int) + 7 = (P7 : Int) by omega]; exact IntWalk.i64_in _ (by omega)
      have w8 : IntKind.i64.wrap ((P7 : Int) / 8) = (U : Int) := by rw [show (P7 : Int) / 8 = (U : Int) by omega]; exact IntWalk.i64_in _ (by omega)
      have HU := Lib.hid hU
      clear hbx hown hrd hN hM hlow hfb hnew fz k1 k2 k3 hU hP7 hpb
      have HFIN := Lib.hid (show ∀ (tmps : Array Value), tmps[4]? = some (.pointer (some ⟨w.heap.size, 0, none⟩)) → tmps[5]? = some (.pointer (some ⟨w.heap.size + 1, 0, none⟩)) →
          bodyPostD Tryz.prog Tryz.f37 (InfR w bs kp r) Exit.ret { tmps := tmps, defers := [{ target := .fn (.func 55) #[.pointer (some ⟨w.heap.size, 0, none⟩), .pointer (some ⟨w.heap.size + 1, 0, none⟩)], args := #[] }] }
            ((((((wr.setCell ⟨w.heap.size, 0, none⟩ (.slice oa M oc)).setCell ⟨w.heap.size, 1, none⟩ (.int .i64 N)).setCell ⟨w.heap.size, 2, none⟩ (.int .i64 U)).setCell ⟨w.heap.size, 3, none⟩ (.bool false)).setCell ⟨w.heap.size + 1, 0, none⟩ (.int .i64 0)).drew) from fun tmps t4 t5 => by
        have hf := HF.out
        obtain ⟨d1, d2⟩ := hf.1.done (by omega) (.slice oa M oc) (N : Int) (U : Int) false 0
        refine inf_ret t4 t5 d1 (Or.inl ⟨p, full, .slice oa M oc, o1, HRS.out, ?_, ?_, fun g e => by have := hf.2.2.1 g e; omega, hf.2.2.2.1.touch d2 (fun k hk h => by omega)⟩)
        · rw [← hf.2.2.2.2.1, ← HU.out]
        · rw [← hf.2.2.2.2.2]
          exact hf.2.1.keep d2 (fun g e h => by have := hf.2.2.1 g e; omega))
      clear HRR HPAN H1 H5 HV HB HW H8
      refine wp_region_noPanic ?_
      go_region_with (go_at_call 61; refine HAT.out.mono ?_; rintro e w' ⟨rfl, rfl⟩)
      all_goals
        refine NoPanic.normal ?_
        go_wp2_with fail
        exact HFIN.out _ rfl rfl
end Go.Proofs.YtbbcphloafmldaaGreat

/-! frame.Get's deferred closure: its walk. -/
namespace Go.Proofs.YtbbcphloafmldaaGreat
open Go.RowKit
set_option linter.unusedVariables false
set_option linter.unusedSimpArgs false

theorem frm_assert (w : World) : (Instr.typeAssert (.iface 25 (.int .i64 2)) 20 25 true).run Tryz.prog w = .ok (.tuple #[.int .i64 2, .bool true]) w := by kernel_rfl
theorem frm_assert_nil (w : World) : (Instr.typeAssert .nilIface 20 25 true).run Tryz.prog w = .ok (.tuple #[.int .i64 0, .bool false]) w := by kernel_rfl
theorem frm_get_idle (p q r s : Addr) (w : World) :
    CallsD Tryz.prog 46 #[.pointer (some p), .pointer (some q), .pointer (some r), .pointer (some s)] .returning w fun e u' w' => e = .returned (.tuple #[]) ∧ u' = .returning ∧ w' = w := by
  refine callsD_of_wpS Tryz.func46 rfl fun c₀ cs hu => ?_
  have ha := frm_assert_nil
  simp only [Tryz.ntmps46, List.size_toArray, List.length_cons, List.length_nil, Nat.reduceAdd, Nat.reduceSub, Array.replicate_succ, Array.replicate_zero, List.push_toArray, List.append_toArray, List.nil_append, List.cons_append]
  apply wpS_seq
  apply wpS_region
  simp [wpOpsS, go_sem, recoverD, hu, ha, Exit.thenS]
  apply wpS_seq
  apply wpS_region
  simp [wpOpsS, go_sem, Exit.thenS]
  refine wpS_cond (t := false) (by simp [Act.eval]) ?_
  simp only [Bool.false_eq_true, if_false]
  refine wpS_of_wp (wp_skip ?_)
  cases c₀
  simp_all [bodyPostS, results, Tryz.results46]
theorem frm_get_catch (p q r s : Nat) (h : Hd) (ev : Value) (n : Int) (wr : Bool) (x : Int) (w : World) (hp : IsBox w p h ev) (hq : w.heap[q]? = some (.cells #[.int .i64 n] 3 (0, 0))) (hr : w.heap[r]? = some (.cells #[.bool wr] 4 (0, 0))) (hs : w.heap[s]? = some (.cells #[.int .i64 x] 25 (0, 0))) (d1 : q ≠ p) (d2 : r ≠ p) (d3 : s ≠ p) (d4 : r ≠ q) (d5 : s ≠ q) (d6 : s ≠ r) :
    CallsD Tryz.prog 46 #[.pointer (some ⟨p, 0, none⟩), .pointer (some ⟨q, 0, none⟩), .pointer (some ⟨r, 0, none⟩), .pointer (some ⟨s, 0, none⟩)] (.panicking [formF]) w fun e u' w' =>
      e = .returned (.tuple #[]) ∧ u' = .panicking [{ formF with recovered := true }] ∧ w' = (((((((((((w.setCell ⟨p, 0, none⟩ (.bool false)).setCell ⟨p, 1, none⟩ (.int .u32 0)).setCell ⟨p, 2, none⟩ (.int .u8 0)).setCell ⟨p, 3, none⟩ (.int .u8 0)).setCell ⟨p, 4, none⟩ (.slice none 0 0)).setCell ⟨p, 5, none⟩ (.string ⟨#[]⟩)).setCell ⟨p, 6, none⟩ (.string ⟨#[]⟩)).setCell ⟨p, 7, none⟩ (.int .u8 0)).setCell ⟨p, 8, none⟩ (.bool false)).setCell ⟨q, 0, none⟩ (.int .i64 0)).setCell ⟨r, 0, none⟩ (.bool false)).setCell ⟨s, 0, none⟩ (.int .i64 2) := by
  refine callsD_of_wpS Tryz.func46 rfl fun c₀ cs hu => ?_
  unfold formF at hu
  have ha := frm_assert
  simp only [Tryz.ntmps46, List.size_toArray, List.length_cons, List.length_nil, Nat.reduceAdd, Nat.reduceSub, Array.replicate_succ, Array.replicate_zero, List.push_toArray, List.append_toArray, List.nil_append, List.cons_append]
  apply wpS_seq
  apply wpS_region
  simp [wpOpsS, go_sem, recoverD, hu, ha, Exit.thenS]
  apply wpS_seq
  apply wpS_region
  simp [wpOpsS, go_sem, Exit.thenS]
  refine wpS_cond (t := true) (by simp [Act.eval]) ?_
  simp only [if_true]
  apply wpS_region
  have c0 : w.cell? ⟨p, 0, none⟩ = some (.bool h.text) := hp.cell 0
  have f0 : w.frozen? ⟨p, 0, none⟩ = false := Lib.frozen_of_heap hp _
  have c1 : w.cell? ⟨p, 1, none⟩ = some (.int .u32 h.time) := hp.cell 1
  have f1 : w.frozen? ⟨p, 1, none⟩ = false := Lib.frozen_of_heap hp _
  have c2 : w.cell? ⟨p, 2, none⟩ = some (.int .u8 h.xfl) := hp.cell 2
  have f2 : w.frozen? ⟨p, 2, none⟩ = false := Lib.frozen_of_heap hp _
  have c3 : w.cell? ⟨p, 3, none⟩ = some (.int .u8 h.os) := hp.cell 3
  have f3 : w.frozen? ⟨p, 3, none⟩ = false := Lib.frozen_of_heap hp _
  have c4 : w.cell? ⟨p, 4, none⟩ = some (ev) := hp.cell 4
  have f4 : w.frozen? ⟨p, 4, none⟩ = false := Lib.frozen_of_heap hp _
  have c5 : w.cell? ⟨p, 5, none⟩ = some (.string h.name) := hp.cell 5
  have f5 : w.frozen? ⟨p, 5, none⟩ = false := Lib.frozen_of_heap hp _
  have c6 : w.cell? ⟨p, 6, none⟩ = some (.string h.comment) := hp.cell 6
  have f6 : w.frozen? ⟨p, 6, none⟩ = false := Lib.frozen_of_heap hp _
  have c7 : w.cell? ⟨p, 7, none⟩ = some (.int .u8 h.has) := hp.cell 7
  have f7 : w.frozen? ⟨p, 7, none⟩ = false := Lib.frozen_of_heap hp _
  have c8 : w.cell? ⟨p, 8, none⟩ = some (.bool h.sum) := hp.cell 8
  have f8 : w.frozen? ⟨p, 8, none⟩ = false := Lib.frozen_of_heap hp _
  have cq : w.cell? ⟨q, 0, none⟩ = some (.int .i64 n) := by simp [World.cell?, hq]
  have fq : w.frozen? ⟨q, 0, none⟩ = false := Lib.frozen_of_heap hq _
  have cr : w.cell? ⟨r, 0, none⟩ = some (.bool wr) := by simp [World.cell?, hr]
  have fr : w.frozen? ⟨r, 0, none⟩ = false := Lib.frozen_of_heap hr _
  have cs : w.cell? ⟨s, 0, none⟩ = some (.int .i64 x) := by simp [World.cell?, hs]
  have fs : w.frozen? ⟨s, 0, none⟩ = false := Lib.frozen_of_heap hs _
  simp [wpOpsS, go_sem, c0, f0, c1, f1, c2, f2, c3, f3, c4, f4, c5, f5, c6, f6, c7, f7, c8, f8, cq, fq, cr, fr, cs, fs, bodyPostS, results, Tryz.results46, formF, d1, d2, d3, d4, d5, d6, d1.symm, d2.symm, d3.symm, d4.symm, d5.symm, d6.symm]
end Go.Proofs.YtbbcphloafmldaaGreat

/-! The ways out of frame.Get. -/
namespace Go.Proofs.YtbbcphloafmldaaGreat
open Go.RowKit
set_option linter.unusedVariables false
set_option linter.unusedSimpArgs false

/-- no head. -/
def hdZ : Hd := { text := false, time := 0, xfl := 0, os := 0, extra := [], name := ⟨#[]⟩, comment := ⟨#[]⟩, has := 0, sum := false }
theorem get_ret {R : Ending → World → Prop} {wr : World} {p q r s : Nat} {h : Hd} {ev : Value} {n : Int} {b : Bool} {x : Int} {tmps : Array Value} (t2 : tmps[2]? = some (.pointer (some ⟨p, 0, none⟩))) (t3 : tmps[3]? = some (.pointer (some ⟨q, 0, none⟩))) (t4 : tmps[4]? = some (.pointer (some ⟨r, 0, none⟩))) (t5 : tmps[5]? = some (.pointer (some ⟨s, 0, none⟩)))
    (hp : IsBox wr p h ev) (hq : wr.cell? ⟨q, 0, none⟩ = some (.int .i64 n)) (hr : wr.cell? ⟨r, 0, none⟩ = some (.bool b)) (hs : wr.cell? ⟨s, 0, none⟩ = some (.int .i64 x))
    (hR : R (.returned (.tuple #[.agg (hcells h ev), .int .i64 n, .bool b, .int .i64 x])) wr) :
    bodyPostD Tryz.prog Tryz.f36 R Exit.ret { tmps := tmps, defers := [{ target := .fn (.func 46) #[.pointer (some ⟨p, 0, none⟩), .pointer (some ⟨q, 0, none⟩), .pointer (some ⟨r, 0, none⟩), .pointer (some ⟨s, 0, none⟩)], args := #[] }] } wr := by
  refine leaves_cons (f := 46) (args := #[.pointer (some ⟨p, 0, none⟩), .pointer (some ⟨q, 0, none⟩), .pointer (some ⟨r, 0, none⟩), .pointer (some ⟨s, 0, none⟩)]) (by simp) (by simp [go_sem]) ?_
  refine (frm_get_idle _ _ _ _ _).mono ?_
  rintro e u' w'' ⟨rfl, rfl, rfl⟩
  have c0 : w''.cell? ⟨p, 0, none⟩ = some (.bool h.text) := hp.cell 0
  have c1 : w''.cell? ⟨p, 1, none⟩ = some (.int .u32 h.time) := hp.cell 1
  have c2 : w''.cell? ⟨p, 2, none⟩ = some (.int .u8 h.xfl) := hp.cell 2
  have c3 : w''.cell? ⟨p, 3, none⟩ = some (.int .u8 h.os) := hp.cell 3
  have c4 : w''.cell? ⟨p, 4, none⟩ = some ev := hp.cell 4
  have c5 : w''.cell? ⟨p, 5, none⟩ = some (.string h.name) := hp.cell 5
  have c6 : w''.cell? ⟨p, 6, none⟩ = some (.string h.comment) := hp.cell 6
  have c7 : w''.cell? ⟨p, 7, none⟩ = some (.int .u8 h.has) := hp.cell 7
  have c8 : w''.cell? ⟨p, 8, none⟩ = some (.bool h.sum) := hp.cell 8
  simp [Leaves, settle, results, Tryz.results36, go_sem, t2, t3, t4, t5, c0, c1, c2, c3, c4, c5, c6, c7, c8, hq, hr, hs]
  exact hR
set_option maxRecDepth 100000 in
set_option maxHeartbeats 1000000 in
theorem get_panic {R : Ending → World → Prop} {wr : World} {p q r s : Nat} {h : Hd} {ev : Value} {n : Int} {b : Bool} {x : Int} {tmps : Array Value} (t2 : tmps[2]? = some (.pointer (some ⟨p, 0, none⟩))) (t3 : tmps[3]? = some (.pointer (some ⟨q, 0, none⟩))) (t4 : tmps[4]? = some (.pointer (some ⟨r, 0, none⟩))) (t5 : tmps[5]? = some (.pointer (some ⟨s, 0, none⟩)))
    (hp : IsBox wr p h ev) (hq : wr.heap[q]? = some (.cells #[.int .i64 n] 3 (0, 0))) (hr : wr.heap[r]? = some (.cells #[.bool b] 4 (0, 0))) (hs : wr.heap[s]? = some (.cells #[.int .i64 x] 25 (0, 0))) (d1 : q ≠ p) (d2 : r ≠ p) (d3 : s ≠ p) (d4 : r ≠ q) (d5 : s ≠ q) (d6 : s ≠ r)
    (hR : ∀ w', Touch (fun k => k = p ∨ k = q ∨ k = r ∨ k = s) wr w' → R (.returned (.tuple #[.agg (hcells hdZ (.slice none 0 0)), .int .i64 0, .bool false, .int .i64 2])) w') :
    bodyPostD Tryz.prog Tryz.f36 R (Exit.panic [formF]) { tmps := tmps, defers := [{ target := .fn (.func 46) #[.pointer (some ⟨p, 0, none⟩), .pointer (some ⟨q, 0, none⟩), .pointer (some ⟨r, 0, none⟩), .pointer (some ⟨s, 0, none⟩)], args := #[] }] } wr := by
  refine leaves_cons (f := 46) (args := #[.pointer (some ⟨p, 0, none⟩), .pointer (some ⟨q, 0, none⟩), .pointer (some ⟨r, 0, none⟩), .pointer (some ⟨s, 0, none⟩)]) (by simp) (by simp [go_sem]) ?_
  refine (frm_get_catch p q r s h ev n b x wr hp hq hr hs d1 d2 d3 d4 d5 d6).mono ?_
  rintro e u' w'' ⟨rfl, rfl, rfl⟩
  have c0 : wr.cell? ⟨p, 0, none⟩ = some (.bool h.text) := hp.cell 0
  have c1 : wr.cell? ⟨p, 1, none⟩ = some (.int .u32 h.time) := hp.cell 1
  have c2 : wr.cell? ⟨p, 2, none⟩ = some (.int .u8 h.xfl) := hp.cell 2
  have c3 : wr.cell? ⟨p, 3, none⟩ = some (.int .u8 h.os) := hp.cell 3
  have c4 : wr.cell? ⟨p, 4, none⟩ = some (ev) := hp.cell 4
  have c5 : wr.cell? ⟨p, 5, none⟩ = some (.string h.name) := hp.cell 5
  have c6 : wr.cell? ⟨p, 6, none⟩ = some (.string h.comment) := hp.cell 6
  have c7 : wr.cell? ⟨p, 7, none⟩ = some (.int .u8 h.has) := hp.cell 7
  have c8 : wr.cell? ⟨p, 8, none⟩ = some (.bool h.sum) := hp.cell 8
  have cq : wr.cell? ⟨q, 0, none⟩ = some (.int .i64 n) := by simp [World.cell?, hq]
  have cr : wr.cell? ⟨r, 0, none⟩ = some (.bool b) := by simp [World.cell?, hr]
  have cs : wr.cell? ⟨s, 0, none⟩ = some (.int .i64 x) := by simp [World.cell?, hs]
  simp [Leaves, settle, results, Tryz.results36, go_sem, t2, t3, t4, t5, c0, c1, c2, c3, c4, c5, c6, c7, c8, cq, cr, cs, d1, d2, d3, d4, d5, d6, d1.symm, d2.symm, d3.symm, d4.symm, d5.symm, d6.symm]
  refine hR _ ?_
  repeat (refine Touch.setCell ?_ (Or.inl (by simp)) _)
  exact Touch.refl _ _
end Go.Proofs.YtbbcphloafmldaaGreat
