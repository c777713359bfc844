/- frame.Put: its walk. -/
import Derived.Lib.AppendStr
import Derived.Deep.DeepCutAuto
import Derived.Test.YtbbcphloafmldaaGreatBnd9
import Derived.Test.YtbbcphloafmldaaGreatOwnUseZ
namespace Go.Proofs.YtbbcphloafmldaaGreat
open Go.RowKit
set_option linter.unusedVariables false
set_option linter.unusedSimpArgs false

/-- the flags. -/
def fl0 (h : Hd) : Nat := h.has * 4 + if h.text then 1 else 0
def flH (h : Hd) : Nat := fl0 h + if h.sum then 2 else 0
def fx8 (h : Hd) (fl : Nat) : List Nat := ([31, 139, 8, fl] ++ leN 4 h.time) ++ [h.xfl, h.os]
def px (h : Hd) : List Nat := if h.has % 2 = 1 then (fx8 h (flH h) ++ leN 2 h.extra.length) ++ h.extra else fx8 h (flH h)
def pn (h : Hd) : List Nat := if h.has / 2 % 2 = 1 then (px h ++ sb h.name) ++ [0] else px h
def pc (h : Hd) : List Nat := if h.has / 4 % 2 = 1 then (pn h ++ sb h.comment) ++ [0] else pn h
def putH (h : Hd) : List Nat := if h.sum then pc h ++ leN 2 (crcL (pc h)) else pc h
theorem IsBox.touch {S : Blocks} {w w' : World} {B : Nat} {h : Hd} {ev : Value} (hb : IsBox w B h ev) (ht : Touch S w w') (hn : ¬ S B) : IsBox w' B h ev := ht.keep hb hn
theorem or_text8 : ∀ x : Fin 8, bits .or .u8 (((x.val : Nat) : Int) * 4) 1 = ((x.val * 4 + 1 : Nat) : Int) := by decide +kernel
theorem or_sum8 : ∀ x : Fin 32, (x.val % 4 = 0 ∨ x.val % 4 = 1) → bits .or .u8 ((x.val : Nat) : Int) 2 = ((x.val + 2 : Nat) : Int) := by decide +kernel
theorem and4_8 : ∀ x : Fin 32, bits .and .u8 ((x.val : Nat) : Int) 4 = ((x.val / 4 % 2 * 4 : Nat) : Int) := by decide +kernel
theorem and8_8 : ∀ x : Fin 32, bits .and .u8 ((x.val : Nat) : Int) 8 = ((x.val / 8 % 2 * 8 : Nat) : Int) := by decide +kernel
theorem and16_8 : ∀ x : Fin 32, bits .and .u8 ((x.val : Nat) : Int) 16 = ((x.val / 16 % 2 * 16 : Nat) : Int) := by decide +kernel
theorem fl0_lt (h : Hd) (h8 : h.has < 8) : fl0 h < 32 ∧ (fl0 h % 4 = 0 ∨ fl0 h % 4 = 1) ∧ fl0 h / 4 = h.has := by unfold fl0; split <;> omega
theorem flH_lt (h : Hd) (h8 : h.has < 8) : flH h < 32 ∧ flH h / 4 = h.has := by have := fl0_lt h h8; unfold flH; split <;> omega
theorem flag_bool (m k : Nat) (hk : 0 < k) : (((m % 2 * k : Nat) : Int) != 0) = decide (m % 2 = 1) := by
  rcases Nat.mod_two_eq_zero_or_one m with e | e
  · rw [e]; simp
  · rw [e]; simp; omega
theorem flag4 (h : Hd) (h8 : h.has < 8) : (bits .and .u8 (flH h : Int) 4 != 0) = decide (h.has % 2 = 1) := by
  obtain ⟨h1, h2⟩ := flH_lt h h8
  rw [and4_8 ⟨flH h, h1⟩, flag_bool _ _ (by decide)]; simp only [h2]
theorem flag8 (h : Hd) (h8 : h.has < 8) : (bits .and .u8 (flH h : Int) 8 != 0) = decide (h.has / 2 % 2 = 1) := by
  obtain ⟨h1, h2⟩ := flH_lt h h8
  rw [and8_8 ⟨flH h, h1⟩, flag_bool _ _ (by decide)]; simp only [show flH h / 8 = h.has / 2 by omega]
theorem flag16 (h : Hd) (h8 : h.has < 8) : (bits .and .u8 (flH h : Int) 16 != 0) = decide (h.has / 4 % 2 = 1) := by
  obtain ⟨h1, h2⟩ := flH_lt h h8
  rw [and16_8 ⟨flH h, h1⟩, flag_bool _ _ (by decide)]; simp only [show flH h / 16 = h.has / 4 by omega]
theorem strCells_sb (s : ByteArray) : Lib.strCells s = u8s (sb s) := by simp [Lib.strCells, u8s, sb]
theorem CloneOf.own_at {w wr : World} {l : List Nat} {v : Value} {n : Nat} (h : CloneOf w l (.returned v) wr) (hn : l.length = n) : wr.ownsRow w.heap.size 5 1 v n (u8s l) := by
  subst hn
  obtain ⟨u, og, e, ⟨h1, h1b⟩, h2, h3⟩ := h
  cases e
  rcases h1.2 with ⟨rfl, h0⟩ | ⟨g, cap, cur, rfl, _, hg, hnc, hcm, hcs, htake⟩
  · exact ⟨h1.1, Or.inl ⟨rfl, h0⟩⟩
  · exact ⟨h1.1, Or.inr ⟨g, cap, cur, rfl, h2 g h1b.symm, hg, hnc, hcm, hcs, htake⟩⟩
theorem own_block_ge {w : World} {base : Nat} {e : TypeId} {size n : Nat} {v : Value} {xs : List Value} (h : w.ownsRow base e size v n xs) : ∀ g, v.ownBlock = some g → base ≤ g := by
  intro g hg
  rcases h.2 with ⟨rfl, h0⟩ | ⟨g', cap, cur, rfl, hb, _⟩
  · cases hg
  · cases hg; exact hb
theorem clone_str {w w1 w2 : World} {l : List Nat} {s : ByteArray} {ov v' : Value} {n : Nat} (h : CloneOf w l (.returned ov) w1) (hn : l.length = n) (hown' : w2.ownsRow w.heap.size 5 1 v' (n + s.size) (u8s l ++ Lib.strCells s))
    (hgrow : w1.grownBy w2 ov.ownBlock) : CloneOf w (l ++ sb s) (.returned v') w2 := by
  subst hn
  obtain ⟨u, og, e, h1, h2, h3⟩ := h
  cases e
  have h3 : Ext w w1 := h3
  refine ⟨v', v'.ownBlock, rfl, ⟨by rw [u8s_append, List.length_append, length_sb, ← strCells_sb]; exact ownsRow_zero hown', rfl⟩, own_block_ge hown', Touch.grown h3 hgrow (fun i e => Or.inr (h2 i (by rw [← h1.2]; exact e)))⟩
theorem clone_regrown {w w1 w2 : World} {l m : List Nat} {ov v' : Value} {og : Option Nat} (h1 : Owns w1 5 1 ov og l.length (u8s l)) (h2 : ∀ g, og = some g → w.heap.size ≤ g) (h3 : Ext w w1) (h4 : Regrown w1 og m v' w2) : CloneOf w m (.returned v') w2 := by
  obtain ⟨og', k1, k2, k3⟩ := h4
  have hs := h3.size
  refine ⟨v', og', rfl, k1, fun g e => ?_, h3.touch k3 (fun i hi e => Nat.lt_irrefl _ (Nat.lt_of_lt_of_le hi (h2 i e)))⟩
  rcases k2 with rfl | ⟨g', rfl, hg⟩
  · exact h2 g e
  · cases e; omega
theorem clone_up {w w1 w2 : World} {l : List Nat} {v : Value} (h : CloneOf w1 l (.returned v) w2) (he : Ext w w1) : CloneOf w l (.returned v) w2 := by
  obtain ⟨u, og, e, h1, h2, h3⟩ := h
  cases e
  have h3 : Ext w1 w2 := h3
  have hs := he.size
  exact ⟨v, og, rfl, h1, fun g e => Nat.le_trans hs (h2 g e), he.trans h3⟩
theorem ext_of {w w1 : World} {l : List Nat} {v : Value} (h : CloneOf w l (.returned v) w1) : Ext w w1 := by
  obtain ⟨u, og, e, h1, h2, h3⟩ := h
  exact h3
theorem putH_lt (h : Hd) (ok : HOk h) (h8 : h.has < 8) : ∀ b ∈ pc h, b < 256 := by
  have e1 : ∀ b ∈ fx8 h (flH h), b < 256 := by
    intro b hb
    have := (flH_lt h h8).1
    have k1 := ok.xfl; have k2 := ok.os
    simp only [fx8, List.mem_append, List.mem_cons, List.not_mem_nil, or_false] at hb
    rcases hb with ((rfl | rfl | rfl | rfl) | hb) | rfl | rfl
    all_goals first | omega | exact leN_lt _ _ _ hb
  have e2 : ∀ b ∈ px h, b < 256 := by
    unfold px; split
    · intro b hb
      simp only [List.mem_append] at hb
      rcases hb with (hb | hb) | hb
      · exact e1 b hb
      · exact leN_lt _ _ _ hb
      · exact ok.extra b hb
    · exact e1
  have e3 : ∀ b ∈ pn h, b < 256 := by
    unfold pn; split
    · intro b hb
      simp only [List.mem_append, List.mem_singleton] at hb
      rcases hb with (hb | hb) | hb
      · exact e2 b hb
      · exact sb_lt _ _ hb
      · omega
    · exact e2
  unfold pc; split
  · intro b hb
    simp only [List.mem_append, List.mem_singleton] at hb
    rcases hb with (hb | hb) | hb
    · exact e3 b hb
    · exact sb_lt _ _ hb
    · omega
  · exact e3
theorem px_len (h : Hd) : (px h).length ≤ 12 + h.extra.length := by
  unfold px fx8; split <;> simp only [List.length_append, List.length_cons, List.length_nil, length_leN] <;> omega
theorem pn_len (h : Hd) : (pn h).length ≤ 13 + h.extra.length + h.name.size := by
  have := px_len h
  unfold pn; split
  · simp only [List.length_append, List.length_cons, List.length_nil, length_sb]; omega
  · omega
theorem pc_len (h : Hd) : (pc h).length ≤ 14 + h.extra.length + h.name.size + h.comment.size := by
  have := pn_len h
  unfold pc; split
  · simp only [List.length_append, List.length_cons, List.length_nil, length_sb]; omega
  · omega
set_option maxHeartbeats 8000000 in
set_option maxRecDepth 100000 in
theorem frm_put (h : Hd) (eo : Option Addr) (ecap : Nat) (w : World) (ok : HOk h) (hv : ViewL w (.slice eo h.extra.length ecap) (u8s h.extra)) (hsz : h.extra.length ≤ 2 ^ 40 ∧ h.name.size ≤ 2 ^ 40 ∧ h.comment.size ≤ 2 ^ 40) :
    Calls Tryz.prog 10 #[.agg (hcells h (.slice eo h.extra.length ecap))] w fun e w' =>
      if MayH h then ∃ v, e = .returned (.tuple #[v, .int .i64 0]) ∧ CloneOf w (putH h) (.returned v) w' else e = .returned (.tuple #[.slice none 0 0, .int .i64 5]) ∧ Ext w w' := by
  obtain ⟨i0, hi, hz0, hz1, hz2⟩ := info_parts info_u8
  by_cases hm : MayH h
  · simp only [if_pos hm]
    have HD := Lib.hid (show decide (MayH h) = true from decide_eq_true hm)
    obtain ⟨h8, hx16, _⟩ := hm
    have hbw : IsBox (w.alloc (.cells (hcells h (.slice eo h.extra.length ecap)) 34)) w.heap.size h (.slice eo h.extra.length ecap) := ext_box
    have q0 : (w.alloc (.cells (hcells h (.slice eo h.extra.length ecap)) 34)).cell? ⟨w.heap.size, 0, none⟩ = some (.bool h.text) := hbw.cell 0
    have q1 : (w.alloc (.cells (hcells h (.slice eo h.extra.length ecap)) 34)).cell? ⟨w.heap.size, 1, none⟩ = some (.int .u32 h.time) := hbw.cell 1
    have q2 : (w.alloc (.cells (hcells h (.slice eo h.extra.length ecap)) 34)).cell? ⟨w.heap.size, 2, none⟩ = some (.int .u8 h.xfl) := hbw.cell 2
    have q3 : (w.alloc (.cells (hcells h (.slice eo h.extra.length ecap)) 34)).cell? ⟨w.heap.size, 3, none⟩ = some (.int .u8 h.os) := hbw.cell 3
    have q4 : (w.alloc (.cells (hcells h (.slice eo h.extra.length ecap)) 34)).cell? ⟨w.heap.size, 4, none⟩ = some (.slice eo h.extra.length ecap) := hbw.cell 4
    have q5 : (w.alloc (.cells (hcells h (.slice eo h.extra.length ecap)) 34)).cell? ⟨w.heap.size, 5, none⟩ = some (.string h.name) := hbw.cell 5
    have q6 : (w.alloc (.cells (hcells h (.slice eo h.extra.length ecap)) 34)).cell? ⟨w.heap.size, 6, none⟩ = some (.string h.comment) := hbw.cell 6
    have q7 : (w.alloc (.cells (hcells h (.slice eo h.extra.length ecap)) 34)).cell? ⟨w.heap.size, 7, none⟩ = some (.int .u8 h.has) := hbw.cell 7
    have q8 : (w.alloc (.cells (hcells h (.slice eo h.extra.length ecap)) 34)).cell? ⟨w.heap.size, 8, none⟩ = some (.bool h.sum) := hbw.cell 8
    have HBW := Lib.hid hbw
    have HV := Lib.hid hv
    clear hbw hv
    have HI := Lib.hid (frm_may h eo ecap (w.alloc (.cells (hcells h (.slice eo h.extra.length ecap)) 34)) ⟨hsz.1, hsz.2.1, hsz.2.2, ok.has⟩)
    have hnm := hsz.2.1
    have hcm := hsz.2.2
    clear hsz
    go_enter Tryz.func10, Tryz.ntmps10
    go_wp2_with fail
    refine (HI.out).mono ?_
    rintro e wm ⟨rfl, hext⟩
    rw [HD.out]
    have hb1 := HBW.out.touch hext (fun f => f)
    have hsz1 : w.heap.size < wm.heap.size := by have := hext.size; simp at this; omega
    have hE : Ext w wm := ((Ext.refl w).alloc _).trans hext
    have HVM := Lib.hid (HV.out.ext hE)
    have HEM := Lib.hid hE
    clear q0 q1 q2 q3 q4 q5 q6 q7 q8 HBW HI HD HV hext hE
    have q0 : wm.cell? ⟨w.heap.size, 0, none⟩ = some (.bool h.text) := hb1.cell 0
    have q7 : wm.cell? ⟨w.heap.size, 7, none⟩ = some (.int .u8 h.has) := hb1.cell 7
    have q8 : wm.cell? ⟨w.heap.size, 8, none⟩ = some (.bool h.sum) := hb1.cell 8
    have HB := Lib.hid hb1
    clear hb1
    go_upto_if 13 with fail
    go_cut [4] (fun fv wx => fv = .int .u8 (fl0 h) ∧ wx = wm)
    case first =>
      cases ht : h.text with
      | true =>
        rw [ht] at q0
        have hF := Lib.hid (show bits .or .u8 (((h.has : Nat) : Int) * 4) 1 = (fl0 h : Nat) by rw [or_text8 ⟨h.has, h8⟩, fl0, ht]; rfl)
        clear ht
        go_wp2_with fail
        go_meet
        exact ⟨by rw [hF.out], rfl⟩
      | false =>
        rw [ht] at q0
        have hF := Lib.hid (show ((h.has : Nat) : Int) * 4 = (fl0 h : Nat) by rw [fl0, ht]; simp)
        clear ht
        go_wp2_with fail
        go_meet
        exact ⟨by rw [hF.out], rfl⟩
    case rest =>
    obtain ⟨rfl, rfl⟩ := hcut
    clear q0 q7
    go_upto_if 17 with fail
    go_cut [4] (fun fv wx => fv = .int .u8 (flH h) ∧ wx = wc)
    case first =>
      cases ht : h.sum with
      | true =>
        rw [ht] at q8
        have hF := Lib.hid (show bits .or .u8 (fl0 h : Int) 2 = (flH h : Nat) by rw [or_sum8 ⟨fl0 h, (fl0_lt h h8).1⟩ (fl0_lt h h8).2.1, flH, ht]; rfl)
        clear ht
        go_wp2_with fail
        go_meet
        exact ⟨by rw [hF.out], rfl⟩
      | false =>
        rw [ht] at q8
        have hF := Lib.hid (show (fl0 h : Int) = (flH h : Nat) by rw [flH, ht]; simp)
        clear ht
        go_wp2_with fail
        go_meet
        exact ⟨by rw [hF.out], rfl⟩
    case rest =>
    obtain ⟨rfl, rfl⟩ := hcut
    clear q8
    obtain ⟨wm, hwm⟩ : ∃ x, x = wc := ⟨_, rfl⟩
    subst hwm
    have ht32 : h.time < 4294967296 := ok.time
    have HEW := Lib.hid (Ext.refl wm)
    have hsz0 := hsz1
    go_upto_region 8 with fail
    go_cut [5] (fun v wx => CloneOf wm (fx8 h (flH h)) (.returned v) wx)
    case first =>
      have HNI := Lib.hid (show ∀ i, i < wm.heap.size → ¬ False from fun _ _ f => f)
      refine wp_region_owns 68 [4, 1] [20, 21, 22, 23, 24, 25, 26, 27, 28, 29, 30, 5] [1, 4, 9, 10, 11] (fun _ => False) [(13, .pointer (some ⟨w.heap.size, 0, none⟩)), (16, .int .u8 (flH h)), (0, .int .u8 (flH h)), (2, .pointer (some ⟨w.heap.size, 1, none⟩)), (3, .int .u32 h.time), (5, .pointer (some ⟨w.heap.size, 2, none⟩)), (6, .int .u8 h.xfl), (7, .pointer (some ⟨w.heap.size, 3, none⟩)), (8, .int .u8 h.os)] [(1, wOwn 5 (u8s ([31, 139, 8, flH h]))), (4, wOwn 5 (u8s ([31, 139, 8, flH h] ++ leN 4 h.time))), (9, wOwn 5 (u8s ([h.xfl, h.os]))), (10, wOwn 5 (u8s (([31, 139, 8, flH h] ++ leN 4 h.time) ++ [h.xfl, h.os]))), (11, wOwn 5 (u8s (([31, 139, 8, flH h] ++ leN 4 h.time) ++ [h.xfl, h.os])))] (by kernel_rfl) rfl (by kernel_rfl) (by kernel_rfl) rfl ?base ⟨?_, ?_, ?_, ?_, ?_, ?_, ?_, ?_, ?_, ?_, ?_, ?_, trivial⟩ ?fin
      case base =>
        refine BaseD.one 0 (fun _ => False) (fun hm0 => absurd hm0 (by decide)) (fun k f => f.elim) (fun t ht _ => ?_)
        simp only [List.mem_cons, List.not_mem_nil, or_false] at ht
        rcases ht with rfl | rfl
        · exact PhiD.ofVal rfl rfl
        · exact PhiD.ofVal rfl rfl
      · refine OblD.val (.int .u8 (flH h)) (fun ev w1 Ss hE hT hk => ?_) (fun _ => PhiD.ofVal rfl rfl)
        obtain ⟨hc, hf, hg⟩ := hE
        have h0 := PhiD.fact (kn (k' := 16) hk.1 (by kernel_rfl)) rfl rfl
        clear hk
        exact ⟨rfl, by go_simp⟩
      · refine OblD.gen (fun ev w1 Ss hE hT hk hd hs => ?_)
        obtain ⟨hc, hf, hg⟩ := hE
        have h0 := PhiD.fact (kn (k' := 0) hk.1 (by kernel_rfl)) rfl rfl
        clear hk
        exact ⟨rfl, .slice (some ⟨w1.heap.size, 0, none⟩) 4 4, w1.alloc (.cells #[.int .u8 31, .int .u8 139, .int .u8 8, .int .u8 (flH h)] 5), fun g => g = w1.heap.size, by go_simp, (Touch.refl _ w1).alloc _, fun g e => Or.inr (by rw [e]; exact Nat.le_refl _), PhiD.ofWord rfl ⟨some w1.heap.size, ⟨World.ownsRow_lit w1 #[.int .u8 31, .int .u8 139, .int .u8 8, .int .u8 (flH h)] 4 (Nat.zero_le _) (by decide) rfl, rfl⟩, fun g => ⟨fun e => by rw [e], fun e => by cases e; rfl⟩⟩⟩
      · refine OblD.val (.pointer (some ⟨w.heap.size, 1, none⟩)) (fun ev w1 Ss hE hT hk => ?_) (fun _ => PhiD.ofVal rfl rfl)
        obtain ⟨hc, hf, hg⟩ := hE
        have h0 := PhiD.fact (kn (k' := 13) hk.1 (by kernel_rfl)) rfl rfl
        clear hk
        exact ⟨rfl, by go_simp⟩
      · refine OblD.val (.int .u32 h.time) (fun ev w1 Ss hE hT hk => ?_) (fun _ => PhiD.ofVal rfl rfl)
        obtain ⟨hc, hf, hg⟩ := hE
        have h0 := PhiD.fact (kn (k' := 2) hk.1 (by kernel_rfl)) rfl rfl
        clear hk
        have hex := HEW.out.touch hT.drew_l HNI.out
        have hbx := HB.out.touch hex (fun f => f)
        have hc9 : w1.cell? ⟨w.heap.size, 1, none⟩ = some (.int .u32 h.time) := hbx.cell 1
        clear hex hbx
        exact ⟨rfl, by go_simp⟩
      · refine OblD.call 19 (fun ev => #[ev (.tmp 21), .int .u32 h.time, .int .i64 4]) (fun ev w1 Ss hE hT hk hd hs => ?_)
        obtain ⟨hc, hf, hg⟩ := hE
        have h0 := PhiD.word (kn (k' := 1) hk.1 (by kernel_rfl)) rfl; have h1 := PhiD.fact (kn (k' := 3) hk.2.1 (by kernel_rfl)) rfl rfl
        clear hk
        refine ⟨rfl, by go_simp, ?_⟩
        obtain ⟨og, k1, k2⟩ := h0
        refine (frm_low _ og ([31, 139, 8, flH h]) (h.time) 4 w1 (by rw [length_u8s] at k1; exact k1) (by first | (simp only [List.length_append, List.length_cons, List.length_nil, length_leN]; omega) | omega) (by omega) (by decide)).mono ?_
        rintro e w2 ⟨v', rfl, og', j1, j2, j3⟩
        refine ⟨v', fun g => og' = some g, rfl, j3.mono (fun k _ e => handed_of 1 (by kernel_rfl) ((k2 k).2 e)), fun k e => ?_, PhiD.ofWord rfl ⟨og', (by rw [length_u8s]; exact j1), fun _ => Iff.rfl⟩⟩
        rcases j2 with rfl | ⟨g, rfl, hg⟩
        · exact Or.inl (handed_of 1 (by kernel_rfl) ((k2 k).2 e))
        · cases e; exact Or.inr hg
      · refine OblD.val (.pointer (some ⟨w.heap.size, 2, none⟩)) (fun ev w1 Ss hE hT hk => ?_) (fun _ => PhiD.ofVal rfl rfl)
        obtain ⟨hc, hf, hg⟩ := hE
        have h0 := PhiD.fact (kn (k' := 13) hk.1 (by kernel_rfl)) rfl rfl
        clear hk
        exact ⟨rfl, by go_simp⟩
      · refine OblD.val (.int .u8 h.xfl) (fun ev w1 Ss hE hT hk => ?_) (fun _ => PhiD.ofVal rfl rfl)
        obtain ⟨hc, hf, hg⟩ := hE
        have h0 := PhiD.fact (kn (k' := 5) hk.1 (by kernel_rfl)) rfl rfl
        clear hk
        have hex := HEW.out.touch hT.drew_l HNI.out
        have hbx := HB.out.touch hex (fun f => f)
        have hc9 : w1.cell? ⟨w.heap.size, 2, none⟩ = some (.int .u8 h.xfl) := hbx.cell 2
        clear hex hbx
        exact ⟨rfl, by go_simp⟩
      · refine OblD.val (.pointer (some ⟨w.heap.size, 3, none⟩)) (fun ev w1 Ss hE hT hk => ?_) (fun _ => PhiD.ofVal rfl rfl)
        obtain ⟨hc, hf, hg⟩ := hE
        have h0 := PhiD.fact (kn (k' := 13) hk.1 (by kernel_rfl)) rfl rfl
        clear hk
        exact ⟨rfl, by go_simp⟩
      · refine OblD.val (.int .u8 h.os) (fun ev w1 Ss hE hT hk => ?_) (fun _ => PhiD.ofVal rfl rfl)
        obtain ⟨hc, hf, hg⟩ := hE
        have h0 := PhiD.fact (kn (k' := 7) hk.1 (by kernel_rfl)) rfl rfl
        clear hk
        have hex := HEW.out.touch hT.drew_l HNI.out
        have hbx := HB.out.touch hex (fun f => f)
        have hc9 : w1.cell? ⟨w.heap.size, 3, none⟩ = some (.int .u8 h.os) := hbx.cell 3
        clear hex hbx
        exact ⟨rfl, by go_simp⟩
      · refine OblD.gen (fun ev w1 Ss hE hT hk hd hs => ?_)
        obtain ⟨hc, hf, hg⟩ := hE
        have h0 := PhiD.fact (kn (k' := 6) hk.1 (by kernel_rfl)) rfl rfl; have h1 := PhiD.fact (kn (k' := 8) hk.2.1 (by kernel_rfl)) rfl rfl
        clear hk
        exact ⟨rfl, .slice (some ⟨w1.heap.size, 0, none⟩) 2 2, w1.alloc (.cells #[.int .u8 h.xfl, .int .u8 h.os] 5), fun g => g = w1.heap.size, by go_simp, (Touch.refl _ w1).alloc _, fun g e => Or.inr (by rw [e]; exact Nat.le_refl _), PhiD.ofWord rfl ⟨some w1.heap.size, ⟨World.ownsRow_lit w1 #[.int .u8 h.xfl, .int .u8 h.os] 2 (Nat.zero_le _) (by decide) rfl, rfl⟩, fun g => ⟨fun e => by rw [e], fun e => by cases e; rfl⟩⟩⟩
      · refine OblD.gen (fun ev w1 Ss hE hT hk hd hs => ?_)
        obtain ⟨hc, hf, hg⟩ := hE
        have h0 := PhiD.word (kn (k' := 4) hk.1 (by kernel_rfl)) rfl; have h1 := PhiD.word (kn (k' := 9) hk.2.1 (by kernel_rfl)) rfl
        clear hk
        obtain ⟨og, k1, k2⟩ := h0
        obtain ⟨og9, k5, k6⟩ := h1
        have hview := k5.viewL
        obtain ⟨v', w2, r1, r2, r3, r4⟩ := run_append_view (P := Tryz.prog) w1 0 22 22 5 i0 (.int .u8 0) 1 Tryz.underlying22 hi hz0 hz1 hz2 rfl (ev (.tmp 24)) (u8s ([31, 139, 8, flH h] ++ leN 4 h.time)).length (u8s ([31, 139, 8, flH h] ++ leN 4 h.time)) k1.1 (ev (.tmp 29)) (u8s ([h.xfl, h.os])) hview (u8s_one _) (by simp only [length_u8s, List.length_append, List.length_cons, List.length_nil, length_leN]; unfold maxLen; omega) (by simp only [length_u8s, List.length_append, List.length_cons, List.length_nil, length_leN]; omega) (Nat.zero_le _)
        refine ⟨rfl, v', w2, fun g => v'.ownBlock = some g, by simp [execOp, resolve, invoke, builtin, r1, Result.andThen], (Touch.refl _ w1).grown r3 (fun k e => Or.inl (handed_of 4 (by kernel_rfl) ((k2 k).2 (by rw [← k1.2]; exact e)))), fun k e => ?_, PhiD.ofWord rfl ⟨v'.ownBlock, ⟨(by rw [u8s_append, List.length_append]; exact r2), rfl⟩, fun _ => Iff.rfl⟩⟩
        rcases r4 with r4 | r4
        · exact Or.inl (handed_of 4 (by kernel_rfl) ((k2 k).2 (by rw [← k1.2, ← r4]; exact e)))
        · rw [r4] at e; cases e; exact Or.inr (Nat.le_refl _)
      · refine OblD.gen (fun ev w1 Ss hE hT hk hd hs => ?_)
        obtain ⟨hc, hf, hg⟩ := hE
        have h0 := PhiD.word (kn (k' := 10) hk.1 (by kernel_rfl)) rfl
        clear hk
        exact ⟨rfl, ev (.tmp 30), w1, Ss 10, by go_simp, Touch.refl _ _, fun k e => Or.inl (handed_of 10 (by kernel_rfl) e), PhiD.ofWord rfl h0⟩
      case fin =>
        intro vs w5 Ss hT hF hB
        have h5 := (hF 11 _ 5 rfl rfl (by kernel_rfl)).1.word rfl
        have h6 := (hF 11 _ 5 rfl rfl (by kernel_rfl)).2
        obtain ⟨og, k1, k2⟩ := h5
        clear hF hB
        simp only [List.foldl_cons, List.foldl_nil]
        generalize vs 20 = x20 at *
        generalize vs 21 = x21 at *
        generalize vs 22 = x22 at *
        generalize vs 23 = x23 at *
        generalize vs 24 = x24 at *
        generalize vs 25 = x25 at *
        generalize vs 26 = x26 at *
        generalize vs 27 = x27 at *
        generalize vs 28 = x28 at *
        generalize vs 29 = x29 at *
        generalize vs 30 = x30 at *
        generalize vs 5 = x5 at *
        simp only [Act.put, List.setIfInBounds_toArray, List.set_cons_succ, List.set_cons_zero]
        have HF := Lib.hid (show CloneOf wm (fx8 h (flH h)) (.returned x5) w5 from ⟨x5, og, rfl, (by rw [length_u8s] at k1; exact k1), fun g e => by rcases h6 g ((k2 g).2 e) with f | f; exact f.elim; exact f, hT⟩)
        clear k1 k2 h6 hT
        go_wp2_with fail
        go_meet
        exact HF.out
    case rest =>
    clear HEW
    have HC := Lib.hid hcut
    clear hcut
    go_upto_if 33 with fail
    go_cut [5] (fun v wx => CloneOf wm (px h) (.returned v) wx)
    case first =>
      by_cases hx : h.has % 2 = 1
      · have hb : (bits .and .u8 (flH h : Int) 4 != 0) = true := by rw [flag4 h h8]; exact decide_eq_true hx
        have HP := Lib.hid (show px h = (fx8 h (flH h) ++ leN 2 h.extra.length) ++ h.extra by unfold px; rw [if_pos hx])
        clear hx
        have hpl : (fx8 h (flH h)).length = 10 := by simp [fx8, length_leN]
        generalize fx8 h (flH h) = p at *
        have HEW := Lib.hid (ext_of HC.out)
        obtain ⟨vq, og0, eq0, ho0, hn0, _⟩ := HC.out
        cases eq0
        have HNI := Lib.hid (show ∀ i, i < wm.heap.size → ¬ og0 = some i from fun i hi e => by have := hn0 i e; omega)
        have HO := Lib.hid ho0
        have HN := Lib.hid hn0
        clear ho0 hn0 HC
        go_wp2_with fail
        refine wp_region_owns 68 [5, 1] [34, 35, 36, 37, 38, 39, 40, 41, 42, 5] [15, 0, 5, 8, 9] (fun k => og0 = some k) [(11, .pointer (some ⟨w.heap.size, 0, none⟩)), (1, .pointer (some ⟨w.heap.size, 4, none⟩)), (2, .slice eo h.extra.length ecap), (3, .int .i64 h.extra.length), (4, .int .u32 h.extra.length), (6, .pointer (some ⟨w.heap.size, 4, none⟩)), (7, .slice eo h.extra.length ecap)] [(15, wOwn 5 (u8s (p))), (0, wOwn 5 (u8s (p))), (5, wOwn 5 (u8s (p ++ leN 2 h.extra.length))), (8, wOwn 5 (u8s ((p ++ leN 2 h.extra.length) ++ h.extra))), (9, wOwn 5 (u8s ((p ++ leN 2 h.extra.length) ++ h.extra)))] (by kernel_rfl) rfl (by kernel_rfl) (by kernel_rfl) rfl ?base ⟨?_, ?_, ?_, ?_, ?_, ?_, ?_, ?_, ?_, ?_, trivial⟩ ?fin
        case base =>
          refine BaseD.one 5 (fun k => og0 = some k) (fun _ => PhiD.ofWord rfl ⟨og0, (by rw [length_u8s]; exact HO.out), fun _ => Iff.rfl⟩) (fun k e => Or.inl e) (fun t ht hne => ?_)
          simp only [List.mem_cons, List.not_mem_nil, or_false] at ht
          rcases ht with rfl | rfl
          · exact (hne rfl).elim
          · exact PhiD.ofVal rfl rfl
        · refine OblD.gen (fun ev w1 Ss hE hT hk hd hs => ?_)
          obtain ⟨hc, hf, hg⟩ := hE
          have h0 := PhiD.word (kn (k' := 15) hk.1 (by kernel_rfl)) rfl
          clear hk
          exact ⟨rfl, ev (.tmp 5), w1, Ss 15, by go_simp, Touch.refl _ _, fun k e => Or.inl (handed_of 15 (by kernel_rfl) e), PhiD.ofWord rfl h0⟩
        · refine OblD.val (.pointer (some ⟨w.heap.size, 4, none⟩)) (fun ev w1 Ss hE hT hk => ?_) (fun _ => PhiD.ofVal rfl rfl)
          obtain ⟨hc, hf, hg⟩ := hE
          have h0 := PhiD.fact (kn (k' := 11) hk.1 (by kernel_rfl)) rfl rfl
          clear hk
          exact ⟨rfl, by go_simp⟩
        · refine OblD.val (.slice eo h.extra.length ecap) (fun ev w1 Ss hE hT hk => ?_) (fun _ => PhiD.ofVal rfl rfl)
          obtain ⟨hc, hf, hg⟩ := hE
          have h0 := PhiD.fact (kn (k' := 1) hk.1 (by kernel_rfl)) rfl rfl
          clear hk
          have hex := HEW.out.touch hT.drew_l HNI.out
          have hbx := HB.out.touch hex (fun f => f)
          have hc9 : w1.cell? ⟨w.heap.size, 4, none⟩ = some (.slice eo h.extra.length ecap) := hbx.cell 4
          clear hex hbx
          exact ⟨rfl, by go_simp⟩
        · refine OblD.val (.int .i64 h.extra.length) (fun ev w1 Ss hE hT hk => ?_) (fun _ => PhiD.ofVal rfl rfl)
          obtain ⟨hc, hf, hg⟩ := hE
          have h0 := PhiD.fact (kn (k' := 2) hk.1 (by kernel_rfl)) rfl rfl
          clear hk
          exact ⟨rfl, by go_simp⟩
        · refine OblD.val (.int .u32 h.extra.length) (fun ev w1 Ss hE hT hk => ?_) (fun _ => PhiD.ofVal rfl rfl)
          obtain ⟨hc, hf, hg⟩ := hE
          have h0 := PhiD.fact (kn (k' := 3) hk.1 (by kernel_rfl)) rfl rfl
          clear hk
          have hw : IntKind.u32.wrap (h.extra.length : Int) = h.extra.length := IntWalk.u32_in _ (by omega)
          exact ⟨rfl, by go_simp⟩
        · refine OblD.call 19 (fun ev => #[ev (.tmp 34), .int .u32 h.extra.length, .int .i64 2]) (fun ev w1 Ss hE hT hk hd hs => ?_)
          obtain ⟨hc, hf, hg⟩ := hE
          have h0 := PhiD.word (kn (k' := 0) hk.1 (by kernel_rfl)) rfl; have h1 := PhiD.fact (kn (k' := 4) hk.2.1 (by kernel_rfl)) rfl rfl
          clear hk
          refine ⟨rfl, by go_simp, ?_⟩
          obtain ⟨og, k1, k2⟩ := h0
          refine (frm_low _ og (p) (h.extra.length) 2 w1 (by rw [length_u8s] at k1; exact k1) (by first | (simp only [List.length_append, List.length_cons, List.length_nil, length_leN]; omega) | omega) (by omega) (by decide)).mono ?_
          rintro e w2 ⟨v', rfl, og', j1, j2, j3⟩
          refine ⟨v', fun g => og' = some g, rfl, j3.mono (fun k _ e => handed_of 0 (by kernel_rfl) ((k2 k).2 e)), fun k e => ?_, PhiD.ofWord rfl ⟨og', (by rw [length_u8s]; exact j1), fun _ => Iff.rfl⟩⟩
          rcases j2 with rfl | ⟨g, rfl, hg⟩
          · exact Or.inl (handed_of 0 (by kernel_rfl) ((k2 k).2 e))
          · cases e; exact Or.inr hg
        · refine OblD.val (.pointer (some ⟨w.heap.size, 4, none⟩)) (fun ev w1 Ss hE hT hk => ?_) (fun _ => PhiD.ofVal rfl rfl)
          obtain ⟨hc, hf, hg⟩ := hE
          have h0 := PhiD.fact (kn (k' := 11) hk.1 (by kernel_rfl)) rfl rfl
          clear hk
          exact ⟨rfl, by go_simp⟩
        · refine OblD.val (.slice eo h.extra.length ecap) (fun ev w1 Ss hE hT hk => ?_) (fun _ => PhiD.ofVal rfl rfl)
          obtain ⟨hc, hf, hg⟩ := hE
          have h0 := PhiD.fact (kn (k' := 6) hk.1 (by kernel_rfl)) rfl rfl
          clear hk
          have hex := HEW.out.touch hT.drew_l HNI.out
          have hbx := HB.out.touch hex (fun f => f)
          have hc9 : w1.cell? ⟨w.heap.size, 4, none⟩ = some (.slice eo h.extra.length ecap) := hbx.cell 4
          clear hex hbx
          exact ⟨rfl, by go_simp⟩
        · refine OblD.gen (fun ev w1 Ss hE hT hk hd hs => ?_)
          obtain ⟨hc, hf, hg⟩ := hE
          have h0 := PhiD.word (kn (k' := 5) hk.1 (by kernel_rfl)) rfl; have h1 := PhiD.fact (kn (k' := 7) hk.2.1 (by kernel_rfl)) rfl rfl
          clear hk
          obtain ⟨og, k1, k2⟩ := h0
          have hview : ViewL w1 (ev (.tmp 41)) (u8s h.extra) := by rw [h1]; exact HVM.out.ext (HEW.out.touch hT.drew_l HNI.out)
          obtain ⟨v', w2, r1, r2, r3, r4⟩ := run_append_view (P := Tryz.prog) w1 0 22 22 5 i0 (.int .u8 0) 1 Tryz.underlying22 hi hz0 hz1 hz2 rfl (ev (.tmp 39)) (u8s (p ++ leN 2 h.extra.length)).length (u8s (p ++ leN 2 h.extra.length)) k1.1 (ev (.tmp 41)) (u8s (h.extra)) hview (u8s_one _) (by simp only [length_u8s, List.length_append, List.length_cons, List.length_nil, length_leN]; unfold maxLen; omega) (by simp only [length_u8s, List.length_append, List.length_cons, List.length_nil, length_leN]; omega) (Nat.zero_le _)
          refine ⟨rfl, v', w2, fun g => v'.ownBlock = some g, by simp [execOp, resolve, invoke, builtin, r1, Result.andThen], (Touch.refl _ w1).grown r3 (fun k e => Or.inl (handed_of 5 (by kernel_rfl) ((k2 k).2 (by rw [← k1.2]; exact e)))), fun k e => ?_, PhiD.ofWord rfl ⟨v'.ownBlock, ⟨(by rw [u8s_append, List.length_append]; exact r2), rfl⟩, fun _ => Iff.rfl⟩⟩
          rcases r4 with r4 | r4
          · exact Or.inl (handed_of 5 (by kernel_rfl) ((k2 k).2 (by rw [← k1.2, ← r4]; exact e)))
          · rw [r4] at e; cases e; exact Or.inr (Nat.le_refl _)
        · refine OblD.gen (fun ev w1 Ss hE hT hk hd hs => ?_)
          obtain ⟨hc, hf, hg⟩ := hE
          have h0 := PhiD.word (kn (k' := 8) hk.1 (by kernel_rfl)) rfl
          clear hk
          exact ⟨rfl, ev (.tmp 42), w1, Ss 8, by go_simp, Touch.refl _ _, fun k e => Or.inl (handed_of 8 (by kernel_rfl) e), PhiD.ofWord rfl h0⟩
        case fin =>
          intro vs w5 Ss hT hF hB
          have h5 := (hF 9 _ 5 rfl rfl (by kernel_rfl)).1.word rfl
          have h6 := (hF 9 _ 5 rfl rfl (by kernel_rfl)).2
          obtain ⟨og, k1, k2⟩ := h5
          clear hF hB
          simp only [List.foldl_cons, List.foldl_nil]
          generalize vs 34 = x34 at *
          generalize vs 35 = x35 at *
          generalize vs 36 = x36 at *
          generalize vs 37 = x37 at *
          generalize vs 38 = x38 at *
          generalize vs 39 = x39 at *
          generalize vs 40 = x40 at *
          generalize vs 41 = x41 at *
          generalize vs 42 = x42 at *
          generalize vs 5 = x5 at *
          simp only [Act.put, List.setIfInBounds_toArray, List.set_cons_succ, List.set_cons_zero]
          have HF := Lib.hid (show CloneOf wm ((p ++ leN 2 h.extra.length) ++ h.extra) (.returned x5) w5 from ⟨x5, og, rfl, (by rw [length_u8s] at k1; exact k1), fun g e => by rcases h6 g ((k2 g).2 e) with f | f; exact HN.out g f; exact Nat.le_trans HEW.out.size f, HEW.out.touch hT (fun i hi e => Nat.lt_irrefl _ (Nat.lt_of_lt_of_le hi (HN.out i e)))⟩)
          clear k1 k2 h6 hT
          go_wp2_with fail
          go_meet
          rw [HP.out]
          exact HF.out
      · have hb : (bits .and .u8 (flH h : Int) 4 != 0) = false := by rw [flag4 h h8]; exact decide_eq_false hx
        have HP := Lib.hid (show px h = fx8 h (flH h) by unfold px; rw [if_neg hx])
        clear hx
        go_wp2_with fail
        go_meet
        rw [HP.out]
        exact HC.out
    case rest =>
    clear HC
    have HC := Lib.hid hcut
    clear hcut
    go_upto_if 45 with fail
    go_cut [5] (fun v wx => CloneOf wm (pn h) (.returned v) wx)
    case first =>
      by_cases hx : h.has / 2 % 2 = 1
      · have hb : (bits .and .u8 (flH h : Int) 8 != 0) = true := by rw [flag8 h h8]; exact decide_eq_true hx
        have HP := Lib.hid (show pn h = (px h ++ sb h.name) ++ [0] by unfold pn; rw [if_pos hx])
        have hL : (px h).length ≤ 12 + h.extra.length := px_len h
        have c5 : wc.cell? ⟨w.heap.size, 5, none⟩ = some (.string h.name) := (HB.out.touch (ext_of HC.out) (fun f => f)).cell 5
        have hbase := (ext_of HC.out).size
        clear hx
        go_wp2_with (at_builtin; first | go_must (refine Lib.wpList_append_own_string _ rfl (.tmp 46) (.tmp 48) 22 9 rfl wm.heap.size 5 i0 Tryz.underlying22 Tryz.underlying9 hi hz0 hz1 hz2 _ _ _ rfl (HC.out.own_at rfl) h.name rfl (by unfold maxLen; omega) (by omega) hbase ?_))
        intro v' w3 hown' hgrow _
        have HS := Lib.hid (clone_str HC.out rfl hown' hgrow)
        clear hown' hgrow
        have HL := Lib.hid (show (px h ++ sb h.name).length = (px h).length + h.name.size by rw [List.length_append, length_sb])
        go_wp2_with (at_builtin; go_must (refine wpList_append_own_at _ rfl (.tmp 49) (.tmp 50) 22 rfl 0 5 i0 (.int .u8 0) 1 1 Tryz.underlying22 hi hz0 hz1 hz2 rfl (by decide) _ ((px h).length + h.name.size) (u8s (px h ++ sb h.name)) rfl ((HS.out.own HL.out).alloc _) ⟨w3.heap.size, 0, none⟩ 1 1 [_] rfl rfl (cell_one_new _ _ _) (by simp [Value.oneCell']) (by unfold maxLen; omega) (by omega) (Nat.zero_le _) ?_))
        intro v2 w4 hown' hgrow _ hat
        have HF := Lib.hid (clone_app (xs := [0]) HS.out HL.out hown' hgrow hat)
        clear hown' hgrow hat
        go_wp2_with fail
        go_meet
        rw [HP.out]
        exact HF.out
      · have hb : (bits .and .u8 (flH h : Int) 8 != 0) = false := by rw [flag8 h h8]; exact decide_eq_false hx
        have HP := Lib.hid (show pn h = px h by unfold pn; rw [if_neg hx])
        clear hx
        go_wp2_with fail
        go_meet
        rw [HP.out]
        exact HC.out
    case rest =>
    clear HC
    have HC := Lib.hid hcut
    clear hcut
    go_upto_if 54 with fail
    go_cut [5] (fun v wx => CloneOf wm (pc h) (.returned v) wx)
    case first =>
      by_cases hx : h.has / 4 % 2 = 1
      · have hb : (bits .and .u8 (flH h : Int) 16 != 0) = true := by rw [flag16 h h8]; exact decide_eq_true hx
        have HP := Lib.hid (show pc h = (pn h ++ sb h.comment) ++ [0] by unfold pc; rw [if_pos hx])
        have hL : (pn h).length ≤ 13 + h.extra.length + h.name.size := pn_len h
        have c5 : wc.cell? ⟨w.heap.size, 6, none⟩ = some (.string h.comment) := (HB.out.touch (ext_of HC.out) (fun f => f)).cell 6
        have hbase := (ext_of HC.out).size
        clear hx
        go_wp2_with (at_builtin; first | go_must (refine Lib.wpList_append_own_string _ rfl (.tmp 55) (.tmp 57) 22 9 rfl wm.heap.size 5 i0 Tryz.underlying22 Tryz.underlying9 hi hz0 hz1 hz2 _ _ _ rfl (HC.out.own_at rfl) h.comment rfl (by unfold maxLen; omega) (by omega) hbase ?_))
        intro v' w3 hown' hgrow _
        have HS := Lib.hid (clone_str HC.out rfl hown' hgrow)
        clear hown' hgrow
        have HL := Lib.hid (show (pn h ++ sb h.comment).length = (pn h).length + h.comment.size by rw [List.length_append, length_sb])
        go_wp2_with (at_builtin; go_must (refine wpList_append_own_at _ rfl (.tmp 58) (.tmp 59) 22 rfl 0 5 i0 (.int .u8 0) 1 1 Tryz.underlying22 hi hz0 hz1 hz2 rfl (by decide) _ ((pn h).length + h.comment.size) (u8s (pn h ++ sb h.comment)) rfl ((HS.out.own HL.out).alloc _) ⟨w3.heap.size, 0, none⟩ 1 1 [_] rfl rfl (cell_one_new _ _ _) (by simp [Value.oneCell']) (by unfold maxLen; omega) (by omega) (Nat.zero_le _) ?_))
        intro v2 w4 hown' hgrow _ hat
        have HF := Lib.hid (clone_app (xs := [0]) HS.out HL.out hown' hgrow hat)
        clear hown' hgrow hat
        go_wp2_with fail
        go_meet
        rw [HP.out]
        exact HF.out
      · have hb : (bits .and .u8 (flH h : Int) 16 != 0) = false := by rw [flag16 h h8]; exact decide_eq_false hx
        have HP := Lib.hid (show pc h = pn h by unfold pc; rw [if_neg hx])
        clear hx
        go_wp2_with fail
        go_meet
        rw [HP.out]
        exact HC.out
    case rest =>
    clear HC
    have HC := Lib.hid hcut
    clear hcut
    have c8 : wc.cell? ⟨w.heap.size, 8, none⟩ = some (.bool h.sum) := (HB.out.touch (ext_of HC.out) (fun f => f)).cell 8
    have hpl := pc_len h
    cases hs : h.sum with
    | true =>
      rw [hs] at c8
      have HP := Lib.hid (show putH h = pc h ++ leN 2 (crcL (pc h)) by unfold putH; rw [hs]; rfl)
      have hlt := putH_lt h ok h8
      clear hs
      obtain ⟨vq, og0, eq0, ho0, hn0, _⟩ := HC.out
      have HEW := Lib.hid (ext_of HC.out)
      cases eq0
      have HLOW := Lib.hid (crc_low _ _ wc ho0.viewL hlt (by omega))
      have HO := Lib.hid ho0
      have HN := Lib.hid hn0
      clear ho0 hn0 hlt HC
      go_wp2_with fail
      refine HLOW.out.mono ?_
      rintro e w2 ⟨rfl, he2⟩
      have HE2 := Lib.hid he2
      clear he2
      go_wp2_with fail
      refine (frm_low _ og0 (pc h) (crcL (pc h)) 2 w2 (HO.out.ext' HE2.out) (by omega) (crcL_lt _) (by decide)).mono ?_
      rintro e w3 ⟨v', rfl, hre⟩
      have HF := Lib.hid (clone_up (clone_regrown (HO.out.ext' HE2.out) HN.out (HEW.out.trans HE2.out) hre) HEM.out)
      clear hre
      go_wp2_with fail
      go_ret2
      exact ⟨_, rfl, by rw [HP.out]; exact HF.out⟩
    | false =>
      rw [hs] at c8
      have HP := Lib.hid (show putH h = pc h by unfold putH; rw [hs]; rfl)
      clear hs
      have HF := Lib.hid (clone_up HC.out HEM.out)
      go_wp2_with fail
      go_ret2
      exact ⟨_, rfl, by rw [HP.out]; exact HF.out⟩
  · simp only [if_neg hm]
    have HD := Lib.hid (show decide (MayH h) = false from decide_eq_false hm)
    have hbw : IsBox (w.alloc (.cells (hcells h (.slice eo h.extra.length ecap)) 34)) w.heap.size h (.slice eo h.extra.length ecap) := ext_box
    have q0 : (w.alloc (.cells (hcells h (.slice eo h.extra.length ecap)) 34)).cell? ⟨w.heap.size, 0, none⟩ = some (.bool h.text) := hbw.cell 0
    have q1 : (w.alloc (.cells (hcells h (.slice eo h.extra.length ecap)) 34)).cell? ⟨w.heap.size, 1, none⟩ = some (.int .u32 h.time) := hbw.cell 1
    have q2 : (w.alloc (.cells (hcells h (.slice eo h.extra.length ecap)) 34)).cell? ⟨w.heap.size, 2, none⟩ = some (.int .u8 h.xfl) := hbw.cell 2
    have q3 : (w.alloc (.cells (hcells h (.slice eo h.extra.length ecap)) 34)).cell? ⟨w.heap.size, 3, none⟩ = some (.int .u8 h.os) := hbw.cell 3
    have q4 : (w.alloc (.cells (hcells h (.slice eo h.extra.length ecap)) 34)).cell? ⟨w.heap.size, 4, none⟩ = some (.slice eo h.extra.length ecap) := hbw.cell 4
    have q5 : (w.alloc (.cells (hcells h (.slice eo h.extra.length ecap)) 34)).cell? ⟨w.heap.size, 5, none⟩ = some (.string h.name) := hbw.cell 5
    have q6 : (w.alloc (.cells (hcells h (.slice eo h.extra.length ecap)) 34)).cell? ⟨w.heap.size, 6, none⟩ = some (.string h.comment) := hbw.cell 6
    have q7 : (w.alloc (.cells (hcells h (.slice eo h.extra.length ecap)) 34)).cell? ⟨w.heap.size, 7, none⟩ = some (.int .u8 h.has) := hbw.cell 7
    have q8 : (w.alloc (.cells (hcells h (.slice eo h.extra.length ecap)) 34)).cell? ⟨w.heap.size, 8, none⟩ = some (.bool h.sum) := hbw.cell 8
    have HI := Lib.hid (frm_may h eo ecap (w.alloc (.cells (hcells h (.slice eo h.extra.length ecap)) 34)) ⟨hsz.1, hsz.2.1, hsz.2.2, ok.has⟩)
    clear hbw hsz hv
    go_enter Tryz.func10, Tryz.ntmps10
    go_wp2_with fail
    refine (HI.out).mono ?_
    rintro e wm ⟨rfl, hext⟩
    rw [HD.out]
    have HE := Lib.hid (((Ext.refl w).alloc _).trans hext)
    clear hext
    go_wp2_with fail
    go_ret2
    exact ⟨rfl, HE.out⟩
end Go.Proofs.YtbbcphloafmldaaGreat
