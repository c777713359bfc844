/- repeat.Unpack: its walk. -/
import Derived.Test.YtbbcphloafmldaaGreatBnd3
import Derived.Test.YtbbcphloafmldaaGreatBnd18
namespace Go.Proofs.YtbbcphloafmldaaGreat
open Go.RowKit
set_option linter.unusedVariables false

theorem bo_app {w w1 w2 : World} {acc ns : List Nat} {ov v' : Value} {t : Nat} (h : BO w acc ov w1) (ht : ns.length = t) (hown' : w2.ownsRow 0 5 1 v' (acc.length + t) (u8s acc ++ u8s ns))
    (hgrow : w1.grownBy w2 ov.ownBlock) (hat : v'.ownBlock = ov.ownBlock ∨ v'.ownBlock = some w1.heap.size) : BO w (acc ++ ns) v' w2 := by
  obtain ⟨og, h1, h2, h3⟩ := h
  subst ht
  refine ⟨v'.ownBlock, ⟨by rw [u8s_append, List.length_append]; exact hown', rfl⟩, fun g e => ?_, Touch.grown h3 hgrow (fun i e => Or.inr (h2 i (by rw [← h1.2]; exact e)))⟩
  rcases hat with hat | hat
  · rw [hat, h1.2] at e; exact h2 g e
  · rw [hat] at e; cases e; exact h3.size
theorem unpR_none {l : List (Nat × Nat)} {n : Int} (hok : l.all okSign = true) (h : unp l [] = none) : unpR l n = ([], 2) := by rw [unpR, if_pos hok, h]
theorem unpR_long {l : List (Nat × Nat)} {n : Int} (hok : l.all okSign = true) {k : Nat} {s : Nat × Nat} {acc : List Nat} (h : unp l [] = unp (s :: l.drop k) acc) (hn : n < (acc.length : Int) + timesOf s) : unpR l n = ([], 2) := by
  rw [unpR, if_pos hok, h]
  cases hu : unp (s :: l.drop k) acc with
  | none => rfl
  | some m =>
    have := unp_len_cons hu
    simp only
    rw [if_neg (by omega)]
theorem unp_lit {s : Nat × Nat} {r : List (Nat × Nat)} {acc : List Nat} (h : s.1 ≠ 16) : unp (s :: r) acc = unp r (acc ++ List.replicate (timesOf s) (if s.1 < 16 then s.1 else 0)) := by rw [unp, if_neg h]
theorem unp_rep {s : Nat × Nat} {r : List (Nat × Nat)} {acc : List Nat} {k : Nat} (h : s.1 = 16) (hk : acc.getLast? = some k) : unp (s :: r) acc = unp r (acc ++ List.replicate (timesOf s) k) := by rw [unp, if_pos h, hk]
theorem unp_bad {s : Nat × Nat} {r : List (Nat × Nat)} (h : s.1 = 16) : unp (s :: r) [] = none := by rw [unp, if_pos h]; rfl

set_option maxHeartbeats 4000000 in
set_option maxRecDepth 100000 in
theorem rep_unpack (sv : Value) (l : List (Nat × Nat)) (n : Int) (w : World) (hv : ViewS w sv l) (h256 : ∀ s ∈ l, s.1 < 256 ∧ s.2 < 256) (hlen : l.length ≤ 100000) (hn1 : -9223372036854775808 ≤ n) (hn2 : n ≤ 9223372036854775807) :
    Calls Tryz.prog 116 #[sv, .int .i64 n] w fun e w' => ∃ v, e = .returned (.tuple #[v, .int .i64 (unpR l n).2]) ∧ BO w (unpR l n).1 v w' := by
  obtain ⟨i0, hi, hz0, hz1, hz2⟩ := info_parts info_u8
  obtain ⟨ao, cap, rfl⟩ := hv.shape
  have HV := Lib.hid hv
  have H256 := Lib.hid h256
  clear hv h256
  go_enter Tryz.func116, Tryz.ntmps116
  go_wp2_with fail
  refine (rep_containsS _ l _ HV.out H256.out (by omega)).mono ?_
  rintro e w1 ⟨rfl, hx1⟩
  cases hok : l.all okSign with
  | false =>
    have hr : unpR l n = ([], 5) := by rw [unpR, hok]; rfl
    have HR := Lib.hid hr
    have HX1 := Lib.hid hx1
    clear hr hx1 hok
    go_wp2_with fail
    go_ret2
    exact ⟨.slice none 0 0, by rw [HR.out]; rfl, by rw [HR.out]; exact ⟨none, Owns.nil _ _ _, fun g e => (by cases e), HX1.out⟩⟩
  | true =>
    have HOK := Lib.hid hok
    have HX1 := Lib.hid hx1
    clear hok hx1
    go_wp2_with fail
    go_loopw [6, 8, 9, 14] (fun ov _ _ iv wr => ∃ (i : Nat) (acc : List Nat), iv = .int .i64 i ∧ i ≤ l.length ∧ unp l [] = unp (l.drop i) acc ∧ (acc.length = 0 ∨ (acc.length : Int) ≤ n) ∧ acc.length ≤ 300 * i ∧ BO w acc ov wr) (fun _ _ _ iv _ => l.length - (intOf iv).toNat)
    case atStart => exact ⟨0, [], rfl, Nat.zero_le _, rfl, Or.inl rfl, by simp, none, Owns.nil _ _ _, fun g e => (by cases e), HX1.out⟩
    case round =>
      obtain ⟨i, acc, rfl, hil, hu, han, hal, hbo⟩ := hrel
      by_cases hlt : i < l.length
      · have hlti : (i : Int) < (l.length : Int) := by omega
        obtain ⟨b, o, rfl, hc⟩ := HV.out.cells (by omega)
        obtain ⟨s, hsk⟩ : ∃ s, l[i]? = some s := ⟨_, List.getElem?_eq_getElem hlt⟩
        have hc0 := cell_touch hbo.choose_spec.2.2 (hc i s hsk).1 (fun f => f)
        have hc1 := cell_touch hbo.choose_spec.2.2 (hc i s hsk).2 (fun f => f)
        have hs256 := H256.out s (List.mem_of_getElem? hsk)
        have hsok : okSign s = true := List.all_eq_true.1 HOK.out s (List.mem_of_getElem? hsk)
        have hdrop : l.drop i = s :: l.drop (i + 1) := by
          obtain ⟨hi', rfl⟩ := List.getElem?_eq_some_iff.1 hsk
          exact List.drop_eq_getElem_cons hi'
        rw [hdrop] at hu
        obtain ⟨c, x⟩ := s
        simp only at hc0 hc1 hs256
        have hc18 : c ≤ 18 := by simp [okSign] at hsok; exact hsok.1
        have hu2 : c ≠ 16 → unp l [] = unp (l.drop (i + 1)) (acc ++ List.replicate (timesOf (c, x)) (if c < 16 then c else 0)) := fun h => by rw [hu, unp_lit h]
        have hu3 : ∀ k, c = 16 → acc.getLast? = some k → unp l [] = unp (l.drop (i + 1)) (acc ++ List.replicate (timesOf (c, x)) k) := fun k h hk => by rw [hu, unp_rep h hk]
        have HU := Lib.hid hu
        have HUA := Lib.hid hu2
        have HUB := Lib.hid hu3
        obtain ⟨oa, ocap, rfl⟩ := hbo.choose_spec.1.shape
        have HBO := Lib.hid hbo
        clear hu hu2 hu3 hsok hdrop hsk hc hbo
        by_cases h16 : c = 16
        · subst h16
          cases hacc : acc.getLast? with
          | none =>
            have hnil : acc = [] := by simpa using hacc
            subst hnil
            have hbad : unpR l n = ([], 2) := unpR_none HOK.out (by rw [HU.out, unp_bad rfl])
            have HBAD := Lib.hid hbad
            clear hbad hacc
            go_wp2_with fail
            go_ret2
            exact ⟨.slice none 0 0, by rw [HBAD.out]; rfl, by rw [HBAD.out]; exact ⟨none, Owns.nil _ _ _, fun g e => (by cases e), HBO.out.choose_spec.2.2.alloc _⟩⟩
          | some k =>
            have hne0 : 0 < acc.length := by
              cases acc with
              | nil => simp at hacc
              | cons _ _ => simp
            have hlast : acc[acc.length - 1]? = some k := by rw [← List.getLast?_eq_getElem?]; exact hacc
            obtain ⟨ga, rfl, hcell⟩ : ∃ ga, oa = some ⟨ga, 0, none⟩ ∧ wr.cell? ⟨ga, acc.length - 1, none⟩ = some (.int .u8 k) := by
              obtain ⟨og, h1, _, _⟩ := HBO.out
              rcases h1.form with ⟨_, _, h0, _⟩ | ⟨g, cap2, cur, rfl, e, _⟩
              · omega
              · injection e with e1 _ _
                exact ⟨g, e1, h1.cell _ _ (by simp [u8s, hlast])⟩
            have hu9 := HUB.out k rfl hacc
            have hcell2 : (wr.alloc (.cells #[.int .u8 16, .int .u8 x] 141)).cell? ⟨ga, acc.length - 1, none⟩ = some (.int .u8 k) := cell_alloc _ hcell
            have k5 : ((acc.length : Int) - 1).toNat = acc.length - 1 := by omega
            have k6 : (0 : Int) ≤ (acc.length : Int) - 1 := by omega
            have k7 : ¬ (acc.length : Int) = 0 := by omega
            have k8 : ((acc.length : Int) == 0) = false := by rw [beq_eq_false_iff_ne]; omega
            have k9 : wrap64 ((acc.length : Int) - 1) = (acc.length : Int) - 1 := by rw [wrap64]; omega
            have HU2 := Lib.hid hu9
            clear hu9 hacc hlast hcell
            have hbx : (wr.alloc (.cells #[.int .u8 16, .int .u8 x] 141)).cell? ⟨wr.heap.size, 0, none⟩ = some (.int .u8 16) ∧ (wr.alloc (.cells #[.int .u8 16, .int .u8 x] 141)).cell? ⟨wr.heap.size, 1, none⟩ = some (.int .u8 x) := ⟨by rw [World.cell?, heap_alloc_new]; rfl, by rw [World.cell?, heap_alloc_new]; rfl⟩
            have HBO1 := Lib.hid (HBO.out.ext ((Ext.refl wr).alloc (.cells #[.int .u8 16, .int .u8 x] 141)))
            obtain ⟨t, ht⟩ : ∃ t, t = timesOf (16, x) := ⟨_, rfl⟩
            have htb : 0 < t ∧ t ≤ 300 := by rw [ht]; unfold timesOf; simp only; (repeat' split) <;> omega
            have HTM := Lib.hid ht
            clear ht
            go_wp2_with fail
            refine (rep_times 16 x _ (by omega) hs256.2).mono ?_
            rw [← HTM.out]
            rintro e w2 ⟨rfl, hx2⟩
            have hb0 := cell_touch hx2 hbx.1 (fun f => f)
            have hb1 := cell_touch hx2 hbx.2 (fun f => f)
            have HBO2 := Lib.hid (HBO1.out.ext hx2)
            clear hx2 hbx
            have k2 : wrap64 (n - (acc.length : Int)) = n - (acc.length : Int) := by rw [wrap64]; omega
            by_cases hgt : n - (acc.length : Int) < (t : Int)
            · have hlong : unpR l n = ([], 2) := unpR_long HOK.out (HU.out) (by rw [← HTM.out]; omega)
              have HL := Lib.hid hlong
              clear hlong
              go_wp2_with fail
              go_ret2
              exact ⟨.slice none 0 0, by rw [HL.out]; rfl, by rw [HL.out]; exact ⟨none, Owns.nil _ _ _, fun g e => (by cases e), HBO2.out.choose_spec.2.2⟩⟩
            · have hgt2 : ¬ n - (acc.length : Int) < (t : Int) := hgt
              have hs0 : (w2.alloc (.cells #[.int .u8 k] 5)).cell? ⟨wr.heap.size, 0, none⟩ = some (.int .u8 16) := cell_alloc _ hb0
              have hs1 : (w2.alloc (.cells #[.int .u8 k] 5)).cell? ⟨wr.heap.size, 1, none⟩ = some (.int .u8 x) := cell_alloc _ hb1
              go_wp2_with fail
              refine (rep_times 16 x _ (by omega) hs256.2).mono ?_
              rw [← HTM.out]
              rintro e w3 ⟨rfl, hx3⟩
              have hg3 : w3.heap[w2.heap.size]? = some (.cells #[.int .u8 (k : Nat)] 5 (0, 0)) := hx3.keep (heap_alloc_new w2 (.cells #[.int .u8 k] 5)) (fun f => f)
              have HBO3 := Lib.hid ((HBO2.out.ext ((Ext.refl w2).alloc _)).ext hx3)
              have HG3 := Lib.hid hg3
              clear hx3 hg3 hs0 hs1 hb0 hb1
              go_wp2_with fail
              refine (rep_repeat w2.heap.size k t _ HG3.out htb.1 (by omega)).mono ?_
              rintro e w4 ⟨rv, ro, rfl, q1, q2, q3⟩
              have hq1 : ViewL w4 rv (u8s (List.replicate t k)) := q1.viewL
              have HQ1 := Lib.hid hq1
              have HBO4 := Lib.hid (HBO3.out.ext q3)
              clear q1 q2 q3 hq1
              go_wp2_with (at_builtin; go_must (refine wpList_append_view _ rfl (.tmp 47) (.tmp 52) 22 rfl 0 5 i0 (.int .u8 0) 1 Tryz.underlying22 hi hz0 hz1 hz2 rfl _ acc.length (u8s acc) rfl HBO4.out.choose_spec.1.1 rv (u8s (List.replicate t k)) rfl HQ1.out (u8s_one _) (by rw [length_u8s, List.length_replicate]; unfold maxLen; omega) (by rw [length_u8s, List.length_replicate]; omega) (Nat.zero_le _) ?_))
              intro v' w5 hown' hgrow hat
              rw [length_u8s, List.length_replicate] at hown'
              have HF := Lib.hid (bo_app HBO4.out (List.length_replicate ..) hown' hgrow hat)
              clear hown' hgrow hat
              go_wp2_with fail
              go_roundw
              case rel => exact ⟨i + 1, acc ++ List.replicate t k, by go_num, by omega, (by rw [HTM.out]; exact HU2.out), Or.inr (by rw [List.length_append, List.length_replicate]; omega), by rw [List.length_append, List.length_replicate]; omega, HF.out⟩
              case measure => simp [intOf]; omega
        · by_cases h17 : 16 < c
          · have hci : (16 : Int) < (c : Int) := by omega
            have hcn : ¬ (c : Int) = 16 := by omega
            have hce : ((c : Int) == 16) = false := by rw [beq_eq_false_iff_ne]; omega
            have hu9 := HUA.out h16
            rw [if_neg (by omega)] at hu9
            have HU2 := Lib.hid hu9
            clear hu9
            have hbx : (wr.alloc (.cells #[.int .u8 c, .int .u8 x] 141)).cell? ⟨wr.heap.size, 0, none⟩ = some (.int .u8 c) ∧ (wr.alloc (.cells #[.int .u8 c, .int .u8 x] 141)).cell? ⟨wr.heap.size, 1, none⟩ = some (.int .u8 x) := ⟨by rw [World.cell?, heap_alloc_new]; rfl, by rw [World.cell?, heap_alloc_new]; rfl⟩
            have HBO1 := Lib.hid (HBO.out.ext ((Ext.refl wr).alloc (.cells #[.int .u8 c, .int .u8 x] 141)))
            obtain ⟨t, ht⟩ : ∃ t, t = timesOf (c, x) := ⟨_, rfl⟩
            have htb : 0 < t ∧ t ≤ 300 := by rw [ht]; unfold timesOf; simp only; (repeat' split) <;> omega
            have HTM := Lib.hid ht
            clear ht
            go_wp2_with fail
            refine (rep_times c x _ hs256.1 hs256.2).mono ?_
            rw [← HTM.out]
            rintro e w2 ⟨rfl, hx2⟩
            have hb0 := cell_touch hx2 hbx.1 (fun f => f)
            have hb1 := cell_touch hx2 hbx.2 (fun f => f)
            have HBO2 := Lib.hid (HBO1.out.ext hx2)
            clear hx2 hbx
            have k2 : wrap64 (n - (acc.length : Int)) = n - (acc.length : Int) := by rw [wrap64]; omega
            by_cases hgt : n - (acc.length : Int) < (t : Int)
            · have hlong : unpR l n = ([], 2) := unpR_long HOK.out (HU.out) (by rw [← HTM.out]; omega)
              have HL := Lib.hid hlong
              clear hlong
              go_wp2_with fail
              go_ret2
              exact ⟨.slice none 0 0, by rw [HL.out]; rfl, by rw [HL.out]; exact ⟨none, Owns.nil _ _ _, fun g e => (by cases e), HBO2.out.choose_spec.2.2⟩⟩
            · have hgt2 : ¬ n - (acc.length : Int) < (t : Int) := hgt
              have hs0 : (w2.alloc (.cells #[.int .u8 0] 5)).cell? ⟨wr.heap.size, 0, none⟩ = some (.int .u8 c) := cell_alloc _ hb0
              have hs1 : (w2.alloc (.cells #[.int .u8 0] 5)).cell? ⟨wr.heap.size, 1, none⟩ = some (.int .u8 x) := cell_alloc _ hb1
              go_wp2_with fail
              refine (rep_times c x _ hs256.1 hs256.2).mono ?_
              rw [← HTM.out]
              rintro e w3 ⟨rfl, hx3⟩
              have hg3 : w3.heap[w2.heap.size]? = some (.cells #[.int .u8 (0 : Nat)] 5 (0, 0)) := hx3.keep (heap_alloc_new w2 (.cells #[.int .u8 0] 5)) (fun f => f)
              have HBO3 := Lib.hid ((HBO2.out.ext ((Ext.refl w2).alloc _)).ext hx3)
              have HG3 := Lib.hid hg3
              clear hx3 hg3 hs0 hs1 hb0 hb1
              go_wp2_with fail
              refine (rep_repeat w2.heap.size 0 t _ HG3.out htb.1 (by omega)).mono ?_
              rintro e w4 ⟨rv, ro, rfl, q1, q2, q3⟩
              have hq1 : ViewL w4 rv (u8s (List.replicate t 0)) := q1.viewL
              have HQ1 := Lib.hid hq1
              have HBO4 := Lib.hid (HBO3.out.ext q3)
              clear q1 q2 q3 hq1
              go_wp2_with (at_builtin; go_must (refine wpList_append_view _ rfl (.tmp 47) (.tmp 52) 22 rfl 0 5 i0 (.int .u8 0) 1 Tryz.underlying22 hi hz0 hz1 hz2 rfl _ acc.length (u8s acc) rfl HBO4.out.choose_spec.1.1 rv (u8s (List.replicate t 0)) rfl HQ1.out (u8s_one _) (by rw [length_u8s, List.length_replicate]; unfold maxLen; omega) (by rw [length_u8s, List.length_replicate]; omega) (Nat.zero_le _) ?_))
              intro v' w5 hown' hgrow hat
              rw [length_u8s, List.length_replicate] at hown'
              have HF := Lib.hid (bo_app HBO4.out (List.length_replicate ..) hown' hgrow hat)
              clear hown' hgrow hat
              go_wp2_with fail
              go_roundw
              case rel => exact ⟨i + 1, acc ++ List.replicate t 0, by go_num, by omega, (by rw [HTM.out]; exact HU2.out), Or.inr (by rw [List.length_append, List.length_replicate]; omega), by rw [List.length_append, List.length_replicate]; omega, HF.out⟩
              case measure => simp [intOf]; omega
          · have hci : ¬ (16 : Int) < (c : Int) := by omega
            have hcn : ¬ (c : Int) = 16 := by omega
            have hce : ((c : Int) == 16) = false := by rw [beq_eq_false_iff_ne]; omega
            have hu9 := HUA.out h16
            rw [if_pos (by omega)] at hu9
            have HU2 := Lib.hid hu9
            clear hu9
            have hbx : (wr.alloc (.cells #[.int .u8 c, .int .u8 x] 141)).cell? ⟨wr.heap.size, 0, none⟩ = some (.int .u8 c) ∧ (wr.alloc (.cells #[.int .u8 c, .int .u8 x] 141)).cell? ⟨wr.heap.size, 1, none⟩ = some (.int .u8 x) := ⟨by rw [World.cell?, heap_alloc_new]; rfl, by rw [World.cell?, heap_alloc_new]; rfl⟩
            have HBO1 := Lib.hid (HBO.out.ext ((Ext.refl wr).alloc (.cells #[.int .u8 c, .int .u8 x] 141)))
            obtain ⟨t, ht⟩ : ∃ t, t = timesOf (c, x) := ⟨_, rfl⟩
            have htb : 0 < t ∧ t ≤ 300 := by rw [ht]; unfold timesOf; simp only; (repeat' split) <;> omega
            have HTM := Lib.hid ht
            clear ht
            go_wp2_with fail
            refine (rep_times c x _ hs256.1 hs256.2).mono ?_
            rw [← HTM.out]
            rintro e w2 ⟨rfl, hx2⟩
            have hb0 := cell_touch hx2 hbx.1 (fun f => f)
            have hb1 := cell_touch hx2 hbx.2 (fun f => f)
            have HBO2 := Lib.hid (HBO1.out.ext hx2)
            clear hx2 hbx
            have k2 : wrap64 (n - (acc.length : Int)) = n - (acc.length : Int) := by rw [wrap64]; omega
            by_cases hgt : n - (acc.length : Int) < (t : Int)
            · have hlong : unpR l n = ([], 2) := unpR_long HOK.out (HU.out) (by rw [← HTM.out]; omega)
              have HL := Lib.hid hlong
              clear hlong
              go_wp2_with fail
              go_ret2
              exact ⟨.slice none 0 0, by rw [HL.out]; rfl, by rw [HL.out]; exact ⟨none, Owns.nil _ _ _, fun g e => (by cases e), HBO2.out.choose_spec.2.2⟩⟩
            · have hgt2 : ¬ n - (acc.length : Int) < (t : Int) := hgt
              have hs0 : (w2.alloc (.cells #[.int .u8 c] 5)).cell? ⟨wr.heap.size, 0, none⟩ = some (.int .u8 c) := cell_alloc _ hb0
              have hs1 : (w2.alloc (.cells #[.int .u8 c] 5)).cell? ⟨wr.heap.size, 1, none⟩ = some (.int .u8 x) := cell_alloc _ hb1
              go_wp2_with fail
              refine (rep_times c x _ hs256.1 hs256.2).mono ?_
              rw [← HTM.out]
              rintro e w3 ⟨rfl, hx3⟩
              have hg3 : w3.heap[w2.heap.size]? = some (.cells #[.int .u8 (c : Nat)] 5 (0, 0)) := hx3.keep (heap_alloc_new w2 (.cells #[.int .u8 c] 5)) (fun f => f)
              have HBO3 := Lib.hid ((HBO2.out.ext ((Ext.refl w2).alloc _)).ext hx3)
              have HG3 := Lib.hid hg3
              clear hx3 hg3 hs0 hs1 hb0 hb1
              go_wp2_with fail
              refine (rep_repeat w2.heap.size c t _ HG3.out htb.1 (by omega)).mono ?_
              rintro e w4 ⟨rv, ro, rfl, q1, q2, q3⟩
              have hq1 : ViewL w4 rv (u8s (List.replicate t c)) := q1.viewL
              have HQ1 := Lib.hid hq1
              have HBO4 := Lib.hid (HBO3.out.ext q3)
              clear q1 q2 q3 hq1
              go_wp2_with (at_builtin; go_must (refine wpList_append_view _ rfl (.tmp 47) (.tmp 52) 22 rfl 0 5 i0 (.int .u8 0) 1 Tryz.underlying22 hi hz0 hz1 hz2 rfl _ acc.length (u8s acc) rfl HBO4.out.choose_spec.1.1 rv (u8s (List.replicate t c)) rfl HQ1.out (u8s_one _) (by rw [length_u8s, List.length_replicate]; unfold maxLen; omega) (by rw [length_u8s, List.length_replicate]; omega) (Nat.zero_le _) ?_))
              intro v' w5 hown' hgrow hat
              rw [length_u8s, List.length_replicate] at hown'
              have HF := Lib.hid (bo_app HBO4.out (List.length_replicate ..) hown' hgrow hat)
              clear hown' hgrow hat
              go_wp2_with fail
              go_roundw
              case rel => exact ⟨i + 1, acc ++ List.replicate t c, by go_num, by omega, (by rw [HTM.out]; exact HU2.out), Or.inr (by rw [List.length_append, List.length_replicate]; omega), by rw [List.length_append, List.length_replicate]; omega, HF.out⟩
              case measure => simp [intOf]; omega
      · obtain rfl : i = l.length := by omega
        rw [List.drop_length] at hu
        have hr : unpR l n = if (acc.length : Int) = n then (acc, 0) else ([], 2) := by rw [unpR, if_pos HOK.out, hu]; rfl
        have HR := Lib.hid hr
        obtain ⟨oa, ocap, rfl⟩ := hbo.choose_spec.1.shape
        have HBO := Lib.hid hbo
        clear hr hu hbo
        by_cases he : (acc.length : Int) = n
        · have he2 : ((acc.length : Int) != n) = false := by rw [he]; simp
          rw [if_pos he] at HR
          go_wp2_with fail
          go_ret2
          exact ⟨_, by rw [HR.out]; rfl, by rw [HR.out]; exact HBO.out⟩
        · have he2 : ((acc.length : Int) != n) = true := by rw [bne_iff_ne]; exact he
          rw [if_neg he] at HR
          go_wp2_with fail
          go_ret2
          exact ⟨.slice none 0 0, by rw [HR.out]; rfl, by rw [HR.out]; exact ⟨none, Owns.nil _ _ _, fun g e => (by cases e), HBO.out.choose_spec.2.2⟩⟩
end Go.Proofs.YtbbcphloafmldaaGreat
-- pruned by prune.py for gunzipz
