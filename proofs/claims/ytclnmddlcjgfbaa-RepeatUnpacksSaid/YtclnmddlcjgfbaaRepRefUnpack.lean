/- pressworkref07.Unpack: its walk. -/
import Derived.Test.YtclnmddlcjgfbaaRepLawBack
namespace Go.Proofs.Ytclnmddlcjgfbaa
open Go.RowKit
set_option linter.unusedVariables false

theorem unpR_over {l : List (Nat × Nat)} {n : Int} (hok : l.all okSign = true) {r : List (Nat × Nat)} {acc : List Nat} (h : unp l [] = unp r acc) (hn : n < (acc.length : Int)) : unpR l n = ([], 2) := by
  rw [unpR, if_pos hok, h]
  cases hu : unp r acc with
  | none => rfl
  | some m =>
    have := unp_len _ _ _ hu
    simp only
    rw [if_neg (by omega)]
set_option maxHeartbeats 4000000 in
set_option maxRecDepth 100000 in
theorem rep_ref_unpack (sv : Value) (l : List (Nat × Nat)) (n : Int) (w : World) (hv : ViewS w sv l) (h256 : ∀ s ∈ l, s.1 < 256 ∧ s.2 < 256) (hlen : l.length ≤ 100000) (hn1 : -9223372036854775808 ≤ n) (hn2 : n ≤ 9223372036854775807) :
    Calls Try.prog 14 #[sv, .int .i64 n] w fun e w' => ∃ v, e = .returned (.tuple #[v, .int .i64 (unpR l n).2]) ∧ BO w (unpR l n).1 v w' := by
  obtain ⟨i0, hi, hz0, hz1, hz2⟩ := info_parts info_u8
  obtain ⟨ao, cap, rfl⟩ := hv.shape
  have HV := Lib.hid hv
  have H256 := Lib.hid h256
  clear hv h256
  go_enter Try.func14, Try.ntmps14
  go_wp2_with fail
  go_loopw [6, 7, 8] (fun i _ _ wr => ∃ k : Nat, i = .int .i64 k ∧ k ≤ l.length ∧ (∀ j s, j < k → l[j]? = some s → okSign s = true) ∧ wr = w) (fun i _ _ _ => l.length - (intOf i).toNat)
  case atStart => exact ⟨0, rfl, Nat.zero_le _, fun j x hj => absurd hj (Nat.not_lt_zero _), rfl⟩
  case round =>
    obtain ⟨k, rfl, hk, hall, hwr⟩ := hrel
    obtain rfl : w = wr := hwr.symm
    have HALL := Lib.hid hall
    clear hall
    by_cases hlt : k < l.length
    · have hlti : (k : Int) < (l.length : Int) := by omega
      obtain ⟨b, o, rfl, hc⟩ := HV.out.cells (by omega)
      obtain ⟨s, hsk⟩ : ∃ s, l[k]? = some s := ⟨_, List.getElem?_eq_getElem hlt⟩
      have hc0 := (hc k s hsk).1
      have hc1 := (hc k s hsk).2
      have hs256 := H256.out s (List.mem_of_getElem? hsk)
      obtain ⟨c, x⟩ := s
      simp only at hc0 hc1 hs256
      have HSK := Lib.hid hsk
      clear hc hsk
      by_cases h18 : 18 < c
      · have i1 : (18 : Int) < (c : Int) := by omega
        have hno : l.all okSign = false := by
          cases ho : l.all okSign with
          | false => rfl
          | true =>
            have h1 := List.all_eq_true.1 ho _ (List.mem_of_getElem? HSK.out)
            simp [okSign, bitsOfCode] at h1
            omega
        have HNO := Lib.hid (show unpR l n = ([], 5) by rw [unpR, hno]; rfl)
        clear hno
        go_wp2_with fail
        go_ret2
        exact ⟨.slice none 0 0, by rw [HNO.out]; rfl, by rw [HNO.out]; exact ⟨none, Owns.nil _ _ _, fun g e => (by cases e), Ext.refl _⟩⟩
      · have i1 : ¬ (18 : Int) < (c : Int) := by omega
        by_cases h16 : c < 16
        · have i2 : (c : Int) < 16 := by omega
          have i3 : ¬ (c : Int) = 16 := by omega
          have i4 : ¬ (c : Int) = 17 := by omega
          by_cases hx : 0 < x
          · have i5 : (0 : Int) < (x : Int) := by omega
            have hno : l.all okSign = false := by
              cases ho : l.all okSign with
              | false => rfl
              | true =>
                have h1 := List.all_eq_true.1 ho _ (List.mem_of_getElem? HSK.out)
                simp [okSign, bitsOfCode, show ¬ c = 16 by omega, show ¬ c = 17 by omega, show ¬ c = 18 by omega] at h1
                omega
            have HNO := Lib.hid (show unpR l n = ([], 5) by rw [unpR, hno]; rfl)
            clear hno
            go_wp2_with fail
            go_ret2
            exact ⟨.slice none 0 0, by rw [HNO.out]; rfl, by rw [HNO.out]; exact ⟨none, Owns.nil _ _ _, fun g e => (by cases e), Ext.refl _⟩⟩
          · obtain rfl : x = 0 := by omega
            have hf : ∀ j y, j < k + 1 → l[j]? = some y → okSign y = true := fun j y hj hy => by
              by_cases h : j < k
              · exact HALL.out j y h hy
              · rw [show j = k by omega, HSK.out] at hy
                cases hy
                simp [okSign, bitsOfCode, show ¬ c = 16 by omega, show ¬ c = 17 by omega, show ¬ c = 18 by omega]
                omega
            have HF := Lib.hid hf
            clear hf
            go_wp2_with fail
            go_roundw
            case rel => exact ⟨k + 1, by go_num, by omega, HF.out, trivial⟩
            case measure => simp [intOf]; omega
        · have i2 : ¬ (c : Int) < 16 := by omega
          by_cases e16 : c = 16
          · subst e16
            by_cases hx : 3 < x
            · have i5 : (3 : Int) < (x : Int) := by omega
              have hno : l.all okSign = false := by
                cases ho : l.all okSign with
                | false => rfl
                | true =>
                  have h1 := List.all_eq_true.1 ho _ (List.mem_of_getElem? HSK.out)
                  simp [okSign, bitsOfCode] at h1
                  omega
              have HNO := Lib.hid (show unpR l n = ([], 5) by rw [unpR, hno]; rfl)
              clear hno
              go_wp2_with fail
              go_ret2
              exact ⟨.slice none 0 0, by rw [HNO.out]; rfl, by rw [HNO.out]; exact ⟨none, Owns.nil _ _ _, fun g e => (by cases e), Ext.refl _⟩⟩
            · have i5 : ¬ (3 : Int) < (x : Int) := by omega
              have i6 : ¬ (127 : Int) < (x : Int) := by omega
              have hf : ∀ j y, j < k + 1 → l[j]? = some y → okSign y = true := fun j y hj hy => by
                by_cases h : j < k
                · exact HALL.out j y h hy
                · rw [show j = k by omega, HSK.out] at hy
                  cases hy
                  simp [okSign, bitsOfCode]
                  omega
              have HF := Lib.hid hf
              clear hf
              go_wp2_with fail
              go_roundw
              case rel => exact ⟨k + 1, by go_num, by omega, HF.out, trivial⟩
              case measure => simp [intOf]; omega
          · by_cases e17 : c = 17
            · subst e17
              by_cases hx : 7 < x
              · have i5 : (7 : Int) < (x : Int) := by omega
                have hno : l.all okSign = false := by
                  cases ho : l.all okSign with
                  | false => rfl
                  | true =>
                    have h1 := List.all_eq_true.1 ho _ (List.mem_of_getElem? HSK.out)
                    simp [okSign, bitsOfCode] at h1
                    omega
                have HNO := Lib.hid (show unpR l n = ([], 5) by rw [unpR, hno]; rfl)
                clear hno
                go_wp2_with fail
                go_ret2
                exact ⟨.slice none 0 0, by rw [HNO.out]; rfl, by rw [HNO.out]; exact ⟨none, Owns.nil _ _ _, fun g e => (by cases e), Ext.refl _⟩⟩
              · have i5 : ¬ (7 : Int) < (x : Int) := by omega
                have i6 : ¬ (127 : Int) < (x : Int) := by omega
                have hf : ∀ j y, j < k + 1 → l[j]? = some y → okSign y = true := fun j y hj hy => by
                  by_cases h : j < k
                  · exact HALL.out j y h hy
                  · rw [show j = k by omega, HSK.out] at hy
                    cases hy
                    simp [okSign, bitsOfCode]
                    omega
                have HF := Lib.hid hf
                clear hf
                go_wp2_with fail
                go_roundw
                case rel => exact ⟨k + 1, by go_num, by omega, HF.out, trivial⟩
                case measure => simp [intOf]; omega
            · obtain rfl : c = 18 := by omega
              by_cases hx : 127 < x
              · have i5 : (127 : Int) < (x : Int) := by omega
                have hno : l.all okSign = false := by
                  cases ho : l.all okSign with
                  | false => rfl
                  | true =>
                    have h1 := List.all_eq_true.1 ho _ (List.mem_of_getElem? HSK.out)
                    simp [okSign, bitsOfCode] at h1
                    omega
                have HNO := Lib.hid (show unpR l n = ([], 5) by rw [unpR, hno]; rfl)
                clear hno
                go_wp2_with fail
                go_ret2
                exact ⟨.slice none 0 0, by rw [HNO.out]; rfl, by rw [HNO.out]; exact ⟨none, Owns.nil _ _ _, fun g e => (by cases e), Ext.refl _⟩⟩
              · have i5 : ¬ (127 : Int) < (x : Int) := by omega
                have hf : ∀ j y, j < k + 1 → l[j]? = some y → okSign y = true := fun j y hj hy => by
                  by_cases h : j < k
                  · exact HALL.out j y h hy
                  · rw [show j = k by omega, HSK.out] at hy
                    cases hy
                    simp [okSign, bitsOfCode]
                    omega
                have HF := Lib.hid hf
                clear hf
                go_wp2_with fail
                go_roundw
                case rel => exact ⟨k + 1, by go_num, by omega, HF.out, trivial⟩
                case measure => simp [intOf]; omega
    · obtain rfl : k = l.length := by omega
      have hok : l.all okSign = true := by
        rw [List.all_eq_true]
        intro x hx
        obtain ⟨j, hj, rfl⟩ := List.getElem_of_mem hx
        exact HALL.out j _ hj (List.getElem?_eq_getElem hj)
      have HOK := Lib.hid hok
      clear hok
      go_wp2_with fail
      go_loopw [9, 10, 11, 12, 13] (fun ov iv _ _ _ wr => ∃ (i : Nat) (acc : List Nat), iv = .int .i64 i ∧ i ≤ l.length ∧ unp l [] = unp (l.drop i) acc ∧ acc.length ≤ 300 * i ∧ BO w acc ov wr) (fun _ iv _ _ _ _ => l.length - (intOf iv).toNat)
      case atStart => exact ⟨0, [], rfl, Nat.zero_le _, rfl, by simp, none, Owns.nil _ _ _, fun g e => (by cases e), Ext.refl _⟩
      case round =>
        obtain ⟨i, acc, rfl, hil, hu, hal, hbo⟩ := hrel
        obtain ⟨oa, ocap, rfl⟩ := hbo.choose_spec.1.shape
        by_cases hlt : i < l.length
        · have hlti : (i : Int) < (l.length : Int) := by omega
          by_cases hle : (acc.length : Int) ≤ n
          · obtain ⟨b, o, rfl, hc⟩ := HV.out.cells (by omega)
            obtain ⟨s, hsk⟩ : ∃ s, l[i]? = some s := ⟨_, List.getElem?_eq_getElem hlt⟩
            have hc0 := cell_touch hbo.choose_spec.2.2 (hc i s hsk).1 (fun f => f)
            have hc1 := cell_touch hbo.choose_spec.2.2 (hc i s hsk).2 (fun f => f)
            have hs256 := H256.out s (List.mem_of_getElem? hsk)
            have hsok : okSign s = true := List.all_eq_true.1 HOK.out s (List.mem_of_getElem? hsk)
            have hdrop : l.drop i = s :: l.drop (i + 1) := by
              obtain ⟨hi', rfl⟩ := List.getElem?_eq_some_iff.1 hsk
              exact List.drop_eq_getElem_cons hi'
            rw [hdrop] at hu
            obtain ⟨c, x⟩ := s
            simp only at hc0 hc1 hs256
            have hc18 : c ≤ 18 := by simp [okSign] at hsok; exact hsok.1
            have HBO := Lib.hid hbo
            have HU := Lib.hid hu
            clear hsok hdrop hsk hc hbo hu
            by_cases h16 : c = 16
            · subst h16
              obtain ⟨t, ht⟩ : ∃ t, t = 3 + x := ⟨_, rfl⟩
              have htx : (3 : Int) + (x : Int) = (t : Int) := by omega
              have htb : t ≤ 260 := by omega
              have hti : timesOf (16, x) = t := by rw [ht]; rfl
              have HTI := Lib.hid hti
              clear ht hti
              cases hacc : acc.getLast? with
              | none =>
                have hnil : acc = [] := by simpa using hacc
                subst hnil
                have hbad : unpR l n = ([], 2) := unpR_none HOK.out (by rw [HU.out, unp_bad rfl])
                have HBAD := Lib.hid hbad
                clear hbad hacc
                go_wp2_with fail
                go_ret2
                exact ⟨.slice none 0 0, by rw [HBAD.out]; rfl, by rw [HBAD.out]; exact ⟨none, Owns.nil _ _ _, fun g e => (by cases e), HBO.out.choose_spec.2.2⟩⟩
              | some k =>
                have hne0 : 0 < acc.length := by
                  cases acc with
                  | nil => simp at hacc
                  | cons _ _ => simp
                have hlast : acc[acc.length - 1]? = some k := by rw [← List.getLast?_eq_getElem?]; exact hacc
                obtain ⟨ga, rfl, hcell⟩ : ∃ ga, oa = some ⟨ga, 0, none⟩ ∧ wr.cell? ⟨ga, acc.length - 1, none⟩ = some (.int .u8 k) := by
                  obtain ⟨og, h1, _, _⟩ := HBO.out
                  rcases h1.form with ⟨_, _, h0, _⟩ | ⟨g, cap2, cur, rfl, e, _⟩
                  · omega
                  · injection e with e1 _ _
                    exact ⟨g, e1, h1.cell _ _ (by simp [u8s, hlast])⟩
                have hu9 : unp l [] = unp (l.drop (i + 1)) (acc ++ List.replicate t k) := by rw [HU.out, unp_rep rfl hacc, HTI.out]
                have HU2 := Lib.hid hu9
                have k5 : ((acc.length : Int) - 1).toNat = acc.length - 1 := by omega
                have k6 : (0 : Int) ≤ (acc.length : Int) - 1 := by omega
                have k7 : ¬ (acc.length : Int) = 0 := by omega
                have k8 : ((acc.length : Int) == 0) = false := by rw [beq_eq_false_iff_ne]; omega
                have k9 : wrap64 ((acc.length : Int) - 1) = (acc.length : Int) - 1 := by rw [wrap64]; omega
                clear hu9 hacc hlast
                go_wp2_with fail
                clear k5 k6 k7 k8 k9 hcell
                go_loopw [9, 13] (fun o2 jv w2 => ∃ d : Nat, d ≤ t ∧ jv = .int .i64 d ∧ BO w (acc ++ List.replicate d k) o2 w2) (fun _ jv _ => t - (intOf jv).toNat)
                case atStart => exact ⟨0, Nat.zero_le _, rfl, by simpa using HBO.out⟩
                case round =>
                  obtain ⟨d, hd, rfl, hbo2⟩ := hrel
                  have HB2 := Lib.hid hbo2
                  clear hbo2
                  by_cases hdm : d < t
                  · have hdi : (d : Int) < (t : Int) := by omega
                    obtain ⟨ac2, hac2⟩ : ∃ ac2, ac2 = acc ++ List.replicate d k := ⟨_, rfl⟩
                    have hl2 : ac2.length ≤ 40000000 := by rw [hac2, List.length_append, List.length_replicate]; omega
                    rw [← hac2] at HB2
                    have HAC := Lib.hid hac2
                    clear hac2
                    go_wp2_with (at_builtin; go_must (refine wpList_append_own_at _ rfl (.tmp 119) (.tmp 121) 22 rfl 0 5 i0 (.int .u8 0) 1 1 Try.underlying22 hi hz0 hz1 hz2 rfl (by decide) _ ac2.length (u8s ac2) rfl (HB2.out.choose_spec.1.1.alloc _) ⟨wr.heap.size, 0, none⟩ 1 1 [.int .u8 k] rfl rfl (cell_one_new _ _ _) (by simp [Value.oneCell']) (by unfold maxLen; omega) (by omega) (Nat.zero_le _) ?_))
                    intro v' w1 hown' hgrow _ hat
                    have hf := bo_snoc (y := k) HB2.out hown' hgrow hat
                    rw [HAC.out, List.append_assoc, ← List.replicate_succ'] at hf
                    have HF := Lib.hid hf
                    clear hf hown' hgrow hat
                    go_wp2_with fail
                    go_roundw
                    case rel => exact ⟨d + 1, by omega, by go_num, HF.out⟩
                    case measure => simp [intOf]; omega
                  · have hdt : d = t := by omega
                    have hdi : ¬ (d : Int) < (t : Int) := by omega
                    rw [hdt] at HB2
                    go_wp2_with fail
                    go_roundw
                    case rel => exact ⟨i + 1, _, by go_num, by omega, HU2.out, by rw [List.length_append, List.length_replicate]; omega, HB2.out⟩
                    case measure => simp [intOf]; omega
            · have i3 : ¬ (c : Int) = 16 := by omega
              have i3b : ((c : Int) == 16) = false := by rw [beq_eq_false_iff_ne]; exact i3
              by_cases h17 : c = 17
              · subst h17
                obtain ⟨t, ht⟩ : ∃ t, t = 3 + x := ⟨_, rfl⟩
                have htx : (3 : Int) + (x : Int) = (t : Int) := by omega
                have htb : t ≤ 260 := by omega
                have hu9 : unp l [] = unp (l.drop (i + 1)) (acc ++ List.replicate t 0) := by rw [HU.out, unp_lit (by simp), ht]; rfl
                have HU2 := Lib.hid hu9
                clear ht hu9
                go_wp2_with fail
                go_loopw [9, 13] (fun o2 jv w2 => ∃ d : Nat, d ≤ t ∧ jv = .int .i64 d ∧ BO w (acc ++ List.replicate d 0) o2 w2) (fun _ jv _ => t - (intOf jv).toNat)
                case atStart => exact ⟨0, Nat.zero_le _, rfl, by simpa using HBO.out⟩
                case round =>
                  obtain ⟨d, hd, rfl, hbo2⟩ := hrel
                  have HB2 := Lib.hid hbo2
                  clear hbo2
                  by_cases hdm : d < t
                  · have hdi : (d : Int) < (t : Int) := by omega
                    obtain ⟨ac2, hac2⟩ : ∃ ac2, ac2 = acc ++ List.replicate d 0 := ⟨_, rfl⟩
                    have hl2 : ac2.length ≤ 40000000 := by rw [hac2, List.length_append, List.length_replicate]; omega
                    rw [← hac2] at HB2
                    have HAC := Lib.hid hac2
                    clear hac2
                    go_wp2_with (at_builtin; go_must (refine wpList_append_own_at _ rfl (.tmp 119) (.tmp 121) 22 rfl 0 5 i0 (.int .u8 0) 1 1 Try.underlying22 hi hz0 hz1 hz2 rfl (by decide) _ ac2.length (u8s ac2) rfl (HB2.out.choose_spec.1.1.alloc _) ⟨wr.heap.size, 0, none⟩ 1 1 [.int .u8 0] rfl rfl (cell_one_new _ _ _) (by simp [Value.oneCell']) (by unfold maxLen; omega) (by omega) (Nat.zero_le _) ?_))
                    intro v' w1 hown' hgrow _ hat
                    have hf := bo_snoc (y := 0) HB2.out hown' hgrow hat
                    rw [HAC.out, List.append_assoc, ← List.replicate_succ'] at hf
                    have HF := Lib.hid hf
                    clear hf hown' hgrow hat
                    go_wp2_with fail
                    go_roundw
                    case rel => exact ⟨d + 1, by omega, by go_num, HF.out⟩
                    case measure => simp [intOf]; omega
                  · have hdt : d = t := by omega
                    have hdi : ¬ (d : Int) < (t : Int) := by omega
                    rw [hdt] at HB2
                    go_wp2_with fail
                    go_roundw
                    case rel => exact ⟨i + 1, _, by go_num, by omega, HU2.out, by rw [List.length_append, List.length_replicate]; omega, HB2.out⟩
                    case measure => simp [intOf]; omega
              · by_cases h18 : c = 18
                · subst h18
                  obtain ⟨t, ht⟩ : ∃ t, t = 11 + x := ⟨_, rfl⟩
                  have htx : (11 : Int) + (x : Int) = (t : Int) := by omega
                  have htb : t ≤ 270 := by omega
                  have hu9 : unp l [] = unp (l.drop (i + 1)) (acc ++ List.replicate t 0) := by rw [HU.out, unp_lit (by simp), ht]; rfl
                  have HU2 := Lib.hid hu9
                  clear ht hu9
                  go_wp2_with fail
                  go_loopw [9, 13] (fun o2 jv w2 => ∃ d : Nat, d ≤ t ∧ jv = .int .i64 d ∧ BO w (acc ++ List.replicate d 0) o2 w2) (fun _ jv _ => t - (intOf jv).toNat)
                  case atStart => exact ⟨0, Nat.zero_le _, rfl, by simpa using HBO.out⟩
                  case round =>
                    obtain ⟨d, hd, rfl, hbo2⟩ := hrel
                    have HB2 := Lib.hid hbo2
                    clear hbo2
                    by_cases hdm : d < t
                    · have hdi : (d : Int) < (t : Int) := by omega
                      obtain ⟨ac2, hac2⟩ : ∃ ac2, ac2 = acc ++ List.replicate d 0 := ⟨_, rfl⟩
                      have hl2 : ac2.length ≤ 40000000 := by rw [hac2, List.length_append, List.length_replicate]; omega
                      rw [← hac2] at HB2
                      have HAC := Lib.hid hac2
                      clear hac2
                      go_wp2_with (at_builtin; go_must (refine wpList_append_own_at _ rfl (.tmp 119) (.tmp 121) 22 rfl 0 5 i0 (.int .u8 0) 1 1 Try.underlying22 hi hz0 hz1 hz2 rfl (by decide) _ ac2.length (u8s ac2) rfl (HB2.out.choose_spec.1.1.alloc _) ⟨wr.heap.size, 0, none⟩ 1 1 [.int .u8 0] rfl rfl (cell_one_new _ _ _) (by simp [Value.oneCell']) (by unfold maxLen; omega) (by omega) (Nat.zero_le _) ?_))
                      intro v' w1 hown' hgrow _ hat
                      have hf := bo_snoc (y := 0) HB2.out hown' hgrow hat
                      rw [HAC.out, List.append_assoc, ← List.replicate_succ'] at hf
                      have HF := Lib.hid hf
                      clear hf hown' hgrow hat
                      go_wp2_with fail
                      go_roundw
                      case rel => exact ⟨d + 1, by omega, by go_num, HF.out⟩
                      case measure => simp [intOf]; omega
                    · have hdt : d = t := by omega
                      have hdi : ¬ (d : Int) < (t : Int) := by omega
                      rw [hdt] at HB2
                      go_wp2_with fail
                      go_roundw
                      case rel => exact ⟨i + 1, _, by go_num, by omega, HU2.out, by rw [List.length_append, List.length_replicate]; omega, HB2.out⟩
                      case measure => simp [intOf]; omega
                · have i4 : ¬ (c : Int) = 17 := by omega
                  have i4b : ((c : Int) == 17) = false := by rw [beq_eq_false_iff_ne]; exact i4
                  have i5 : ¬ (c : Int) = 18 := by omega
                  have i5b : ((c : Int) == 18) = false := by rw [beq_eq_false_iff_ne]; exact i5
                  obtain ⟨t, ht⟩ : ∃ t, t = 1 := ⟨_, rfl⟩
                  have hc16 : c < 16 := by omega
                  have hu9 : unp l [] = unp (l.drop (i + 1)) (acc ++ List.replicate t c) := by rw [HU.out, unp_lit h16, ht, if_pos hc16, show timesOf (c, x) = 1 by simp [timesOf, hc16]]
                  have HU2 := Lib.hid hu9
                  have htb : t ≤ 1 ∧ 1 ≤ t := by omega
                  clear ht hu9
                  go_wp2_with fail
                  go_loopw [9, 13] (fun o2 jv w2 => ∃ d : Nat, d ≤ t ∧ jv = .int .i64 d ∧ BO w (acc ++ List.replicate d c) o2 w2) (fun _ jv _ => t - (intOf jv).toNat)
                  case atStart => exact ⟨0, Nat.zero_le _, rfl, by simpa using HBO.out⟩
                  case round =>
                    obtain ⟨d, hd, rfl, hbo2⟩ := hrel
                    have HB2 := Lib.hid hbo2
                    clear hbo2
                    by_cases hdm : d < t
                    · have hdi : (d : Int) < 1 := by omega
                      obtain ⟨ac2, hac2⟩ : ∃ ac2, ac2 = acc ++ List.replicate d c := ⟨_, rfl⟩
                      have hl2 : ac2.length ≤ 40000000 := by rw [hac2, List.length_append, List.length_replicate]; omega
                      rw [← hac2] at HB2
                      have HAC := Lib.hid hac2
                      clear hac2
                      go_wp2_with (at_builtin; go_must (refine wpList_append_own_at _ rfl (.tmp 119) (.tmp 121) 22 rfl 0 5 i0 (.int .u8 0) 1 1 Try.underlying22 hi hz0 hz1 hz2 rfl (by decide) _ ac2.length (u8s ac2) rfl (HB2.out.choose_spec.1.1.alloc _) ⟨wr.heap.size, 0, none⟩ 1 1 [.int .u8 c] rfl rfl (cell_one_new _ _ _) (by simp [Value.oneCell']) (by unfold maxLen; omega) (by omega) (Nat.zero_le _) ?_))
                      intro v' w1 hown' hgrow _ hat
                      have hf := bo_snoc (y := c) HB2.out hown' hgrow hat
                      rw [HAC.out, List.append_assoc, ← List.replicate_succ'] at hf
                      have HF := Lib.hid hf
                      clear hf hown' hgrow hat
                      go_wp2_with fail
                      go_roundw
                      case rel => exact ⟨d + 1, by omega, by go_num, HF.out⟩
                      case measure => simp [intOf]; omega
                    · have hdt : d = t := by omega
                      have hdi : ¬ (d : Int) < 1 := by omega
                      rw [hdt] at HB2
                      go_wp2_with fail
                      go_roundw
                      case rel => exact ⟨i + 1, _, by go_num, by omega, HU2.out, by rw [List.length_append, List.length_replicate]; omega, HB2.out⟩
                      case measure => simp [intOf]; omega
          · have hover : unpR l n = ([], 2) := unpR_over HOK.out hu (by omega)
            have HR := Lib.hid hover
            have HBO := Lib.hid hbo
            have he2 : ((acc.length : Int) != n) = true := by rw [bne_iff_ne]; omega
            have he3 : ¬ (acc.length : Int) = n := by omega
            clear hover hu hbo
            go_wp2_with fail
            go_ret2
            exact ⟨.slice none 0 0, by rw [HR.out]; rfl, by rw [HR.out]; exact ⟨none, Owns.nil _ _ _, fun g e => (by cases e), HBO.out.choose_spec.2.2⟩⟩
        · obtain rfl : i = l.length := by omega
          rw [List.drop_length] at hu
          have hr : unpR l n = if (acc.length : Int) = n then (acc, 0) else ([], 2) := by rw [unpR, if_pos HOK.out, hu]; rfl
          have HR := Lib.hid hr
          have HBO := Lib.hid hbo
          clear hr hu hbo
          by_cases he : (acc.length : Int) = n
          · have he2 : ((acc.length : Int) != n) = false := by rw [he]; simp
            rw [if_pos he] at HR
            go_wp2_with fail
            go_ret2
            exact ⟨_, by rw [HR.out]; rfl, by rw [HR.out]; exact HBO.out⟩
          · have he2 : ((acc.length : Int) != n) = true := by rw [bne_iff_ne]; exact he
            rw [if_neg he] at HR
            go_wp2_with fail
            go_ret2
            exact ⟨.slice none 0 0, by rw [HR.out]; rfl, by rw [HR.out]; exact ⟨none, Owns.nil _ _ _, fun g e => (by cases e), HBO.out.choose_spec.2.2⟩⟩
end Go.Proofs.Ytclnmddlcjgfbaa
