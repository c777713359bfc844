/- pressworkref04.Words: its walk. -/
import Derived.BigQuiet
import Derived.Test.YtomnhfcckalkiaaPreMake
import Derived.Test.YtomnhfcckalkiaaPreKraft
namespace Go.Proofs.Ytomnhfcckalkiaa
open Go.RowKit
set_option linter.unusedVariables false

/-- the row g of words, so far. -/
structure WR (w : World) (g N : Nat) (s : List Nat × Nat) (wr : World) : Prop where
  own : Owns wr 69 1 (.slice (some ⟨g, 0, none⟩) N N) (some g) N (u32s s.1)
  ext : Ext w wr
  new : w.heap.size ≤ g
theorem WR.set {w wr : World} {g N : Nat} {s : List Nat × Nat} (h : WR w g N s wr) (i : Nat) (hi : i < N) (x a : Nat) : WR w g N (s.1.set i x, a) (wr.setCell ⟨g, i, none⟩ (.int .u32 x)) :=
  ⟨by rw [u32s_set]; exact h.own.set i _ hi, h.ext.touch ((Touch.refl (fun k => k = g) wr).setCell (Or.inl rfl) _) (fun k hk e => by have := h.new; omega), h.new⟩
theorem at_part (a k : Nat) (hk : k ≤ 20) (ha : a ≤ 2 ^ 20) : ((a : Int) + 2 ^ k % 4294967296) % 4294967296 = ((a + 2 ^ k : Nat) : Int) := by
  have hp : 2 ^ k ≤ 2 ^ 20 := Nat.pow_le_pow_right (by decide) hk
  rw [cast_pow]
  generalize 2 ^ k = P at *
  omega
theorem div_part (a k : Nat) : (a : Int) / 2 ^ k = ((a / 2 ^ k : Nat) : Int) := by simp
/-- what Words leaves. -/
def WordsP (w : World) (L : List Nat) (e : Ending) (w' : World) : Prop :=
  (errW L ≠ 0 ∧ e = .returned (.tuple #[.slice none 0 0, .int .i64 (errW L)]) ∧ w = w') ∨ (errW L = 0 ∧ ∃ v, e = .returned (.tuple #[v, .int .i64 0]) ∧ NewU w (wordsL L) v w')
set_option maxHeartbeats 4000000 in
set_option maxRecDepth 100000 in
theorem ref_words (v : Value) (bs : List Nat) (w : World) (hv : ViewL w v (u8s bs)) (hl : bs.length ≤ 2 ^ 40) :
    Calls Try.prog 30 #[v] w (WordsP w bs) := by
  obtain ⟨ao, cap, rfl⟩ := hv.shape
  rw [length_u8s] at *
  have HV := Lib.hid hv
  clear hv
  go_enter Try.func30, Try.ntmps30
  go_wp2_with fail
  refine (ref_may _ bs _ HV.out hl).mono ?_
  rintro e w' ⟨rfl, rfl⟩
  by_cases hm : MayK bs
  · have hd : decide (MayK bs) = true := by simpa using hm
    rw [hd]
    clear hd
    go_wp2_with fail
    refine (ref_weight _ bs _ HV.out hm).mono ?_
    rintro e w' ⟨rfl, rfl⟩
    by_cases hw : 2 ^ 20 < weightL bs
    · have HE := Lib.hid (show errW bs = 2 by rw [errW, if_neg (not_not_intro hm), if_pos hw])
      have hwi : (1048576 : Int) < (weightL bs : Int) := by omega
      clear hw
      generalize weightL bs = W at *
      go_wp2_with fail
      go_ret2
      exact Or.inl ⟨by rw [HE.out]; decide, by rw [HE.out]; rfl, rfl⟩
    · have he : errW bs = 0 := by rw [errW, if_neg (not_not_intro hm), if_neg hw]
      have HG := Lib.hid ((good_iff bs).2 he)
      have HE := Lib.hid he
      have hwi : ¬ (1048576 : Int) < (weightL bs : Int) := by omega
      have hwn : weightL bs ≤ 1048576 := by omega
      have HW := Lib.hid hwn
      clear hw he
      obtain ⟨w1, hmk, o1, x1⟩ := make_u32 w bs.length (by have := hm.1; omega)
      have HR0 := Lib.hid (show WR w w.heap.size bs.length (wRun bs.length (prs bs 1 0)) w1 from ⟨o1, x1, Nat.le_refl _⟩)
      obtain ⟨g, hg⟩ : ∃ g, g = w.heap.size := ⟨_, rfl⟩
      rw [← hg] at hmk HR0
      clear o1 x1 hg hm
      generalize weightL bs = W at *
      go_wp2_with fail
      clear hmk
      go_loopw [5, 6, 7] (fun av nv iv wr => ∃ n : Nat, nv = .int .i64 n ∧ av = .int .u32 (wRun bs.length (prs bs n 0)).2 ∧ 1 ≤ n ∧ n ≤ 21 ∧ WR w g bs.length (wRun bs.length (prs bs n 0)) wr) (fun _ nv _ _ => 21 - (intOf nv).toNat)
      case atStart => exact ⟨1, rfl, rfl, Nat.le_refl _, by omega, HR0.out⟩
      case round =>
        obtain ⟨n, rfl, rfl, hn1, hn, hr⟩ := hrel
        have HR := Lib.hid hr
        clear hr
        by_cases hn20 : n ≤ 20
        · have hni : (n : Int) ≤ 20 := by omega
          go_wp2_with fail
          go_loopw [5, 7] (fun av iv wi => ∃ i : Nat, iv = .int .i64 i ∧ av = .int .u32 (wRun bs.length (prs bs n i)).2 ∧ i ≤ bs.length ∧ WR w g bs.length (wRun bs.length (prs bs n i)) wi) (fun _ iv _ => bs.length - (intOf iv).toNat)
          case atStart => exact ⟨0, rfl, rfl, Nat.zero_le _, HR.out⟩
          case round =>
            obtain ⟨i, rfl, rfl, hi, hr2⟩ := hrel
            have hat := at_le HG.out.1 n i hn1 hn20 hi
            have hln := wRun_len bs.length (prs bs n i)
            have HAT := Lib.hid (Nat.le_trans hat HG.out.2.2)
            have HR2 := Lib.hid hr2
            clear hat hr2
            by_cases hlt : i < bs.length
            · have hlti : (i : Int) < (bs.length : Int) := by omega
              obtain ⟨b, o, rfl, _, hc⟩ := viewL_cells (HV.out.ext HR2.out.ext) (by rw [length_u8s]; omega)
              obtain ⟨y, hy⟩ : ∃ y, bs.getD i 0 = y := ⟨_, rfl⟩
              have c1 := hc i (.int .u8 y) (by rw [getElem?_u8s _ _ hlt, hy])
              have hy20 : y ≤ 20 := by
                rw [← hy, List.getD, List.getElem?_eq_getElem hlt]; exact HG.out.1 _ (List.getElem_mem _)
              clear hc
              by_cases hyn : y = n
              · have hst := prs_hit bs n i (by rw [hy, hyn])
                have HS := Lib.hid (show wRun bs.length (prs bs n (i + 1)) = _ by rw [hst, wRun_snoc])
                have c2 := HR2.out.own.cell i _ (getElem?_u32s _ i (by omega))
                have f2 := HR2.out.own.free i
                generalize wRun bs.length (prs bs n i) = s at *
                obtain ⟨out, at_⟩ := s
                simp only at *
                have hatn := HAT.out
                have hyb : ((y : Int) == (n : Int)) = true := by rw [hyn]; simp
                have hyi : (y : Int) = (n : Int) := by rw [hyn]
                have hp := pow_part n hn20
                clear hyn hst
                go_wp2_with fail
                go_roundw
                case rel => exact ⟨i + 1, by go_num, by rw [HS.out]; exact congrArg (Value.int .u32) (at_part at_ (20 - n) (by omega) HAT.out), by omega, by rw [HS.out, div_part]; exact HR2.out.set i hlt _ _⟩
                case measure => simp [intOf]; omega
              · have hst := prs_miss bs n i (by rw [hy]; exact hyn)
                have HS := Lib.hid hst
                have hyb : ((y : Int) == (n : Int)) = false := by rw [beq_eq_false_iff_ne]; omega
                have hyi : ¬ (y : Int) = (n : Int) := by omega
                clear hst
                go_wp2_with fail
                go_roundw
                case rel => exact ⟨i + 1, by go_num, by rw [HS.out], by omega, by rw [HS.out]; exact HR2.out⟩
                case measure => simp [intOf]; omega
            · obtain rfl : i = bs.length := by omega
              have HS := Lib.hid (prs_next bs n hn1)
              go_wp2_with fail
              go_roundw
              case rel => exact ⟨n + 1, by go_num, by rw [HS.out], by omega, by omega, by rw [HS.out]; exact HR2.out⟩
              case measure => simp [intOf]; omega
        · obtain rfl : n = 21 := by omega
          have HS := Lib.hid (show wRun bs.length (prs bs 21 0) = wRun bs.length (prs bs 20 bs.length) by rw [prs_next bs 20 (by decide)])
          go_wp2_with fail
          go_ret2
          refine Or.inr ⟨HE.out, _, rfl, some g, ?_, fun g' e => by cases e; exact HR.out.new, HR.out.ext⟩
          have := HR.out.own
          rw [HS.out] at this
          rw [length_wordsL]
          exact this
  · have hd : decide (MayK bs) = false := by simpa using hm
    have HE := Lib.hid (show errW bs = 5 by rw [errW, if_pos hm])
    rw [hd]
    clear hd
    go_wp2_with fail
    go_ret2
    exact Or.inl ⟨by rw [HE.out]; decide, by rw [HE.out]; rfl, rfl⟩
end Go.Proofs.Ytomnhfcckalkiaa
