/- pressworkref05.one: its walk. -/
import Derived.Test.YtblbggdglndiiaaLimPicks
namespace Go.Proofs.Ytblbggdglndiiaa
open Go.RowKit
set_option linter.unusedVariables false

/-- rows of numbers, to be read. -/
def RowsR (w : World) (v : Value) (n m : Nat) (g : Nat → Nat → Nat) : Prop := ∃ b o c, v = .slice (some ⟨b, o, none⟩) n c ∧ ∀ k, k < n → ∃ b2 o2 c2, w.cell? ⟨b, o + k, none⟩ = some (.slice (some ⟨b2, o2, none⟩) m c2) ∧ ∀ j, j < m → w.cell? ⟨b2, o2 + j, none⟩ = some (.int .i64 (g k j : Nat))
def OneI (f : Nat → Nat) (o : Nat) (vb vt : Value) : Prop := ∃ t : Nat, vt = .int .i64 t ∧ t ≤ o + 1 ∧ vb = .int .i64 (leastN f t : Nat)
theorem noCost_eq : noCost = 4611686018427387904 := by decide
theorem least_same {f : Nat → Nat} {t : Nat} (h : noCost ≤ f t) : leastN f (t + 1) = leastN f t := by
  rw [leastN]; exact Nat.min_eq_left (Nat.le_trans (leastN_none f t) h)
def OneRes (D : Nat) (w : World) (e : Ending) (w' : World) : Prop := e = .returned (.int .i64 (D : Nat)) ∧ w = w'
set_option maxHeartbeats 4000000 in
set_option maxRecDepth 100000 in
theorem ref_one (W : List Nat) (n k o : Nat) (g : Option (Nat → Nat → Nat)) (bv rv : Value) (w : World) (hrv : ∃ rb ro rc, rv = .slice (some ⟨rb, ro, none⟩) (n + 1) rc ∧ ∀ j, j ≤ n → w.cell? ⟨rb, ro + j, none⟩ = some (.int .i64 (sumT W (n - j) : Nat)))
    (hb : ∀ f, g = some f → RowsR w bv (n + 1) (n + 2) f) (hk : k ≤ n) (ho : o ≤ n + 1) (hn : n ≤ 1000) (hs : ∀ j, sumT W j ≤ 2 ^ 60) (last : Bool) (hl : last = g.isNone) :
    Calls Try.prog 22 #[bv, rv, .int .i64 n, .int .i64 k, .int .i64 o, .bool last] w (OneRes (docAt W n g k o) w) := by
  obtain ⟨rb, ro, rc, rfl, hrc⟩ := hrv
  have hck := hrc k hk
  obtain ⟨r, hr⟩ : ∃ r, r = sumT W (n - k) := ⟨_, rfl⟩
  rw [← hr] at hck
  have hrb : r ≤ 2 ^ 60 := by rw [hr]; exact hs _
  obtain ⟨N1, hN1⟩ : ∃ N1, N1 = n + 1 := ⟨_, rfl⟩
  obtain ⟨N2, hN2⟩ : ∃ N2, N2 = n + 2 := ⟨_, rfl⟩
  rw [← hN1, ← hN2] at hb
  have eN1 : ((n + 1 : Nat) : Int) = ((N1 : Nat) : Int) := by rw [hN1]
  rw [← hN1]
  obtain ⟨d, hd⟩ : ∃ d, d = n - k := ⟨_, rfl⟩
  have HR := Lib.hid (And.intro hr hrb)
  have HB := Lib.hid hb
  have HN := Lib.hid (show k ≤ n ∧ o ≤ n + 1 ∧ n ≤ 1000 ∧ d = n - k ∧ N1 = n + 1 ∧ N2 = n + 2 from ⟨hk, ho, hn, hd, hN1, hN2⟩)
  have wd : IntKind.i64.wrap ((n : Int) - (k : Int)) = (d : Int) := by rw [show (n : Int) - (k : Int) = ((d : Nat) : Int) by omega]; exact IntWalk.i64_in _ (by omega)
  have hkN1 : (k : Int) < (N1 : Int) := by omega
  have HLAST := Lib.hid hl
  clear hrc hr hrb hb hs eN1 hN1 hN2 hd hk ho hn hl
  go_enter Try.func22, Try.ntmps22
  by_cases hkn : k = n
  · have hknz : ((k : Int) == (n : Int)) = true := by rw [beq_iff_eq]; omega
    have HKN := Lib.hid hkn
    clear hkn
    by_cases ho0 : o = 0
    · have ho0z : ((o : Int) == 0) = true := by rw [beq_iff_eq]; omega
      have HO := Lib.hid ho0
      clear ho0 wd hkN1
      go_wp2_with fail
      go_ret
      exact ⟨by rw [show docAt W n g k o = 0 by rw [docAt, if_pos HKN.out, if_pos HO.out]]; rfl, rfl⟩
    · have ho0z : ((o : Int) == 0) = false := by rw [beq_eq_false_iff_ne]; omega
      have HO := Lib.hid ho0
      clear ho0 wd hkN1
      go_wp2_with fail
      go_ret
      exact ⟨by rw [show docAt W n g k o = 4611686018427387904 by rw [docAt, if_pos HKN.out, if_neg HO.out]; exact noCost_eq]; rfl, rfl⟩
  · have hknz : ((k : Int) == (n : Int)) = false := by rw [beq_eq_false_iff_ne]; omega
    have HKN := Lib.hid hkn
    clear hkn
    by_cases ho0 : o = 0
    · have ho0z : ((o : Int) == 0) = true := by rw [beq_iff_eq]; omega
      have HO := Lib.hid ho0
      clear ho0 wd hkN1
      go_wp2_with fail
      go_ret
      exact ⟨by rw [show docAt W n g k o = 4611686018427387904 by rw [docAt, if_neg HKN.out, if_pos (Or.inl HO.out)]; exact noCost_eq]; rfl, rfl⟩
    · have ho0z : ((o : Int) == 0) = false := by rw [beq_eq_false_iff_ne]; omega
      have HO := Lib.hid ho0
      clear ho0
      by_cases hdo : d < o
      · have hdoz : (d : Int) < (o : Int) := by omega
        have HDO := Lib.hid hdo
        clear hdo
        go_wp2_with fail
        go_ret
        exact ⟨by rw [show docAt W n g k o = 4611686018427387904 by rw [docAt, if_neg HKN.out, if_pos (Or.inr (by have := HDO.out; have := HN.out; omega))]; exact noCost_eq]; rfl, rfl⟩
      · have hdoz : ¬ (d : Int) < (o : Int) := by omega
        have HDO := Lib.hid (show o ≤ d from by omega)
        obtain ⟨f, hf⟩ : ∃ f, f = docTake W n k o g := ⟨_, rfl⟩
        have HD := Lib.hid (show docAt W n g k o = leastN f (o + 1) from by rw [hf, docAt, if_neg HKN.out, if_neg (by have := HO.out; have := HDO.out; have := HN.out; omega)])
        have HF := Lib.hid hf
        clear hdo hf
        go_wp2_with fail
        clear hdoz
        cases g with
        | none =>
          have hlt0 : last = true := HLAST.out
          subst hlt0
          go_loop [13, 14] (fun vb vt => OneI f o vb vt) (fun _ vt => o + 1 - (intOf vt).toNat)
          case atStart => exact ⟨0, by go_num, Nat.zero_le _, rfl⟩
          case round =>
            obtain ⟨t, rfl, hto, rfl⟩ := hrel
            obtain ⟨x, hx⟩ : ∃ x, x = leastN f t := ⟨_, rfl⟩
            rw [← hx]
            have HX := Lib.hid (show x = leastN f t ∧ t ≤ o + 1 from ⟨hx, hto⟩)
            clear hx hto
            by_cases hlt : t ≤ o
            · have hltz : (t : Int) ≤ (o : Int) := by omega
              have hltd : (t : Int) ≤ (d : Int) := by have := HDO.out; omega
              obtain ⟨l, hl⟩ : ∃ l, l = o - t := ⟨_, rfl⟩
              obtain ⟨t1, ht1⟩ : ∃ t1, t1 = t + 1 := ⟨_, rfl⟩
              obtain ⟨kt, hkt⟩ : ∃ kt, kt = k + t := ⟨_, rfl⟩
              have hoN := HN.out
              have wl : IntKind.i64.wrap ((o : Int) - (t : Int)) = (l : Int) := by rw [show (o : Int) - (t : Int) = ((l : Nat) : Int) by omega]; exact IntWalk.i64_in _ (by omega)
              have wt : IntKind.i64.wrap ((t : Int) + 1) = (t1 : Int) := by rw [show (t : Int) + 1 = ((t1 : Nat) : Int) by omega]; exact IntWalk.i64_in _ (by omega)
              have wkt : IntKind.i64.wrap ((k : Int) + (t : Int)) = (kt : Int) := by rw [show (k : Int) + (t : Int) = ((kt : Nat) : Int) by omega]; exact IntWalk.i64_in _ (by omega)
              have HT := Lib.hid (show l = o - t ∧ t1 = t + 1 ∧ kt = k + t ∧ t ≤ o from ⟨hl, ht1, hkt, hlt⟩)
              have HFT := Lib.hid (show f t = if o - t = 0 ∧ k + t = n then r else noCost from by rw [HF.out, docTake, HR.out.1])
              by_cases hyes : l = 0 ∧ kt = n
              · have hl0 : ((l : Int) == 0) = true := by rw [beq_iff_eq]; omega
                have hk0 : ((kt : Int) == (n : Int)) = true := by rw [beq_iff_eq]; omega
                have HFR := Lib.hid (show f t = r from by rw [HFT.out, if_pos (by have := HT.out; omega)])
                by_cases hxr : x ≤ r
                · have hxrz : (x : Int) ≤ (r : Int) := by omega
                  have HXR := Lib.hid hxr
                  clear hl ht1 hkt hlt hyes hoN hxr
                  go_wp2_with fail
                  go_round
                  case rel => exact ⟨t1, rfl, by have := HT.out; omega, by rw [HT.out.2.1, leastN, HFR.out, ← HX.out.1, Nat.min_eq_left HXR.out]; exact congrArg (Value.int .i64) (Int.min_eq_left hxrz)⟩
                  case measure => simp [intOf]; have := HT.out; omega
                · have hxrz : ¬ (x : Int) ≤ (r : Int) := by omega
                  have HXR := Lib.hid (show r ≤ x from by omega)
                  clear hl ht1 hkt hlt hyes hoN hxr
                  go_wp2_with fail
                  go_round
                  case rel => exact ⟨t1, rfl, by have := HT.out; omega, by rw [HT.out.2.1, leastN, HFR.out, ← HX.out.1, Nat.min_eq_right HXR.out]; exact congrArg (Value.int .i64) (Int.min_eq_right (by omega))⟩
                  case measure => simp [intOf]; have := HT.out; omega
              · have HFR := Lib.hid (show leastN f (t + 1) = x from by rw [least_same (by rw [HFT.out, if_neg (by have := HT.out; omega)]; exact Nat.le_refl _), HX.out.1])
                by_cases hl0 : l = 0
                · have hl0z : ((l : Int) == 0) = true := by rw [beq_iff_eq]; omega
                  have hk0 : ((kt : Int) == (n : Int)) = false := by rw [beq_eq_false_iff_ne]; omega
                  clear hl ht1 hkt hlt hyes hoN hl0
                  go_wp2_with fail
                  go_round
                  case rel => exact ⟨t1, rfl, by have := HT.out; omega, by rw [HT.out.2.1, HFR.out]⟩
                  case measure => simp [intOf]; have := HT.out; omega
                · have hl0z : ((l : Int) == 0) = false := by rw [beq_eq_false_iff_ne]; omega
                  clear hl ht1 hkt hlt hyes hoN hl0
                  go_wp2_with fail
                  go_round
                  case rel => exact ⟨t1, rfl, by have := HT.out; omega, by rw [HT.out.2.1, HFR.out]⟩
                  case measure => simp [intOf]; have := HT.out; omega
            · have hltz : ¬ (t : Int) ≤ (o : Int) := by omega
              have HE := Lib.hid (show t = o + 1 from by have := HX.out; omega)
              clear hlt
              go_wp2_with fail
              go_ret
              exact ⟨by rw [HD.out, ← HE.out, ← HX.out.1]; rfl, rfl⟩
        | some G =>
          have hlt0 : last = false := HLAST.out
          subst hlt0
          obtain ⟨bb, bo, bc, rfl, hcb⟩ := HB.out G rfl
          have HCB := Lib.hid hcb
          clear hcb
          go_loop [13, 14] (fun vb vt => OneI f o vb vt) (fun _ vt => o + 1 - (intOf vt).toNat)
          case atStart => exact ⟨0, by go_num, Nat.zero_le _, rfl⟩
          case round =>
            obtain ⟨t, rfl, hto, rfl⟩ := hrel
            obtain ⟨x, hx⟩ : ∃ x, x = leastN f t := ⟨_, rfl⟩
            rw [← hx]
            have HX := Lib.hid (show x = leastN f t ∧ t ≤ o + 1 from ⟨hx, hto⟩)
            clear hx hto
            by_cases hlt : t ≤ o
            · have hltz : (t : Int) ≤ (o : Int) := by omega
              have hltd : (t : Int) ≤ (d : Int) := by have := HDO.out; omega
              obtain ⟨l, hl⟩ : ∃ l, l = o - t := ⟨_, rfl⟩
              obtain ⟨l2, hl2⟩ : ∃ l2, l2 = 2 * l := ⟨_, rfl⟩
              obtain ⟨t1, ht1⟩ : ∃ t1, t1 = t + 1 := ⟨_, rfl⟩
              obtain ⟨kt, hkt⟩ : ∃ kt, kt = k + t := ⟨_, rfl⟩
              have hoN := HN.out
              have wl : IntKind.i64.wrap ((o : Int) - (t : Int)) = (l : Int) := by rw [show (o : Int) - (t : Int) = ((l : Nat) : Int) by omega]; exact IntWalk.i64_in _ (by omega)
              have wl2 : IntKind.i64.wrap (2 * (l : Int)) = (l2 : Int) := by rw [show 2 * (l : Int) = ((l2 : Nat) : Int) by omega]; exact IntWalk.i64_in _ (by omega)
              have wt : IntKind.i64.wrap ((t : Int) + 1) = (t1 : Int) := by rw [show (t : Int) + 1 = ((t1 : Nat) : Int) by omega]; exact IntWalk.i64_in _ (by omega)
              have wkt : IntKind.i64.wrap ((k : Int) + (t : Int)) = (kt : Int) := by rw [show (k : Int) + (t : Int) = ((kt : Nat) : Int) by omega]; exact IntWalk.i64_in _ (by omega)
              have wn : IntKind.i64.wrap ((n : Int) + 1) = (N1 : Int) := by rw [show (n : Int) + 1 = ((N1 : Nat) : Int) by omega]; exact IntWalk.i64_in _ (by omega)
              have HT := Lib.hid (show l = o - t ∧ t1 = t + 1 ∧ kt = k + t ∧ t ≤ o ∧ l2 = 2 * l from ⟨hl, ht1, hkt, hlt, hl2⟩)
              have HFT := Lib.hid (show f t = if n + 1 < 2 * (o - t) then noCost else if G (k + t) (2 * (o - t)) < noCost then r + G (k + t) (2 * (o - t)) else noCost from by rw [HF.out, docTake, HR.out.1])
              by_cases hbig : N1 < l2
              · have hbigz : (N1 : Int) < (l2 : Int) := by omega
                have HFR := Lib.hid (show leastN f (t + 1) = x from by rw [least_same (by rw [HFT.out, if_pos (by have := HT.out; omega)]; exact Nat.le_refl _), HX.out.1])
                clear hl ht1 hkt hlt hbig hoN hl2
                go_wp2_with fail
                go_round
                case rel => exact ⟨t1, rfl, by have := HT.out; omega, by rw [HT.out.2.1, HFR.out]⟩
                case measure => simp [intOf]; have := HT.out; omega
              · have hbigz : ¬ (N1 : Int) < (l2 : Int) := by omega
                obtain ⟨b2, o2, c2, hc1, hc2⟩ := HCB.out kt (by have := HDO.out; omega)
                have hc3 := hc2 l2 (by omega)
                obtain ⟨c, hc⟩ : ∃ c, c = G kt l2 := ⟨_, rfl⟩
                rw [← hc] at hc3
                have hktz : (kt : Int) < (N1 : Int) := by have := HDO.out; omega
                have hl2z : (l2 : Int) < (N2 : Int) := by omega
                have HFC := Lib.hid (show f t = if c < noCost then r + c else noCost from by rw [HFT.out, if_neg (by have := HT.out; omega), hc, HT.out.2.2.1, HT.out.2.2.2.2, HT.out.1])
                by_cases hcn : c < 4611686018427387904
                · have hcnz : (c : Int) < 4611686018427387904 := by omega
                  obtain ⟨s, hs⟩ : ∃ s, s = r + c := ⟨_, rfl⟩
                  have ws : IntKind.i64.wrap ((r : Int) + (c : Int)) = (s : Int) := by rw [show (r : Int) + (c : Int) = ((s : Nat) : Int) by omega]; exact IntWalk.i64_in _ (by have := HR.out.2; omega)
                  have HFR := Lib.hid (show f t = s from by rw [HFC.out, if_pos (by rw [noCost_eq]; exact hcn), hs])
                  by_cases hxr : x ≤ s
                  · have hxrz : (x : Int) ≤ (s : Int) := by omega
                    have HXR := Lib.hid hxr
                    clear hl ht1 hkt hlt hbig hoN hl2 hc hs hcn hxr hc2
                    go_wp2_with fail
                    go_round
                    case rel => exact ⟨t1, rfl, by have := HT.out; omega, by rw [HT.out.2.1, leastN, HFR.out, ← HX.out.1, Nat.min_eq_left HXR.out]; exact congrArg (Value.int .i64) (Int.min_eq_left hxrz)⟩
                    case measure => simp [intOf]; have := HT.out; omega
                  · have hxrz : ¬ (x : Int) ≤ (s : Int) := by omega
                    have HXR := Lib.hid (show s ≤ x from by omega)
                    clear hl ht1 hkt hlt hbig hoN hl2 hc hs hcn hxr hc2
                    go_wp2_with fail
                    go_round
                    case rel => exact ⟨t1, rfl, by have := HT.out; omega, by rw [HT.out.2.1, leastN, HFR.out, ← HX.out.1, Nat.min_eq_right HXR.out]; exact congrArg (Value.int .i64) (Int.min_eq_right (by omega))⟩
                    case measure => simp [intOf]; have := HT.out; omega
                · have hcnz : ¬ (c : Int) < 4611686018427387904 := by omega
                  have HFR := Lib.hid (show leastN f (t + 1) = x from by rw [least_same (by rw [HFC.out, if_neg (by rw [noCost_eq]; exact hcn)]; exact Nat.le_refl _), HX.out.1])
                  clear hl ht1 hkt hlt hbig hoN hl2 hc hcn hc2
                  go_wp2_with fail
                  go_round
                  case rel => exact ⟨t1, rfl, by have := HT.out; omega, by rw [HT.out.2.1, HFR.out]⟩
                  case measure => simp [intOf]; have := HT.out; omega
            · have hltz : ¬ (t : Int) ≤ (o : Int) := by omega
              have HE := Lib.hid (show t = o + 1 from by have := HX.out; omega)
              clear hlt
              go_wp2_with fail
              go_ret
              exact ⟨by rw [HD.out, ← HE.out, ← HX.out.1]; rfl, rfl⟩
end Go.Proofs.Ytblbggdglndiiaa
