/- pressworklaw01.LsbAdds: its walk. -/
import Derived.Test.YtnmibfdpaamlgaaLsbLays
import Derived.Test.YtnmibfdpaamlgaaLsbAdd
import Derived.Test.YtnmibfdpaamlgaaLsbActs
import Derived.Test.YtnmibfdpaamlgaaActRow
import Derived.Test.YtnmibfdpaamlgaaGrowTwo
import Derived.Test.YtnmibfdpaamlgaaStr
import Derived.StillTailTactics
namespace Go.Proofs.Ytnmibfdpaamlgaa
open Go.RowKit
set_option linter.unusedVariables false

/-- three writers, apart. -/
def LsbAd (w : World) (A B C : Nat) (oa ob oc : Option Nat) (la lb lc : List Bool) (wr : World) : Prop :=
  IsW 25 false wr A oa la ∧ IsW 25 false wr B ob lb ∧ IsW 25 false wr C oc lc ∧
  Dis A oa B ob ∧ Dis A oa C oc ∧ Dis B ob C oc ∧ NewW w.heap.size A oa ∧ NewW w.heap.size B ob ∧ NewW w.heap.size C oc ∧ Ext w wr
theorem lsb_ad_ext {w wr w' : World} {A B C : Nat} {oa ob oc : Option Nat} {la lb lc : List Bool} (h : LsbAd w A B C oa ob oc la lb lc wr) (hx : Ext wr w') : LsbAd w A B C oa ob oc la lb lc w' := by
  obtain ⟨h1, h2, h3, d1, d2, d3, n1, n2, n3, x⟩ := h
  exact ⟨h1.ext hx, h2.ext hx, h3.ext hx, d1, d2, d3, n1, n2, n3, x.trans hx⟩
theorem lsb_ad_a {w wr w' : World} {A B C : Nat} {oa ob oc : Option Nat} {la lb lc la' : List Bool} (h : LsbAd w A B C oa ob oc la lb lc wr) (hp : WPost 25 false wr A oa la' w') : ∃ oa', LsbAd w A B C oa' ob oc la' lb lc w' := by
  obtain ⟨h1, h2, h3, d1, d2, d3, n1, n2, n3, x⟩ := h
  obtain ⟨oa', p1, p2, p3, p4, p5⟩ := act hp n1 x
  exact ⟨oa', p1, d1.keep h2 p5, d2.keep h3 p5, d1.near p3 h2.lt h2.glt, d2.near p3 h3.lt h3.glt, d3, p2, n2, n3, p4⟩
theorem lsb_ad_ab {w wr : World} {A B C : Nat} {oa ob oc : Option Nat} {la lb lc : List Bool} (h : LsbAd w A B C oa ob oc la lb lc wr) : LsbAd w B A C ob oa oc lb la lc wr := by
  obtain ⟨h1, h2, h3, d1, d2, d3, n1, n2, n3, x⟩ := h
  exact ⟨h2, h1, h3, d1.symm, d3, d2, n2, n1, n3, x⟩
theorem lsb_ad_ac {w wr : World} {A B C : Nat} {oa ob oc : Option Nat} {la lb lc : List Bool} (h : LsbAd w A B C oa ob oc la lb lc wr) : LsbAd w C B A oc ob oa lc lb la wr := by
  obtain ⟨h1, h2, h3, d1, d2, d3, n1, n2, n3, x⟩ := h
  exact ⟨h3, h2, h1, d3.symm, d2.symm, d1.symm, n3, n2, n1, x⟩
theorem lsb_ad_b {w wr w' : World} {A B C : Nat} {oa ob oc : Option Nat} {la lb lc lb' : List Bool} (h : LsbAd w A B C oa ob oc la lb lc wr) (hp : WPost 25 false wr B ob lb' w') : ∃ ob', LsbAd w A B C oa ob' oc la lb' lc w' := by
  obtain ⟨o, h⟩ := lsb_ad_a (lsb_ad_ab h) hp
  exact ⟨o, lsb_ad_ab h⟩
theorem lsb_ad_c {w wr w' : World} {A B C : Nat} {oa ob oc : Option Nat} {la lb lc lc' : List Bool} (h : LsbAd w A B C oa ob oc la lb lc wr) (hp : WPost 25 false wr C oc lc' w') : ∃ oc', LsbAd w A B C oa ob oc' la lb lc' w' := by
  obtain ⟨o, h⟩ := lsb_ad_a (lsb_ad_ac h) hp
  exact ⟨o, lsb_ad_ac h⟩
/-- the row that Puts leave. -/
def lsb_P (l : List ActV) : List Bool := l.foldl (fun r x => putL false r x.v x.n) []
theorem lsb_P_succ (l : List ActV) (k : Nat) (x : ActV) (h : l[k]? = some x) : lsb_P (l.take (k + 1)) = putL false (lsb_P (l.take k)) x.v x.n := by
  obtain ⟨hk, rfl⟩ := List.getElem?_eq_some_iff.1 h
  rw [List.take_succ_eq_append_getElem hk, lsb_P, lsb_P, List.foldl_append]; rfl
theorem lsb_P_len (l : List ActV) (k : Nat) : (lsb_P (l.take k)).length ≤ 32 * k := by
  induction k with
  | zero => simp [lsb_P]
  | succ k ih =>
    by_cases hk : k < l.length
    · rw [lsb_P_succ l k _ (List.getElem?_eq_getElem hk)]
      have := putL_len false (lsb_P (l.take k)) l[k].v l[k].n
      omega
    · rw [List.take_of_length_le (by omega)]
      rw [List.take_of_length_le (by omega)] at ih
      omega
theorem lsb_putL_app (r s : List Bool) (v : Nat) (n : Int) : putL false (r ++ s) v n = r ++ putL false s v n := by
  unfold putL
  split
  · rw [List.append_assoc]
  · rfl

set_option maxHeartbeats 4000000 in
set_option maxRecDepth 100000 in
theorem lsb_adds_some (lv mv : Value) (l m : List ActV) (w : World) (hlv : ViewA w lv l) (hmv : ViewA w mv m) (hll : l.length ≤ 60) (hml : m.length ≤ 60) :
    Calls Try.prog 9 #[lv, mv] w fun e w' => e = .returned (.bool true) ∧ Ext w w' := by
  obtain ⟨lo, lcap, rfl, hlx⟩ := hlv
  obtain ⟨mo, mcap, rfl, hmx⟩ := hmv
  have h1 : ¬ (60 : Int) < (l.length : Int) := by omega
  have h2 : ¬ (60 : Int) < (m.length : Int) := by omega
  have HLX := Lib.hid hlx
  have HMX := Lib.hid hmx
  clear hlx hmx
  obtain ⟨W0, hW0⟩ : ∃ W0, ((w.alloc (.cells #[.slice none 0 0, .int .i64 0] 25)).alloc (.cells #[.slice none 0 0, .int .i64 0] 25)).alloc (.cells #[.slice none 0 0, .int .i64 0] 25) = W0 := ⟨_, rfl⟩
  have HS : Hid (LsbAd w w.heap.size (w.heap.size + 1) (w.heap.size + 1 + 1) none none none [] [] [] W0) := by
    refine Lib.hid ⟨?_, ?_, ?_, ⟨by omega, by simp, by simp, fun g e => by cases e⟩, ⟨by omega, by simp, by simp, fun g e => by cases e⟩, ⟨by omega, by simp, by simp, fun g e => by cases e⟩, ⟨Nat.le_refl _, fun g e => by cases e⟩, ⟨by omega, fun g e => by cases e⟩, ⟨by omega, fun g e => by cases e⟩, hW0 ▸ (((Ext.refl w).alloc _).alloc _).alloc _⟩
    · exact hW0 ▸ ((lsb_zero w).ext ((Ext.refl _).alloc _)).ext ((Ext.refl _).alloc _)
    · have := (lsb_zero (w.alloc (.cells #[.slice none 0 0, .int .i64 0] 25))).ext ((Ext.refl _).alloc (.cells #[.slice none 0 0, .int .i64 0] 25))
      rw [hW0] at this; simpa using this
    · have := lsb_zero ((w.alloc (.cells #[.slice none 0 0, .int .i64 0] 25)).alloc (.cells #[.slice none 0 0, .int .i64 0] 25))
      rw [hW0] at this; simpa using this
  have HW0 := Lib.hid hW0
  clear hW0
  go_enter Try.func9, Try.ntmps9
  go_wp2_with fail
  rw [HW0.out]
  go_loopw [8] (fun i wr => ∃ (k : Nat) (oa ob oc : Option Nat), k ≤ l.length ∧ i = .int .i64 k ∧ LsbAd w w.heap.size (w.heap.size + 1) (w.heap.size + 1 + 1) oa ob oc (lsb_P (l.take k)) [] (lsb_P (l.take k)) wr) (fun i _ => l.length - (intOf i).toNat)
  case atStart => exact ⟨0, none, none, none, Nat.zero_le _, rfl, HS.out⟩
  case round =>
    obtain ⟨k, oa, ob, oc, hk, rfl, hst⟩ := hrel
    by_cases hlt : k < l.length
    · obtain ⟨b, o, rfl, hx⟩ := HLX.out (by omega)
      obtain ⟨x, hxk⟩ : ∃ x, l[k]? = some x := ⟨_, List.getElem?_eq_getElem hlt⟩
      obtain ⟨hact, xv, xn⟩ := hx k x hxk
      have hsucc := lsb_P_succ l k x hxk
      have hlen := lsb_P_len l k
      generalize lsb_P (l.take k) = la at *
      have HSU := Lib.hid hsucc
      have HACT := Lib.hid hact
      have HST := Lib.hid hst
      clear hact hst hx hxk hsucc
      obtain ⟨xV, xN, xA, xD⟩ := x
      have k1 : (k : Int).toNat = k := Int.toNat_natCast k
      have k2 : (0 : Int) ≤ (k : Int) := by omega
      have k3 : (k : Int) < (l.length : Int) := by omega
      obtain ⟨c0, c1, c2, c3⟩ := HACT.out.ext HST.out.2.2.2.2.2.2.2.2.2
      simp only [] at c0 c1 c2 c3
      go_wp2_with fail
      go_still_tail 10, (by kernel_rfl)
      clear c0 c1 c2 c3
      go_wp2_with fail
      have std := lsb_ad_ext HST.out (Ext.refl wr).drew
      refine (lsb_put _ xV xN oa la _ std.1 (by omega) xv).mono ?_
      rintro e w1 ⟨rfl, p1⟩
      obtain ⟨oa1, st1⟩ := lsb_ad_a std p1
      obtain ⟨c0, c1, c2, c3⟩ := HACT.out.ext st1.2.2.2.2.2.2.2.2.2
      simp only [] at c0 c1 c2 c3
      have ST1 := Lib.hid st1
      clear std p1 st1
      go_wp2_with fail
      go_still_tail 10, (by kernel_rfl)
      clear c0 c1 c2 c3
      go_wp2_with fail
      have std := lsb_ad_ext ST1.out (Ext.refl w1).drew
      refine (lsb_put _ xV xN oc la _ std.2.2.1 (by omega) xv).mono ?_
      rintro e w2 ⟨rfl, p1⟩
      obtain ⟨oc1, st2⟩ := lsb_ad_c std p1
      have ST2 := Lib.hid st2
      clear std p1 st2 k1 k2 k3
      go_wp2_with fail
      go_roundw
      case rel => exact ⟨k + 1, _, _, _, by omega, by go_num, by rw [HSU.out]; exact ST2.out⟩
      case measure => simp [intOf]; omega
    · obtain rfl : k = l.length := by omega
      rw [List.take_length] at hst
      obtain ⟨wo, rfl⟩ : ∃ wo : World, wo = wr := ⟨_, rfl⟩
      have hlen : (lsb_P l).length ≤ 32 * l.length := by have := lsb_P_len l l.length; rwa [List.take_length] at this
      generalize lsb_P l = la at *
      have HST := Lib.hid hst
      clear hst
      go_wp2_with fail
      go_loopw [9] (fun i wr => ∃ (k : Nat) (oa ob oc : Option Nat), k ≤ m.length ∧ i = .int .i64 k ∧ LsbAd w w.heap.size (w.heap.size + 1) (w.heap.size + 1 + 1) oa ob oc la (lsb_P (m.take k)) (la ++ lsb_P (m.take k)) wr) (fun i _ => m.length - (intOf i).toNat)
      case atStart => exact ⟨0, _, _, _, Nat.zero_le _, rfl, by have := HST.out; simpa [lsb_P] using this⟩
      case round =>
        obtain ⟨k, oa, ob, oc, hk, rfl, hst⟩ := hrel
        by_cases hlt : k < m.length
        · obtain ⟨b, o, rfl, hx⟩ := HMX.out (by omega)
          obtain ⟨x, hxk⟩ : ∃ x, m[k]? = some x := ⟨_, List.getElem?_eq_getElem hlt⟩
          obtain ⟨hact, xv, xn⟩ := hx k x hxk
          have hsucc := lsb_P_succ m k x hxk
          have hlen2 := lsb_P_len m k
          generalize lsb_P (m.take k) = lb at *
          have HSU := Lib.hid hsucc
          have HACT := Lib.hid hact
          have HST2 := Lib.hid hst
          clear hact hst hx hxk hsucc
          obtain ⟨xV, xN, xA, xD⟩ := x
          have k1 : (k : Int).toNat = k := Int.toNat_natCast k
          have k2 : (0 : Int) ≤ (k : Int) := by omega
          have k3 : (k : Int) < (m.length : Int) := by omega
          obtain ⟨c0, c1, c2, c3⟩ := HACT.out.ext HST2.out.2.2.2.2.2.2.2.2.2
          simp only [] at c0 c1 c2 c3
          go_wp2_with fail
          go_still_tail 10, (by kernel_rfl)
          clear c0 c1 c2 c3
          go_wp2_with fail
          have std := lsb_ad_ext HST2.out (Ext.refl wr).drew
          refine (lsb_put _ xV xN ob lb _ std.2.1 (by omega) xv).mono ?_
          rintro e w1 ⟨rfl, p1⟩
          obtain ⟨ob1, st1⟩ := lsb_ad_b std p1
          obtain ⟨c0, c1, c2, c3⟩ := HACT.out.ext st1.2.2.2.2.2.2.2.2.2
          simp only [] at c0 c1 c2 c3
          have ST1 := Lib.hid st1
          clear std p1 st1
          go_wp2_with fail
          go_still_tail 10, (by kernel_rfl)
          clear c0 c1 c2 c3
          go_wp2_with fail
          have std := lsb_ad_ext ST1.out (Ext.refl w1).drew
          refine (lsb_put _ xV xN oc _ _ std.2.2.1 (by rw [List.length_append]; omega) xv).mono ?_
          rw [lsb_putL_app]
          rintro e w2 ⟨rfl, p1⟩
          obtain ⟨oc1, st2⟩ := lsb_ad_c std p1
          have ST2 := Lib.hid st2
          clear std p1 st2 k1 k2 k3
          go_wp2_with fail
          go_roundw
          case rel => exact ⟨k + 1, _, _, _, by omega, by go_num, by rw [HSU.out]; exact ST2.out⟩
          case measure => simp [intOf]; omega
        · obtain rfl : k = m.length := by omega
          rw [List.take_length] at hst
          have hlen2 : (lsb_P m).length ≤ 32 * m.length := by have := lsb_P_len m m.length; rwa [List.take_length] at this
          generalize lsb_P m = lb at *
          have HSTE := Lib.hid hst
          clear hst
          go_wp2_with fail
          refine (lsb_len _ _ lb _ HSTE.out.2.1).mono ?_
          rintro e w' ⟨rfl, rfl⟩
          go_wp2_with fail
          refine (lsb_bytes _ _ lb _ HSTE.out.2.1 (by omega)).mono ?_
          rintro e w4 ⟨v, og4, rfl, d1, d2, d3⟩
          have hs := run_string_view (P := Try.prog) 23 9 5 d1.view Try.underlying23 Try.underlying5 Try.underlying9
          have HSTF := Lib.hid (lsb_ad_ext HSTE.out d3)
          obtain ⟨ao, cap, rfl⟩ := d1.shape
          clear d1 d2 d3
          go_wp2_with fail
          clear hs
-- LAST
          have hea : ((strOf (packs false (la ++ lb))).toList == (strOf (packs false (la ++ lb))).toList) = true := by simp
          have heb : ((strOf (packs false lb)).toList == (strOf (packs false lb)).toList) = true := by simp
          have hst : Stab (Phi [(5, .pointer (some ⟨w.heap.size, 0, none⟩)), (6, .pointer (some ⟨w.heap.size + 1, 0, none⟩)), (7, .pointer (some ⟨w.heap.size + 1 + 1, 0, none⟩)), (10, .int .i64 lb.length), (11, .string (strOf (packs false lb))), (79, .int .i64 0), (80, .bool true), (81, .bool true), (82, .int .i64 (la ++ lb).length), (83, .int .i64 (la ++ lb).length), (84, .bool true), (85, .bool true), (86, .bool true), (88, .string (strOf (packs false (la ++ lb)))), (90, .string (strOf (packs false (la ++ lb)))), (91, .bool true), (92, .bool true), (93, .bool true), (94, .int .i64 lb.length), (95, .int .i64 lb.length), (96, .bool true), (97, .bool true), (98, .bool true), (100, .string (strOf (packs false lb))), (101, .string (strOf (packs false lb))), (102, .bool true), (103, .bool true), (104, .bool true), (105, .bool true), (106, .bool true), (4, .bool true)] [(87, fun v w => View w v (packs false (la ++ lb))), (89, fun v w => View w v (packs false (la ++ lb))), (99, fun v w => View w v (packs false lb))]) := Phi.stable (by
              intro x hx v w1 w2 he hp
              simp only [List.mem_cons, List.not_mem_nil, or_false] at hx
              rcases hx with rfl | rfl | rfl
              · exact View.ext hp he
              · exact View.ext hp he
              · exact View.ext hp he)
          refine wp_region_two 107 [5, 6, 7, 10, 11] [79, 80, 81, 82, 83, 84, 85, 86, 87, 88, 89, 90, 91, 92, 93, 94, 95, 96, 97, 98, 99, 100, 101, 102, 103, 104, 105, 106, 4] 0 [2, 1, 1, 1, 1, 1, 1, 1, 1, 1, 1, 1, 1, 1, 1, 1, 1, 1, 1, 1, 1, 1, 1, 1, 1, 1, 1, 1, 1] (fun w' => ∃ oa ob oc, LsbAd w w.heap.size (w.heap.size + 1) (w.heap.size + 1 + 1) oa ob oc la lb (la ++ lb) w') (fun w' => ∃ oa ob oc, LsbAd w w.heap.size (w.heap.size + 1) (w.heap.size + 1 + 1) oa ob oc (la ++ lb) lb (la ++ lb) w') (by kernel_rfl) _ hst (fun _ _ ⟨a, b, c, h⟩ k => ⟨a, b, c, lsb_ad_ext h k⟩) (fun _ _ ⟨a, b, c, h⟩ k => ⟨a, b, c, lsb_ad_ext h k⟩) (by kernel_rfl) rfl rfl (fun _ => ⟨rfl, rfl, rfl, rfl, rfl, trivial⟩) (⟨_, _, _, HSTF.out⟩) ⟨?_, ?_, ?_, ?_, ?_, ?_, ?_, ?_, ?_, ?_, ?_, ?_, ?_, ?_, ?_, ?_, ?_, ?_, ?_, ?_, ?_, ?_, ?_, ?_, ?_, ?_, ?_, ?_, ?_, trivial⟩ ?fin
          · refine OblC.call 41 #[.pointer (some ⟨w.heap.size, 0, none⟩), .pointer (some ⟨w.heap.size + 1, 0, none⟩)] (fun ev w1 hI hc hf hg hev => ?_)
            have h0 : ev (.tmp 5) = .pointer (some ⟨w.heap.size, 0, none⟩) := hev.1; have h1 : ev (.tmp 6) = .pointer (some ⟨w.heap.size + 1, 0, none⟩) := hev.2.1
            refine ⟨rfl, by (clear hev; go_simp), ?_⟩
            obtain ⟨oa, ob, oc, hI⟩ : ∃ oa ob oc, LsbAd w w.heap.size (w.heap.size + 1) (w.heap.size + 1 + 1) oa ob oc la lb (la ++ lb)  w1 := hI
            refine (lsb_add _ _ oa ob la lb w1 hI.1 hI.2.1 (by omega)).mono ?_
            rintro e w4 ⟨rfl, p1⟩
            obtain ⟨oa2, hI2⟩ := lsb_ad_a hI p1
            exact ⟨_, rfl, ⟨oa2, ob, oc, hI2⟩, fun t u ht _ => (by rw [show openSlots _ _ _ = [] from by kernel_rfl] at ht; cases ht), fun d hd => by cases hd; rfl⟩
          · refine Obl.val (.bool true) (fun ev w1 hc hf hg hev => ?_) (fun d hd w1 => by cases hd; rfl)
            have h0 : ev (.tmp 79) = .int .i64 0 := hev.1
            exact ⟨rfl, by (clear hev; go_simp)⟩
          · refine Obl.val (.bool true) (fun ev w1 hc hf hg hev => ?_) (fun d hd w1 => by cases hd; rfl)
            have h0 : ev (.tmp 80) = .bool true := hev.1
            exact ⟨rfl, by (clear hev; go_simp)⟩
          · refine Obl.call 37 #[.pointer (some ⟨w.heap.size, 0, none⟩)] (fun ev w1 hI hc hf hg hev => ?_)
            have h0 : ev (.tmp 81) = .bool true := hev.1; have h1 : ev (.tmp 5) = .pointer (some ⟨w.heap.size, 0, none⟩) := hev.2.1
            refine ⟨wanted_of rfl rfl h0, by (clear hev; go_simp), ?_⟩
            obtain ⟨oa, ob, oc, hI⟩ : ∃ oa ob oc, LsbAd w w.heap.size (w.heap.size + 1) (w.heap.size + 1 + 1) oa ob oc (la ++ lb) lb (la ++ lb)  w1 := hI
            refine (lsb_len _ _ _ w1 hI.1).mono ?_
            rintro e w2 ⟨rfl, rfl⟩
            exact ⟨_, rfl, Ext.refl _, fun d hd => by cases hd; rfl⟩
          · refine Obl.call 37 #[.pointer (some ⟨w.heap.size + 1 + 1, 0, none⟩)] (fun ev w1 hI hc hf hg hev => ?_)
            have h0 : ev (.tmp 81) = .bool true := hev.1; have h1 : ev (.tmp 7) = .pointer (some ⟨w.heap.size + 1 + 1, 0, none⟩) := hev.2.1
            refine ⟨wanted_of rfl rfl h0, by (clear hev; go_simp), ?_⟩
            obtain ⟨oa, ob, oc, hI⟩ : ∃ oa ob oc, LsbAd w w.heap.size (w.heap.size + 1) (w.heap.size + 1 + 1) oa ob oc (la ++ lb) lb (la ++ lb)  w1 := hI
            refine (lsb_len _ _ _ w1 hI.2.2.1).mono ?_
            rintro e w2 ⟨rfl, rfl⟩
            exact ⟨_, rfl, Ext.refl _, fun d hd => by cases hd; rfl⟩
          · refine Obl.val (.bool true) (fun ev w1 hc hf hg hev => ?_) (fun d hd w1 => by cases hd; rfl)
            have h0 : ev (.tmp 81) = .bool true := hev.1; have h1 : ev (.tmp 82) = .int .i64 (la ++ lb).length := hev.2.1; have h2 : ev (.tmp 83) = .int .i64 (la ++ lb).length := hev.2.2.1
            exact ⟨wanted_of rfl rfl h0, by (clear hev; go_simp)⟩
          · refine Obl.val (.bool true) (fun ev w1 hc hf hg hev => ?_) (fun d hd w1 => by cases hd; rfl)
            have h0 : ev (.tmp 81) = .bool true := hev.1; have h1 : ev (.tmp 84) = .bool true := hev.2.1
            exact ⟨rfl, by (clear hev; go_simp)⟩
          · refine Obl.val (.bool true) (fun ev w1 hc hf hg hev => ?_) (fun d hd w1 => by cases hd; rfl)
            have h0 : ev (.tmp 85) = .bool true := hev.1
            exact ⟨rfl, by (clear hev; go_simp)⟩
          · refine Obl.call 19 #[.pointer (some ⟨w.heap.size, 0, none⟩)] (fun ev w1 hI hc hf hg hev => ?_)
            have h0 : ev (.tmp 86) = .bool true := hev.1; have h1 : ev (.tmp 5) = .pointer (some ⟨w.heap.size, 0, none⟩) := hev.2.1
            refine ⟨wanted_of rfl rfl h0, by (clear hev; go_simp), ?_⟩
            obtain ⟨oa, ob, oc, hI⟩ : ∃ oa ob oc, LsbAd w w.heap.size (w.heap.size + 1) (w.heap.size + 1 + 1) oa ob oc (la ++ lb) lb (la ++ lb)  w1 := hI
            refine (lsb_bytes _ _ _ w1 hI.1 (by first | omega | (rw [List.length_append]; omega))).mono ?_
            rintro e w2 ⟨v, og', rfl, c1, _, c3⟩
            exact ⟨v, rfl, c3, fun d hd => by cases hd; exact c1.view⟩
          · refine Obl.val (.string (strOf (packs false (la ++ lb)))) (fun ev w1 hc hf hg hev => ?_) (fun d hd w1 => by cases hd; rfl)
            have h0 : ev (.tmp 86) = .bool true := hev.1; have h1 : (fun v w => View w v (packs false (la ++ lb))) (ev (.tmp 87)) w1 := hev.2.1
            clear hev
            have hs := run_string_view (P := Try.prog) 23 9 5 h1 Try.underlying23 Try.underlying5 Try.underlying9
            exact ⟨wanted_of rfl rfl h0, by go_simp⟩
          · refine Obl.call 19 #[.pointer (some ⟨w.heap.size + 1 + 1, 0, none⟩)] (fun ev w1 hI hc hf hg hev => ?_)
            have h0 : ev (.tmp 86) = .bool true := hev.1; have h1 : ev (.tmp 7) = .pointer (some ⟨w.heap.size + 1 + 1, 0, none⟩) := hev.2.1
            refine ⟨wanted_of rfl rfl h0, by (clear hev; go_simp), ?_⟩
            obtain ⟨oa, ob, oc, hI⟩ : ∃ oa ob oc, LsbAd w w.heap.size (w.heap.size + 1) (w.heap.size + 1 + 1) oa ob oc (la ++ lb) lb (la ++ lb)  w1 := hI
            refine (lsb_bytes _ _ _ w1 hI.2.2.1 (by first | omega | (rw [List.length_append]; omega))).mono ?_
            rintro e w2 ⟨v, og', rfl, c1, _, c3⟩
            exact ⟨v, rfl, c3, fun d hd => by cases hd; exact c1.view⟩
          · refine Obl.val (.string (strOf (packs false (la ++ lb)))) (fun ev w1 hc hf hg hev => ?_) (fun d hd w1 => by cases hd; rfl)
            have h0 : ev (.tmp 86) = .bool true := hev.1; have h1 : (fun v w => View w v (packs false (la ++ lb))) (ev (.tmp 89)) w1 := hev.2.1
            clear hev
            have hs := run_string_view (P := Try.prog) 23 9 5 h1 Try.underlying23 Try.underlying5 Try.underlying9
            exact ⟨wanted_of rfl rfl h0, by go_simp⟩
          · refine Obl.val (.bool true) (fun ev w1 hc hf hg hev => ?_) (fun d hd w1 => by cases hd; rfl)
            have h0 : ev (.tmp 86) = .bool true := hev.1; have h1 : ev (.tmp 88) = .string (strOf (packs false (la ++ lb))) := hev.2.1; have h2 : ev (.tmp 90) = .string (strOf (packs false (la ++ lb))) := hev.2.2.1
            exact ⟨wanted_of rfl rfl h0, by (clear hev; go_simp)⟩
          · refine Obl.val (.bool true) (fun ev w1 hc hf hg hev => ?_) (fun d hd w1 => by cases hd; rfl)
            have h0 : ev (.tmp 86) = .bool true := hev.1; have h1 : ev (.tmp 91) = .bool true := hev.2.1
            exact ⟨rfl, by (clear hev; go_simp)⟩
          · refine Obl.val (.bool true) (fun ev w1 hc hf hg hev => ?_) (fun d hd w1 => by cases hd; rfl)
            have h0 : ev (.tmp 92) = .bool true := hev.1
            exact ⟨rfl, by (clear hev; go_simp)⟩
          · refine Obl.call 37 #[.pointer (some ⟨w.heap.size + 1, 0, none⟩)] (fun ev w1 hI hc hf hg hev => ?_)
            have h0 : ev (.tmp 93) = .bool true := hev.1; have h1 : ev (.tmp 6) = .pointer (some ⟨w.heap.size + 1, 0, none⟩) := hev.2.1
            refine ⟨wanted_of rfl rfl h0, by (clear hev; go_simp), ?_⟩
            obtain ⟨oa, ob, oc, hI⟩ : ∃ oa ob oc, LsbAd w w.heap.size (w.heap.size + 1) (w.heap.size + 1 + 1) oa ob oc (la ++ lb) lb (la ++ lb)  w1 := hI
            refine (lsb_len _ _ _ w1 hI.2.1).mono ?_
            rintro e w2 ⟨rfl, rfl⟩
            exact ⟨_, rfl, Ext.refl _, fun d hd => by cases hd; rfl⟩
          · refine Obl.val (.int .i64 lb.length) (fun ev w1 hc hf hg hev => ?_) (fun d hd w1 => by cases hd; rfl)
            have h0 : ev (.tmp 93) = .bool true := hev.1; have h1 : ev (.tmp 10) = .int .i64 lb.length := hev.2.1
            exact ⟨wanted_of rfl rfl h0, by (clear hev; go_simp)⟩
          · refine Obl.val (.bool true) (fun ev w1 hc hf hg hev => ?_) (fun d hd w1 => by cases hd; rfl)
            have h0 : ev (.tmp 93) = .bool true := hev.1; have h1 : ev (.tmp 94) = .int .i64 lb.length := hev.2.1; have h2 : ev (.tmp 95) = .int .i64 lb.length := hev.2.2.1
            exact ⟨wanted_of rfl rfl h0, by (clear hev; go_simp)⟩
          · refine Obl.val (.bool true) (fun ev w1 hc hf hg hev => ?_) (fun d hd w1 => by cases hd; rfl)
            have h0 : ev (.tmp 93) = .bool true := hev.1; have h1 : ev (.tmp 96) = .bool true := hev.2.1
            exact ⟨rfl, by (clear hev; go_simp)⟩
          · refine Obl.val (.bool true) (fun ev w1 hc hf hg hev => ?_) (fun d hd w1 => by cases hd; rfl)
            have h0 : ev (.tmp 97) = .bool true := hev.1
            exact ⟨rfl, by (clear hev; go_simp)⟩
          · refine Obl.call 19 #[.pointer (some ⟨w.heap.size + 1, 0, none⟩)] (fun ev w1 hI hc hf hg hev => ?_)
            have h0 : ev (.tmp 98) = .bool true := hev.1; have h1 : ev (.tmp 6) = .pointer (some ⟨w.heap.size + 1, 0, none⟩) := hev.2.1
            refine ⟨wanted_of rfl rfl h0, by (clear hev; go_simp), ?_⟩
            obtain ⟨oa, ob, oc, hI⟩ : ∃ oa ob oc, LsbAd w w.heap.size (w.heap.size + 1) (w.heap.size + 1 + 1) oa ob oc (la ++ lb) lb (la ++ lb)  w1 := hI
            refine (lsb_bytes _ _ _ w1 hI.2.1 (by first | omega | (rw [List.length_append]; omega))).mono ?_
            rintro e w2 ⟨v, og', rfl, c1, _, c3⟩
            exact ⟨v, rfl, c3, fun d hd => by cases hd; exact c1.view⟩
          · refine Obl.val (.string (strOf (packs false lb))) (fun ev w1 hc hf hg hev => ?_) (fun d hd w1 => by cases hd; rfl)
            have h0 : ev (.tmp 98) = .bool true := hev.1; have h1 : (fun v w => View w v (packs false lb)) (ev (.tmp 99)) w1 := hev.2.1
            clear hev
            have hs := run_string_view (P := Try.prog) 23 9 5 h1 Try.underlying23 Try.underlying5 Try.underlying9
            exact ⟨wanted_of rfl rfl h0, by go_simp⟩
          · refine Obl.val (.string (strOf (packs false lb))) (fun ev w1 hc hf hg hev => ?_) (fun d hd w1 => by cases hd; rfl)
            have h0 : ev (.tmp 98) = .bool true := hev.1; have h1 : ev (.tmp 11) = .string (strOf (packs false lb)) := hev.2.1
            exact ⟨wanted_of rfl rfl h0, by (clear hev; go_simp)⟩
          · refine Obl.val (.bool true) (fun ev w1 hc hf hg hev => ?_) (fun d hd w1 => by cases hd; rfl)
            have h0 : ev (.tmp 98) = .bool true := hev.1; have h1 : ev (.tmp 100) = .string (strOf (packs false lb)) := hev.2.1; have h2 : ev (.tmp 101) = .string (strOf (packs false lb)) := hev.2.2.1
            exact ⟨wanted_of rfl rfl h0, by (clear hev; go_simp)⟩
          · refine Obl.val (.bool true) (fun ev w1 hc hf hg hev => ?_) (fun d hd w1 => by cases hd; rfl)
            have h0 : ev (.tmp 98) = .bool true := hev.1; have h1 : ev (.tmp 102) = .bool true := hev.2.1
            exact ⟨rfl, by (clear hev; go_simp)⟩
          · refine Obl.val (.bool true) (fun ev w1 hc hf hg hev => ?_) (fun d hd w1 => by cases hd; rfl)
            have h0 : ev (.tmp 103) = .bool true := hev.1
            exact ⟨rfl, by (clear hev; go_simp)⟩
          · refine Obl.call 21 #[] (fun ev w1 hI hc hf hg hev => ?_)
            have h0 : ev (.tmp 104) = .bool true := hev.1
            refine ⟨wanted_of rfl rfl h0, by (clear hev; go_simp), ?_⟩
            refine (lsb_lays w1).mono ?_
            rintro e w2 ⟨rfl, c3⟩
            exact ⟨_, rfl, c3, fun d hd => by cases hd; rfl⟩
          · refine Obl.val (.bool true) (fun ev w1 hc hf hg hev => ?_) (fun d hd w1 => by cases hd; rfl)
            have h0 : ev (.tmp 104) = .bool true := hev.1; have h1 : ev (.tmp 105) = .bool true := hev.2.1
            exact ⟨rfl, by (clear hev; go_simp)⟩
          · refine Obl.val (.bool true) (fun ev w1 hc hf hg hev => ?_) (fun d hd w1 => by cases hd; rfl)
            have h0 : ev (.tmp 106) = .bool true := hev.1
            exact ⟨rfl, by (clear hev; go_simp)⟩
          case fin =>
            intro vs w5 he5 hf
            have e79 : vs 79 = .int .i64 0 := hf 79 (by decide)
            have e80 : vs 80 = .bool true := hf 80 (by decide)
            have e81 : vs 81 = .bool true := hf 81 (by decide)
            have e82 : vs 82 = .int .i64 (la ++ lb).length := hf 82 (by decide)
            have e83 : vs 83 = .int .i64 (la ++ lb).length := hf 83 (by decide)
            have e84 : vs 84 = .bool true := hf 84 (by decide)
            have e85 : vs 85 = .bool true := hf 85 (by decide)
            have e86 : vs 86 = .bool true := hf 86 (by decide)
            have e88 : vs 88 = .string (strOf (packs false (la ++ lb))) := hf 88 (by decide)
            have e90 : vs 90 = .string (strOf (packs false (la ++ lb))) := hf 90 (by decide)
            have e91 : vs 91 = .bool true := hf 91 (by decide)
            have e92 : vs 92 = .bool true := hf 92 (by decide)
            have e93 : vs 93 = .bool true := hf 93 (by decide)
            have e94 : vs 94 = .int .i64 lb.length := hf 94 (by decide)
            have e95 : vs 95 = .int .i64 lb.length := hf 95 (by decide)
            have e96 : vs 96 = .bool true := hf 96 (by decide)
            have e97 : vs 97 = .bool true := hf 97 (by decide)
            have e98 : vs 98 = .bool true := hf 98 (by decide)
            have e100 : vs 100 = .string (strOf (packs false lb)) := hf 100 (by decide)
            have e101 : vs 101 = .string (strOf (packs false lb)) := hf 101 (by decide)
            have e102 : vs 102 = .bool true := hf 102 (by decide)
            have e103 : vs 103 = .bool true := hf 103 (by decide)
            have e104 : vs 104 = .bool true := hf 104 (by decide)
            have e105 : vs 105 = .bool true := hf 105 (by decide)
            have e106 : vs 106 = .bool true := hf 106 (by decide)
            have e4 : vs 4 = .bool true := hf 4 (by decide)
            simp only [List.foldl_cons, List.foldl_nil]
            rw [e79, e80, e81, e82, e83, e84, e85, e86, e88, e90, e91, e92, e93, e94, e95, e96, e97, e98, e100, e101, e102, e103, e104, e105, e106, e4]
            generalize vs 87 = u87
            generalize vs 89 = u89
            generalize vs 99 = u99
            simp only [Act.put, List.setIfInBounds_toArray, List.set_cons_succ, List.set_cons_zero]
            clear hf e79 e80 e81 e82 e83 e84 e85 e86 e88 e90 e91 e92 e93 e94 e95 e96 e97 e98 e100 e101 e102 e103 e104 e105 e106 e4
            obtain ⟨oa5, ob5, oc5, h5⟩ := he5
            have LAST := Lib.hid h5.2.2.2.2.2.2.2.2.2
            clear h5 hea heb
-- LAST END
            go_wp2_with fail
            go_ret
            exact ⟨rfl, LAST.out⟩
theorem lsb_adds_long (lv mv : Value) (l m : List ActV) (w : World) (hlv : ViewA w lv l) (hmv : ViewA w mv m) (hl : l.length ≤ maxLen) (hm : m.length ≤ maxLen) (hbl : 60 < l.length ∨ 60 < m.length) :
    Calls Try.prog 9 #[lv, mv] w fun e w' => e = .returned (.bool true) ∧ Ext w w' := by
  obtain ⟨lo, lcap, rfl, _⟩ := hlv
  obtain ⟨mo, mcap, rfl, _⟩ := hmv
  unfold maxLen at hl hm
  by_cases h : 60 < l.length
  · have h1 : (60 : Int) < (l.length : Int) := by omega
    clear hbl
    go_enter Try.func9, Try.ntmps9
    go_wp2_with fail
    go_ret
    exact ⟨rfl, Ext.refl _⟩
  · have h1 : ¬ (60 : Int) < (l.length : Int) := by omega
    have h2 : (60 : Int) < (m.length : Int) := by omega
    clear hbl
    go_enter Try.func9, Try.ntmps9
    go_wp2_with fail
    go_ret
    exact ⟨rfl, Ext.refl _⟩
theorem lsb_adds (lv : Value) (l : List ActV) (mv : Value) (m : List ActV) (w : World) (hlv : ViewA w lv l) (hl : l.length ≤ maxLen) (hmv : ViewA w mv m) (hm : m.length ≤ maxLen) :
    Calls Try.prog 9 #[lv, mv] w fun e w' => e = .returned (.bool true) ∧ Ext w w' := by
  by_cases h : 60 < l.length ∨ 60 < m.length
  · exact lsb_adds_long lv mv l m w hlv hmv hl hm h
  · exact lsb_adds_some lv mv l m w hlv hmv (by omega) (by omega)
end Go.Proofs.Ytnmibfdpaamlgaa
