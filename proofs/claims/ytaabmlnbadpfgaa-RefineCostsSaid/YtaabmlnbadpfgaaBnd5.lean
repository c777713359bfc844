/- tables.PutLengths, Size: their walks. tables.Size; pressworkref24.May: their walks. tables.mover and its closure: their walks. slices.Min, Max, Index of ints; pressworkref22.Same, pressworkref24.MaySelect: their walks. tables.PutSelectors: its walk. tables.PutSelectors, refused: its walk; and whatever it is handed. -/
import Derived.Test.YtaabmlnbadpfgaaBnd4
import Derived.StillTailTactics
import Derived.Laws.CopyRow
import Derived.Test.YtaabmlnbadpfgaaMem
import Derived.BigQuiet
import Derived.Test.YtaabmlnbadpfgaaTabMin
import Derived.Test.YtaabmlnbadpfgaaInts
/-! tables.PutLengths, Size: their walks. -/
namespace Go.Proofs.Ytaabmlnbadpfgaa
open Go.RowKit
set_option linter.unusedVariables false

theorem bits_up : bitsOf true 2 2 = [true, false] := by decide
theorem bits_down : bitsOf true 3 2 = [true, true] := by decide
theorem bits_end : bitsOf true 0 1 = [false] := by decide
theorem tab_put_nil (v : Value) (w : World) : Calls Try.prog 45 #[.pointer none, v] w fun e w' => e = .returned (.int .i64 8) ∧ w = w' := by
  go_enter Try.func45, Try.ntmps45
  go_wp2_with fail
  go_ret
  exact ⟨rfl, rfl⟩
set_option maxHeartbeats 4000000 in
set_option maxRecDepth 100000 in
theorem tab_put (B : Nat) (og : Option Nat) (l : List Bool) (v : Value) (bs : List Nat) (w : World) (hw : IsW 46 true w B og l) (hv : ViewL w v (u8s bs)) (hd : 0 < bs.length → ∀ b o n cap, v = .slice (some ⟨b, o, none⟩) n cap → ¬ FP B og b) (hl : l.length ≤ 2 ^ 20) (hbl : bs.length ≤ 2 ^ 40) :
    Calls Try.prog 45 #[.pointer (some ⟨B, 0, none⟩), v] w fun e w' => (e = .returned (.int .i64 0) ∧ MayP bs ∧ WPost 46 true w B og (l ++ lenBits bs) w') ∨ (e = .returned (.int .i64 5) ∧ ¬ MayP bs ∧ w = w') := by
  obtain ⟨ao, cap, rfl⟩ := hv.shape
  rw [length_u8s] at *
  have HW := Lib.hid hw
  have HV := Lib.hid hv
  have HD := Lib.hid hd
  clear hw hv hd
  go_enter Try.func45, Try.ntmps45
  go_wp2_with fail
  refine (tab_may _ bs _ HV.out hbl).mono ?_
  rintro e w' ⟨(⟨rfl, hm⟩ | ⟨rfl, hm⟩), rfl⟩
  · obtain ⟨m1, m2, m3⟩ := hm
    have HM := Lib.hid (show MayP bs from ⟨m1, m2, m3⟩)
    have hat := atK_le bs m3
    have hll := lenTo_len bs m3
    have HC : Hid (∀ wr l', WPost 46 true w B og l' wr → ∃ b o, ao = some ⟨b, o, none⟩ ∧ ∀ (k x : Nat), bs[k]? = some x → wr.cell? ⟨b, o + k, none⟩ = some (.int .u8 x)) := Lib.hid (fun wr l' h => by
      obtain ⟨og', h1, h2, h3⟩ := h
      obtain ⟨b, o, e, _, hc⟩ := viewL_cells (HV.out.keep h3 (fun b o n c e => HD.out (by omega) b o n c e)) (by rw [length_u8s]; omega)
      exact ⟨b, o, e, fun k x hx => hc k (.int .u8 x) (by simp [u8s, hx])⟩)
    obtain ⟨b, o, rfl, hc⟩ := HC.out w l (WPost.refl HW.out)
    obtain ⟨x, hx⟩ : ∃ x, bs[0]? = some x := ⟨_, List.getElem?_eq_getElem (by omega)⟩
    have c0 := hc 0 x hx
    rw [Nat.add_zero] at c0
    have hx20 := m3 x (List.mem_of_getElem? hx)
    have hxd : bs.getD 0 0 = x := by simp [List.getD, hx]
    have h0i : (0 : Int) < (bs.length : Int) := by omega
    have HXD := Lib.hid hxd
    have HAT := Lib.hid hat
    have HLL := Lib.hid hll
    have HM3 := Lib.hid m3
    clear hc hx hxd hat hll m3
    go_wp2_with fail
    refine (msb_put_ok B x 5 og l _ HW.out (by omega) (by decide) (by omega) (by omega)).mono ?_
    rintro e w1 ⟨rfl, p1⟩
    have HP1 := Lib.hid p1
    clear p1 c0
    go_wp2_with fail
    go_loopw [5, 24] (fun atv iv wr => ∃ k : Nat, iv = .int .i64 k ∧ atv = .int .u8 (atK bs k) ∧ k ≤ bs.length ∧ WPost 46 true w B og (l ++ lenTo bs k) wr) (fun _ iv _ => bs.length - (intOf iv).toNat)
    case atStart => exact ⟨0, rfl, by rw [atK, if_pos rfl, HXD.out], Nat.zero_le _, by rw [lenTo, HXD.out]; exact HP1.out⟩
    case round =>
      obtain ⟨k, rfl, rfl, hk, hp⟩ := hrel
      have HP := Lib.hid hp
      clear hp
      by_cases hlt : k < bs.length
      · have hlti : (k : Int) < (bs.length : Int) := by omega
        obtain ⟨n, hn⟩ : ∃ n, bs[k]? = some n := ⟨_, List.getElem?_eq_getElem hlt⟩
        obtain ⟨b', o', e', hc⟩ := HC.out _ _ HP.out
        cases e'
        have c1 := hc k n hn
        have hn20 := HM3.out n (List.mem_of_getElem? hn)
        have ha20 := HAT.out k
        have hll := HLL.out k
        have hnd : bs.getD k 0 = n := by simp [List.getD, hn]
        have hst : lenTo bs (k + 1) = lenTo bs k ++ (upB (n - atK bs k) ++ (downB (atK bs k - n) ++ [false])) := by rw [lenTo, hnd]
        have hak : atK bs (k + 1) = n := by rw [atK, if_neg (by omega), Nat.add_sub_cancel, hnd]
        generalize atK bs k = a at *
        generalize lenTo bs k = L at *
        have HST := Lib.hid hst
        have HAK := Lib.hid hak
        clear hc hn hnd hst hak
        go_wp2_with fail
        clear c1
        go_loopw [5] (fun atv wr => ∃ x : Nat, atv = .int .u8 x ∧ a ≤ x ∧ (x ≤ n ∨ x = a) ∧ WPost 46 true w B og (l ++ (L ++ upB (x - a))) wr) (fun atv _ => 300 - (intOf atv).toNat)
        case atStart => exact ⟨a, rfl, Nat.le_refl _, Or.inr rfl, by rw [Nat.sub_self]; simpa [upB] using HP.out⟩
        case round =>
          obtain ⟨x, rfl, hax, hxn, og2, p2, n2, t2⟩ := hrel
          have HP2 := Lib.hid p2
          have HN2 := Lib.hid n2
          have HT2 := Lib.hid t2
          clear p2 n2 t2
          by_cases hc2 : x < n
          · have hci : (x : Int) < (n : Int) := by omega
            have k1 : IntKind.u8.wrap ((x : Int) + 1) = (x : Int) + 1 := IntWalk.u8_in _ (by omega)
            have hul := upB_len (x - a)
            go_wp2_with fail
            refine (msb_put_ok B 2 2 og2 _ _ HP2.out (by simp only [List.length_append]; omega) (by decide) (by decide) (by decide)).mono ?_
            rw [bits_up]
            rintro e w3 ⟨rfl, p3⟩
            have HP3 := Lib.hid (WPost.step HN2.out HT2.out p3)
            clear p3
            go_wp2_with fail
            go_roundw
            case rel => exact ⟨x + 1, by go_num, by omega, Or.inl (by omega), by rw [show x + 1 - a = (x - a) + 1 by omega, upB_succ]; have := HP3.out; simpa [List.append_assoc] using this⟩
            case measure => simp [intOf]; omega
          · have hci : ¬ (x : Int) < (n : Int) := by omega
            have hxa : x - a = n - a := by omega
            rw [hxa] at HP2
            have HQ := Lib.hid (show WPost 46 true w B og (l ++ (L ++ upB (n - a))) _ from ⟨og2, HP2.out, HN2.out, HT2.out⟩)
            have hxm : x - n = a - n := by omega
            clear HP2 HN2 HT2 hxa
            go_wp2_with fail
            go_loopw [5] (fun atv wr => ∃ y : Nat, atv = .int .u8 y ∧ n ≤ y ∧ y ≤ x ∧ WPost 46 true w B og (l ++ (L ++ (upB (n - a) ++ downB (x - y)))) wr) (fun atv _ => (intOf atv).toNat)
            case atStart => exact ⟨x, rfl, by omega, Nat.le_refl _, by rw [Nat.sub_self]; simpa [downB] using HQ.out⟩
            case round =>
              obtain ⟨y, rfl, hny, hyx, og3, p3, n3, t3⟩ := hrel
              have HP3 := Lib.hid p3
              have HN3 := Lib.hid n3
              have HT3 := Lib.hid t3
              clear p3 n3 t3
              have hul := upB_len (n - a)
              have hdl := downB_len (x - y)
              by_cases hc3 : n < y
              · have hci3 : (n : Int) < (y : Int) := by omega
                have k1 : IntKind.u8.wrap ((y : Int) - 1) = (y : Int) - 1 := IntWalk.u8_in _ (by omega)
                go_wp2_with fail
                refine (msb_put_ok B 3 2 og3 _ _ HP3.out (by simp only [List.length_append]; omega) (by decide) (by decide) (by decide)).mono ?_
                rw [bits_down]
                rintro e w4 ⟨rfl, p4⟩
                have HP4 := Lib.hid (WPost.step HN3.out HT3.out p4)
                clear p4
                go_wp2_with fail
                go_roundw
                case rel => exact ⟨y - 1, by congr 1; omega, by omega, by omega, by rw [show x - (y - 1) = (x - y) + 1 by omega, downB_succ]; have := HP4.out; simpa [List.append_assoc] using this⟩
                case measure => simp [intOf]; omega
              · have hci3 : ¬ (n : Int) < (y : Int) := by omega
                obtain rfl : n = y := by omega
                go_wp2_with fail
                refine (msb_put_ok B 0 1 og3 _ _ HP3.out (by simp only [List.length_append]; omega) (by decide) (by decide) (by decide)).mono ?_
                rw [bits_end, hxm]
                rintro e w4 ⟨rfl, p4⟩
                have HP4 := Lib.hid (WPost.step HN3.out HT3.out p4)
                clear p4
                go_wp2_with fail
                go_roundw
                case rel => exact ⟨k + 1, by go_num, by rw [HAK.out], by omega, by rw [HST.out]; have := HP4.out; simpa [List.append_assoc] using this⟩
                case measure => simp [intOf]; omega
      · obtain rfl : k = bs.length := by omega
        go_wp2_with fail
        go_ret
        exact Or.inl ⟨rfl, HM.out, HP.out⟩
  · have HM := Lib.hid hm
    clear hm
    go_wp2_with fail
    go_ret
    exact Or.inr ⟨rfl, HM.out, rfl⟩
end Go.Proofs.Ytaabmlnbadpfgaa

/-! tables.Size; pressworkref24.May: their walks. -/
namespace Go.Proofs.Ytaabmlnbadpfgaa
open Go.RowKit
set_option linter.unusedVariables false

theorem lenBits_len (bs : List Nat) (h : MayP bs) : (lenBits bs).length ≤ 30000 := by
  have := lenTo_len bs h.2.2 bs.length
  have h2 := h.2.1
  rw [lenBits]; omega
theorem tab_size (v : Value) (bs : List Nat) (w : World) (hv : ViewL w v (u8s bs)) (hbl : bs.length ≤ 2 ^ 40) :
    Calls Try.prog 22 #[v] w fun e w' => ((e = .returned (.int .i64 (lenBits bs).length) ∧ MayP bs) ∨ (e = .returned (.int .i64 0) ∧ ¬ MayP bs)) ∧ Ext w w' := by
  obtain ⟨ao, cap, rfl⟩ := hv.shape
  rw [length_u8s] at *
  have x0 : Ext w (w.alloc (.cells #[.slice none 0 0, .int .i64 0] 46)) := (Ext.refl w).alloc _
  have X0 := Lib.hid x0
  have HP := tab_put w.heap.size none [] _ bs _ (pick_zero w) (hv.ext x0) (fun h0 b o n c e h => by have := view_block hv h0 b o n c e; rcases h with h | h; omega; cases h) (by decide) hbl
  clear hv x0
  go_enter Try.func22, Try.ntmps22
  go_wp2_with fail
  refine HP.mono ?_
  clear HP
  rintro e w1 (⟨rfl, hm, og1, p1, n1, t1⟩ | ⟨rfl, hm, rfl⟩)
  · rw [List.nil_append] at p1
    have HX := Lib.hid (X0.out.touch t1 (fun i hi h => fp_new w none (Near.refl _ _) i hi h))
    have HP1 := Lib.hid p1
    have HM := Lib.hid hm
    clear p1 n1 t1 hm
    go_wp2_with fail
    refine (msb_len w.heap.size og1 _ _ HP1.out).mono ?_
    rintro e w2 ⟨rfl, rfl⟩
    go_wp2_with fail
    go_ret
    exact ⟨Or.inl ⟨rfl, HM.out⟩, HX.out⟩
  · have HM := Lib.hid hm
    clear hm
    go_wp2_with fail
    refine (msb_len w.heap.size none [] _ (pick_zero w)).mono ?_
    rintro e w2 ⟨rfl, rfl⟩
    go_wp2_with fail
    go_ret
    exact ⟨Or.inr ⟨rfl, HM.out⟩, X0.out⟩
end Go.Proofs.Ytaabmlnbadpfgaa

/-! tables.mover and its closure: their walks. -/
namespace Go.Proofs.Ytaabmlnbadpfgaa
open Go.RowKit
set_option linter.unusedVariables false

def i64s (l : List Nat) : List Value := l.map fun (b : Nat) => Value.int .i64 b
theorem length_i64s (l : List Nat) : (i64s l).length = l.length := by simp [i64s]
theorem i64s_append (l m : List Nat) : i64s (l ++ m) = i64s l ++ i64s m := by simp [i64s]
theorem i64s_one (l : List Nat) : ∀ u ∈ i64s l, u.oneCell' = true := by
  intro u hu
  obtain ⟨b, _, rfl⟩ := List.mem_map.1 hu
  rfl
theorem getElem?_i64s (l : List Nat) (i : Nat) (h : i < l.length) : (i64s l)[i]? = some (.int .i64 (l.getD i 0 : Nat)) := by
  simp [i64s, List.getD, List.getElem?_eq_getElem h]
/-- a mover's list: its variable in block C, its array in block A. -/
def IsM (w : World) (C A : Nat) (l : List Nat) : Prop :=
  w.heap[C]? = some (.cells #[.pointer (some ⟨A, 0, none⟩)] 72 (0, 0)) ∧ w.heap[A]? = some (.cells (i64s l).toArray 87 (0, 0)) ∧ l.length = 6 ∧ A ≠ C
theorem IsM.keep {S : Nat → Prop} {w w' : World} {C A : Nat} {l : List Nat} (h : IsM w C A l) (ht : Touch S w w') (hC : ¬ S C) (hA : ¬ S A) : IsM w' C A l := ⟨ht.keep h.1 hC, ht.keep h.2.1 hA, h.2.2⟩
theorem IsM.lt {w : World} {C A : Nat} {l : List Nat} (h : IsM w C A l) : C < w.heap.size ∧ A < w.heap.size := ⟨block_lt h.1, block_lt h.2.1⟩
theorem IsM.cell {w : World} {C A : Nat} {l : List Nat} (h : IsM w C A l) (k : Nat) (hk : k < 6) : w.cell? ⟨A, k, none⟩ = some (.int .i64 (l.getD k 0 : Nat)) := by
  have := getElem?_i64s l k (by rw [h.2.2.1]; exact hk)
  rw [World.cell?, h.2.1]; simpa using this
set_option maxRecDepth 100000 in
theorem tab_mover (w : World) : Calls Try.prog 43 #[] w fun e w' => ∃ C A, e = .returned (.tuple #[.pointer (some ⟨A, 0, none⟩), .func (.func 55) #[] #[.pointer (some ⟨C, 0, none⟩)]]) ∧ IsM w' C A lst0 ∧ Ext w w' ∧ w.heap.size ≤ C ∧ w.heap.size ≤ A := by
  have hmf : ∀ (fn : Fn) (first cap : Array Value) (w : World), (Instr.makeFunc fn first cap).run Try.prog w = .ok (.func fn first cap) w := fun _ _ _ _ => rfl
  have HC := heap_alloc_new w (.cells #[.pointer (some ⟨w.heap.size + 1, 0, none⟩)] 72)
  have x1 : Ext w (w.alloc (.cells #[.pointer (some ⟨w.heap.size + 1, 0, none⟩)] 72)) := (Ext.refl w).alloc _
  have HA := heap_alloc_new (w.alloc (.cells #[.pointer (some ⟨w.heap.size + 1, 0, none⟩)] 72)) (.cells #[.int .i64 0, .int .i64 1, .int .i64 2, .int .i64 3, .int .i64 4, .int .i64 5] 87)
  rw [World.size_alloc] at HA
  have HM := Lib.hid (show IsM _ w.heap.size (w.heap.size + 1) lst0 from ⟨(Below.heap_alloc _ (.cells #[.int .i64 0, .int .i64 1, .int .i64 2, .int .i64 3, .int .i64 4, .int .i64 5] 87) _ (by rw [World.size_alloc]; omega)).trans HC, HA, rfl, by omega⟩)
  clear HC HA
  go_enter Try.func43, Try.ntmps43
  go_wp2_with fail
  refine bodyPost_ret (v := .tuple #[.pointer (some ⟨w.heap.size + 1, 0, none⟩), .func (.func 55) #[] #[.pointer (some ⟨w.heap.size, 0, none⟩)]]) ?_ rfl ⟨w.heap.size, w.heap.size + 1, rfl, HM.out, x1.alloc _, Nat.le_refl _, by omega⟩
  have hc : ((w.alloc (.cells #[.pointer (some ⟨w.heap.size + 1, 0, none⟩)] 72)).alloc (.cells #[.int .i64 0, .int .i64 1, .int .i64 2, .int .i64 3, .int .i64 4, .int .i64 5] 87)).cell? ⟨w.heap.size, 0, none⟩ = some (.pointer (some ⟨w.heap.size + 1, 0, none⟩)) := by rw [World.cell?, HM.out.1]; rfl
  simp [results, Try.results43, go_sem, hc]
set_option maxRecDepth 100000 in
theorem tab_at (C A k : Nat) (l : List Nat) (w : World) (h : IsM w C A l) (hk : k < 6) : Calls Try.prog 55 #[.int .i64 k, .pointer (some ⟨C, 0, none⟩)] w fun e w' => e = .returned (.int .i64 (l.getD k 0 : Nat)) ∧ IsM w' C A (mtf l k) ∧ Touch (fun b => b = A) w w' := by
  have hal : Try.prog.arrayLen 87 = 6 := by kernel_rfl
  have hcC : w.cell? ⟨C, 0, none⟩ = some (.pointer (some ⟨A, 0, none⟩)) := by rw [World.cell?, h.1]; rfl
  have hck := h.cell k hk
  obtain ⟨y, hy⟩ : ∃ y, y = l.getD k 0 := ⟨_, rfl⟩
  rw [← hy] at hck ⊢
  have k1 : (k : Int) < 6 := by omega
  have k2 : (1 : Int) ≤ (k : Int) + 1 := by omega
  have k3 : (k : Int) + 1 ≤ 6 := by omega
  have k4 : (k : Int) ≤ 6 := by omega
  have k5 : IntKind.i64.wrap ((k : Int) + 1) = (k : Int) + 1 := IntWalk.i64_in _ (by omega)
  have HM := Lib.hid h
  have HY := Lib.hid hy
  have hcp : (Builtin.copy_ #[23, 23] 3 #[.slice (some ⟨A, 1, none⟩) k 5, .slice (some ⟨A, 0, none⟩) k 6]).run Try.prog w.drew = .ok (goInt (i64s (l.take k)).length) (w.drew.setRow A ((i64s l).toArray.toList.take 1 ++ i64s (l.take k) ++ (i64s l).toArray.toList.drop (1 + (i64s (l.take k)).length)).toArray) := by
    refine run_copy_row (P := Try.prog) w.drew 23 23 3 3 A 1 k 5 ⟨A, 0, none⟩ k 6 _ 87 (i64s (l.take k)) Try.underlying23 (by kernel_rfl) h.2.1 ?_ ?_ ?_ (i64s_one _)
    · rw [length_i64s, List.length_take, h.2.2.1]; show min k 6 = min k k; omega
    · intro j v hj
      have hjk : j < k := by have := (List.getElem?_eq_some_iff.1 hj).1; rw [length_i64s, List.length_take] at this; omega
      rw [show (⟨A, 0, none⟩ : Addr).add j = ⟨A, j, none⟩ by unfold Addr.add; split <;> simp_all]
      rw [show w.drew.cell? ⟨A, j, none⟩ = w.cell? ⟨A, j, none⟩ from rfl, h.cell j (by omega), ← hj]
      simp [i64s, hjk, List.getD, show j < l.length by have := h.2.2.1; omega]
    · rw [length_i64s, List.length_take, List.size_toArray, length_i64s, h.2.2.1]; omega
  obtain ⟨w2, m, hcp2, hC2, hA2, t2⟩ : ∃ w2 m, (Builtin.copy_ #[23, 23] 3 #[.slice (some ⟨A, 1, none⟩) k 5, .slice (some ⟨A, 0, none⟩) k 6]).run Try.prog w.drew = .ok (.int .i64 m) w2 ∧ w2.heap[C]? = some (.cells #[.pointer (some ⟨A, 0, none⟩)] 72 (0, 0)) ∧
      w2.heap[A]? = some (.cells (i64s (l.take 1 ++ l.take k ++ l.drop (1 + k))).toArray 87 (0, 0)) ∧ Touch (fun b => b = A) w w2 := by
    refine ⟨_, _, hcp, ?_, ?_, ?_⟩
    · rw [setRow_other _ _ _ _ h.2.2.2.symm]; exact h.1
    · have e := setRow_heap w.drew A _ ((i64s l).toArray.toList.take 1 ++ i64s (l.take k) ++ (i64s l).toArray.toList.drop (1 + (i64s (l.take k)).length)).toArray _ _ h.2.1
      rw [e]
      have hl : (i64s (l.take k)).length = k := by rw [length_i64s, List.length_take, h.2.2.1]; omega
      rw [hl]
      simp [i64s]
    · exact ⟨rfl, rfl, rfl, by simp, fun b hb hn => setRow_other _ _ _ _ hn⟩
  have hcC2 : w2.cell? ⟨C, 0, none⟩ = some (.pointer (some ⟨A, 0, none⟩)) := by rw [World.cell?, hC2]; rfl
  have h6 := h.2.2.1
  have hA0 : ∃ u, w2.cell? ⟨A, 0, none⟩ = some u := by
    rw [World.cell?, hA2]
    cases l with
    | nil => simp at h6
    | cons x r => exact ⟨.int .i64 x, by simp [i64s]⟩
  obtain ⟨u0, hu0⟩ := hA0
  have hf0 : w2.frozen? ⟨A, 0, none⟩ = false := by simp [World.frozen?, hA2]
  have HFIN := Lib.hid (show IsM (w2.setCell ⟨A, 0, none⟩ (.int .i64 y)) C A (mtf l k) ∧ Touch (fun b => b = A) w (w2.setCell ⟨A, 0, none⟩ (.int .i64 y)) from by
    refine ⟨⟨by rw [heap_setCell_ne h.2.2.2.symm]; exact hC2, ?_, by rw [(mtf_perm l k (by omega)).length_eq, h6], h.2.2.2⟩, t2.setCell (Or.inl rfl) _⟩
    rw [heap_setCell_at hA2 rfl, mtf, ← hy]
    congr 1
    cases l with
    | nil => simp at h6
    | cons x r => simp [i64s, Nat.add_comm])
  clear h hy hcp hC2 hA2 t2 h6
  go_enter Try.func55, Try.ntmps55
  go_wp2_with fail
  go_still_tail 9, (by kernel_rfl)
  clear k1 k2 k3 k4 k5
  change wpList _ _ _ _ _ w.drew
  generalize w.drew = wd at hcp2 ⊢
  go_wp2_with fail
  go_ret
  exact ⟨rfl, HFIN.out.1, HFIN.out.2⟩
end Go.Proofs.Ytaabmlnbadpfgaa

/-! slices.Min, Max, Index of ints; pressworkref22.Same, pressworkref24.MaySelect: their walks. -/
namespace Go.Proofs.Ytaabmlnbadpfgaa
open Go.RowKit
set_option linter.unusedVariables false

theorem i64s_ints (l : List Nat) : i64s l = ints (l.map fun (b : Nat) => (b : Int)) := by simp [i64s, ints]
set_option maxHeartbeats 1000000 in
theorem tab_imin (v : Value) (bs : List Int) (w : World) (hv : ViewL w v (ints bs)) (h0 : 0 < bs.length) (hl : bs.length ≤ 2 ^ 40) :
    Calls Try.prog 40 #[v] w fun e w' => ∃ m : Int, e = .returned (.int .i64 m) ∧ m ∈ bs ∧ (∀ b ∈ bs, m ≤ b) ∧ w = w' := by
  obtain ⟨ao, cap, rfl⟩ := hv.shape
  rw [length_ints] at *
  have HV := Lib.hid hv
  obtain ⟨b, o, rfl, _, hc⟩ := viewL_cells hv (by rw [length_ints]; omega)
  obtain ⟨x, hx⟩ : ∃ x, bs[0]? = some x := ⟨_, List.getElem?_eq_getElem h0⟩
  have c0 := hc 0 (.int .i64 x) (by simp [ints, hx])
  have h1 : ¬ (bs.length : Int) < 1 := by omega
  have h2 : (0 : Int) < (bs.length : Int) := by omega
  have HC := Lib.hid hc
  have HX := Lib.hid hx
  rw [Nat.add_zero] at c0
  clear hv hc hx
  go_enter Try.func40, Try.ntmps40
  go_wp2_with fail
  clear c0
  go_loopw [3, 4] (fun mv iv wr => ∃ (k : Nat) (m : Int), iv = .int .i64 k ∧ mv = .int .i64 m ∧ 1 ≤ k ∧ k ≤ bs.length ∧ m ∈ bs ∧ (∀ i b, i < k → bs[i]? = some b → m ≤ b) ∧ wr = w) (fun _ iv _ => bs.length - (intOf iv).toNat)
  case atStart => exact ⟨1, x, rfl, rfl, Nat.le_refl _, by omega, List.mem_of_getElem? HX.out, fun i b hi hb => by rw [show i = 0 by omega, HX.out] at hb; cases hb; exact Int.le_refl _, rfl⟩
  case round =>
    obtain ⟨k, m, rfl, rfl, hk1, hk, hmem, hall, hwr⟩ := hrel
    obtain rfl : w = wr := hwr.symm
    have HALL := Lib.hid hall
    have HMEM := Lib.hid hmem
    clear hall hmem
    by_cases hlt : k < bs.length
    · have hlti : (k : Int) < (bs.length : Int) := by omega
      obtain ⟨y, hy⟩ : ∃ y, bs[k]? = some y := ⟨_, List.getElem?_eq_getElem hlt⟩
      have c1 := HC.out k (.int .i64 y) (by simp [ints, hy])
      have HY := Lib.hid hy
      clear hy
      by_cases hmy : m ≤ y
      · have hmyi : m ≤ y := by omega
        go_wp2_with fail
        go_roundw
        case rel => exact ⟨k + 1, m, by go_num, rfl, by omega, by omega, HMEM.out, fun i b hi hb => by
          by_cases h : i < k
          · have := HALL.out i b h hb; omega
          · rw [show i = k by omega, HY.out] at hb; cases hb; omega, trivial⟩
        case measure => simp [intOf]; omega
      · have hmyi : y < m := by omega
        go_wp2_with fail
        go_roundw
        case rel => exact ⟨k + 1, y, by go_num, rfl, by omega, by omega, List.mem_of_getElem? HY.out, fun i b hi hb => by
          by_cases h : i < k
          · have := HALL.out i b h hb; omega
          · rw [show i = k by omega, HY.out] at hb; cases hb; omega, trivial⟩
        case measure => simp [intOf]; omega
    · obtain rfl : k = bs.length := by omega
      go_wp2_with fail
      go_ret
      exact ⟨m, rfl, HMEM.out, fun b hb => by
        obtain ⟨i, hi, e⟩ := List.getElem_of_mem hb
        exact HALL.out i b hi (by rw [List.getElem?_eq_getElem hi, e]), rfl⟩
set_option maxHeartbeats 1000000 in
theorem tab_imax (v : Value) (bs : List Int) (w : World) (hv : ViewL w v (ints bs)) (h0 : 0 < bs.length) (hl : bs.length ≤ 2 ^ 40) :
    Calls Try.prog 41 #[v] w fun e w' => ∃ m : Int, e = .returned (.int .i64 m) ∧ m ∈ bs ∧ (∀ b ∈ bs, b ≤ m) ∧ w = w' := by
  obtain ⟨ao, cap, rfl⟩ := hv.shape
  rw [length_ints] at *
  have HV := Lib.hid hv
  obtain ⟨b, o, rfl, _, hc⟩ := viewL_cells hv (by rw [length_ints]; omega)
  obtain ⟨x, hx⟩ : ∃ x, bs[0]? = some x := ⟨_, List.getElem?_eq_getElem h0⟩
  have c0 := hc 0 (.int .i64 x) (by simp [ints, hx])
  have h1 : ¬ (bs.length : Int) < 1 := by omega
  have h2 : (0 : Int) < (bs.length : Int) := by omega
  have HC := Lib.hid hc
  have HX := Lib.hid hx
  rw [Nat.add_zero] at c0
  clear hv hc hx
  go_enter Try.func41, Try.ntmps41
  go_wp2_with fail
  clear c0
  go_loopw [3, 4] (fun mv iv wr => ∃ (k : Nat) (m : Int), iv = .int .i64 k ∧ mv = .int .i64 m ∧ 1 ≤ k ∧ k ≤ bs.length ∧ m ∈ bs ∧ (∀ i b, i < k → bs[i]? = some b → b ≤ m) ∧ wr = w) (fun _ iv _ => bs.length - (intOf iv).toNat)
  case atStart => exact ⟨1, x, rfl, rfl, Nat.le_refl _, by omega, List.mem_of_getElem? HX.out, fun i b hi hb => by rw [show i = 0 by omega, HX.out] at hb; cases hb; exact Int.le_refl _, rfl⟩
  case round =>
    obtain ⟨k, m, rfl, rfl, hk1, hk, hmem, hall, hwr⟩ := hrel
    obtain rfl : w = wr := hwr.symm
    have HALL := Lib.hid hall
    have HMEM := Lib.hid hmem
    clear hall hmem
    by_cases hlt : k < bs.length
    · have hlti : (k : Int) < (bs.length : Int) := by omega
      obtain ⟨y, hy⟩ : ∃ y, bs[k]? = some y := ⟨_, List.getElem?_eq_getElem hlt⟩
      have c1 := HC.out k (.int .i64 y) (by simp [ints, hy])
      have HY := Lib.hid hy
      clear hy
      by_cases hmy : m < y
      · have hmyi : m < y := by omega
        go_wp2_with fail
        go_roundw
        case rel => exact ⟨k + 1, y, by go_num, rfl, by omega, by omega, List.mem_of_getElem? HY.out, fun i b hi hb => by
          by_cases h : i < k
          · have := HALL.out i b h hb; omega
          · rw [show i = k by omega, HY.out] at hb; cases hb; omega, trivial⟩
        case measure => simp [intOf]; omega
      · have hmyi : ¬ m < y := by omega
        go_wp2_with fail
        go_roundw
        case rel => exact ⟨k + 1, m, by go_num, rfl, by omega, by omega, HMEM.out, fun i b hi hb => by
          by_cases h : i < k
          · have := HALL.out i b h hb; omega
          · rw [show i = k by omega, HY.out] at hb; cases hb; omega, trivial⟩
        case measure => simp [intOf]; omega
    · obtain rfl : k = bs.length := by omega
      go_wp2_with fail
      go_ret
      exact ⟨m, rfl, HMEM.out, fun b hb => by
        obtain ⟨i, hi, e⟩ := List.getElem_of_mem hb
        exact HALL.out i b hi (by rw [List.getElem?_eq_getElem hi, e]), rfl⟩
set_option maxHeartbeats 1000000 in
theorem tab_index (v : Value) (l : List Nat) (x : Nat) (w : World) (hv : ViewL w v (i64s l)) (hx : x ∈ l) (hl : l.length ≤ 2 ^ 40) :
    Calls Try.prog 44 #[v, .int .i64 x] w fun e w' => e = .returned (.int .i64 (idx l x : Nat)) ∧ w = w' := by
  obtain ⟨ao, cap, rfl⟩ := hv.shape
  rw [length_i64s] at *
  obtain ⟨b, o, rfl, _, hc⟩ := viewL_cells hv (by rw [length_i64s]; exact List.length_pos_of_mem hx)
  have hi := idx_get l x hx
  have hlt := idx_lt l x hx
  have hbef := idx_before l x
  generalize idx l x = K at *
  have HC := Lib.hid hc
  have HI := Lib.hid hi
  have HBF := Lib.hid hbef
  clear hv hc hi hx hbef
  go_enter Try.func44, Try.ntmps44
  go_wp2_with fail
  go_loopw [8] (fun iv wr => ∃ k : Nat, iv = .int .i64 k ∧ k ≤ K ∧ wr = w) (fun iv _ => l.length - (intOf iv).toNat)
  case atStart => exact ⟨0, rfl, Nat.zero_le _, rfl⟩
  case round =>
    obtain ⟨k, rfl, hk, hwr⟩ := hrel
    obtain rfl : w = wr := hwr.symm
    have hlti : (k : Int) < (l.length : Int) := by omega
    obtain ⟨y, hy⟩ : ∃ y, l[k]? = some y := ⟨_, List.getElem?_eq_getElem (by omega)⟩
    have c1 := HC.out k (.int .i64 y) (by simp [i64s, hy])
    by_cases hkK : k = K
    · subst hkK
      rw [HI.out] at hy
      cases hy
      have hb : ((x : Int) == (x : Int)) = true := by simp
      go_wp2_with fail
      go_ret
      exact ⟨rfl, rfl⟩
    · have hne : x ≠ y := fun e => HBF.out k (by omega) (by rw [e]; exact hy)
      have hb : ((x : Int) == (y : Int)) = false := by rw [beq_eq_false_iff_ne]; omega
      have hb2 : ¬ (x : Int) = (y : Int) := by omega
      clear hy
      go_wp2_with fail
      go_roundw
      case rel => exact ⟨k + 1, by go_num, by omega, trivial⟩
      case measure => simp [intOf]; omega
set_option maxHeartbeats 2000000 in
theorem ref_same_eq (ao bo : Option Addr) (acap bcap N : Nat) (a b : List Int) (w : World) (ha : ViewL w (.slice ao N acap) (ints a)) (hb : ViewL w (.slice bo N bcap) (ints b)) (hA : a.length = N) (hB : b.length = N) (hl : N ≤ 2 ^ 40) :
    Calls Try.prog 9 #[.slice ao N acap, .slice bo N bcap] w fun e w' => e = .returned (.bool (decide (a = b))) ∧ Ext w w' := by
  have HA := Lib.hid ha
  have HB := Lib.hid hb
  have HLA := Lib.hid hA
  have HLB := Lib.hid hB
  clear ha hb hA hB
  have hbl : ((N : Int) != (N : Int)) = false := by simp
  go_enter Try.func9, Try.ntmps9
  go_wp2_with fail
  go_loopw [5] (fun iv wr => ∃ k : Nat, iv = .int .i64 k ∧ k ≤ N ∧ Hid (a.take k = b.take k) ∧ Ext w wr) (fun iv _ => N - (intOf iv).toNat)
  case atStart => exact ⟨0, rfl, Nat.zero_le _, Lib.hid rfl, Ext.refl w⟩
  case round =>
    obtain ⟨k, rfl, hk, HT, hx⟩ := hrel
    by_cases hlt : k < N
    · have hlti : (k : Int) < (N : Int) := by omega
      obtain ⟨b1, o1, rfl, _, hc1⟩ := viewL_cells HA.out (by rw [length_ints, HLA.out]; omega)
      obtain ⟨b2, o2, rfl, _, hc2⟩ := viewL_cells HB.out (by rw [length_ints, HLB.out]; omega)
      obtain ⟨x, hxk⟩ : ∃ x, a[k]? = some x := ⟨_, List.getElem?_eq_getElem (by rw [HLA.out]; exact hlt)⟩
      obtain ⟨y, hyk⟩ : ∃ y, b[k]? = some y := ⟨_, List.getElem?_eq_getElem (by rw [HLB.out]; exact hlt)⟩
      have c1 := cell_touch hx (hc1 k (.int .i64 x) (by simp [ints, hxk])) (fun f => f)
      have c2 := cell_touch hx (hc2 k (.int .i64 y) (by simp [ints, hyk])) (fun f => f)
      have HX := Lib.hid hx
      have HXK := Lib.hid hxk
      have HYK := Lib.hid hyk
      clear hc1 hc2 hx hxk hyk
      by_cases hxy : x = y
      · have hne : (x != y) = false := by rw [hxy]; simp
        have HXY := Lib.hid hxy
        clear hxy
        go_wp2_with fail
        go_quiet (fail)
        go_wp2_with fail
        go_roundw
        case rel => exact ⟨k + 1, by go_num, by omega, Lib.hid (by rw [List.take_add_one, List.take_add_one, HT.out, HXK.out, HYK.out, HXY.out]), HX.out.drewN _⟩
        case measure => simp [intOf]; omega
      · have hne : (x != y) = true := by rw [bne_iff_ne]; exact hxy
        have HXY := Lib.hid (show a ≠ b from fun e => hxy (by have := HXK.out; rw [e, HYK.out] at this; cases this; rfl))
        go_wp2_with fail
        go_quiet (fail)
        go_wp2_with fail
        go_ret
        exact ⟨by rw [decide_eq_false HXY.out]; rfl, HX.out.drewN _⟩
    · obtain rfl : k = N := by omega
      have HX := Lib.hid hx
      have HE := Lib.hid (show a = b by have := HT.out; rwa [← HLA.out, List.take_length, HLA.out, ← HLB.out, List.take_length] at this)
      clear hx
      go_wp2_with fail
      go_ret
      exact ⟨by rw [decide_eq_true HE.out]; rfl, HX.out⟩
set_option maxHeartbeats 2000000 in
theorem ref_same (av bv : Value) (a b : List Int) (w : World) (ha : ViewL w av (ints a)) (hb : ViewL w bv (ints b)) (hl : a.length ≤ 2 ^ 40) (hl2 : b.length ≤ 2 ^ 40) :
    Calls Try.prog 9 #[av, bv] w fun e w' => e = .returned (.bool (decide (a = b))) ∧ Ext w w' := by
  obtain ⟨ao, acap, rfl⟩ := ha.shape
  obtain ⟨bo, bcap, rfl⟩ := hb.shape
  simp only [length_ints] at *
  by_cases hlen : a.length = b.length
  · rw [← hlen] at hb ⊢
    exact ref_same_eq ao bo acap bcap a.length a b w ha hb rfl hlen.symm hl
  · have hbl : ((a.length : Int) != (b.length : Int)) = true := by rw [bne_iff_ne]; omega
    have HL := Lib.hid (show a ≠ b from fun e => hlen (by rw [e]))
    clear hlen ha hb
    go_enter Try.func9, Try.ntmps9
    go_wp2_with fail
    go_ret
    exact ⟨by rw [decide_eq_false HL.out]; rfl, Ext.refl w⟩
/-- may selectors be? -/
def MayI (xs : List Int) (n : Int) : Prop := 2 ≤ n ∧ n ≤ 6 ∧ 0 < xs.length ∧ xs.length ≤ 32767 ∧ ∀ x ∈ xs, 0 ≤ x ∧ x < n
set_option maxHeartbeats 2000000 in
theorem tab_ref_mays (v : Value) (xs : List Int) (n : Int) (w : World) (hv : ViewL w v (ints xs)) (hl : xs.length ≤ 2 ^ 40) :
    Calls Try.prog 25 #[v, .int .i64 n] w fun e w' => (e = .returned (.bool true) ∧ MayI xs n ∨ e = .returned (.bool false) ∧ ¬ MayI xs n) ∧ w = w' := by
  obtain ⟨ao, cap, rfl⟩ := hv.shape
  rw [length_ints] at *
  have HV := Lib.hid hv
  clear hv
  go_enter Try.func25, Try.ntmps25
  go_wp2_with fail
  go_loopw [5] (fun iv wr => ∃ k : Nat, iv = .int .i64 k ∧ k ≤ xs.length ∧ Hid (∀ i x, i < k → xs[i]? = some x → 0 ≤ x ∧ x < n) ∧ wr = w) (fun iv _ => xs.length - (intOf iv).toNat)
  case atStart => exact ⟨0, rfl, Nat.zero_le _, Lib.hid (fun i x h => absurd h (Nat.not_lt_zero _)), rfl⟩
  case round =>
    obtain ⟨k, rfl, hk, HALL, hwr⟩ := hrel
    obtain rfl : w = wr := hwr.symm
    by_cases hlt : k < xs.length
    · have hlti : (k : Int) < (xs.length : Int) := by omega
      obtain ⟨b, o, rfl, _, hc⟩ := viewL_cells HV.out (by rw [length_ints]; omega)
      obtain ⟨x, hx⟩ : ∃ x, xs[k]? = some x := ⟨_, List.getElem?_eq_getElem hlt⟩
      have c1 := hc k (.int .i64 x) (by simp [ints, hx])
      have HX := Lib.hid hx
      clear hc hx
      by_cases hx1 : x < 0
      · go_wp2_with fail
        go_ret
        exact ⟨Or.inr ⟨rfl, fun h => by have := (h.2.2.2.2 x (List.mem_of_getElem? HX.out)).1; omega⟩, rfl⟩
      · have hxi : decide (x < 0) = false := decide_eq_false (by omega)
        by_cases hx2 : n ≤ x
        · go_wp2_with fail
          go_ret
          exact ⟨Or.inr ⟨rfl, fun h => by have := (h.2.2.2.2 x (List.mem_of_getElem? HX.out)).2; omega⟩, rfl⟩
        · have HF := Lib.hid (show ∀ i y, i < k + 1 → xs[i]? = some y → 0 ≤ y ∧ y < n from fun i y hi hy => by
            by_cases h : i < k
            · exact HALL.out i y h hy
            · rw [show i = k by omega, HX.out] at hy
              cases hy; omega)
          go_wp2_with fail
          go_roundw
          case rel => exact ⟨k + 1, by go_num, by omega, HF, trivial⟩
          case measure => simp [intOf]; omega
    · obtain rfl : k = xs.length := by omega
      have HBB := Lib.hid (show ∀ x ∈ xs, 0 ≤ x ∧ x < n from fun x hx => by
        obtain ⟨i, hi, e⟩ := List.getElem_of_mem hx
        exact HALL.out i x hi (by rw [List.getElem?_eq_getElem hi, e]))
      by_cases h2 : 2 ≤ n
      · by_cases h6 : n ≤ 6
        · by_cases h0 : 1 ≤ xs.length
          · have h0i : (1 : Int) ≤ (xs.length : Int) := by omega
            by_cases h3 : xs.length ≤ 32767
            · have h3i : (xs.length : Int) ≤ 32767 := by omega
              go_wp2_with fail
              go_ret
              exact ⟨Or.inl ⟨rfl, h2, h6, h0, h3, HBB.out⟩, rfl⟩
            · have h3i : decide ((xs.length : Int) ≤ 32767) = false := decide_eq_false (by omega)
              have h3j : ¬ (xs.length : Int) ≤ 32767 := by omega
              go_wp2_with fail
              go_ret
              exact ⟨Or.inr ⟨rfl, fun h => h3 h.2.2.2.1⟩, rfl⟩
          · have h0i : decide ((1 : Int) ≤ (xs.length : Int)) = false := decide_eq_false (by omega)
            have h0j : ¬ (1 : Int) ≤ (xs.length : Int) := by omega
            go_wp2_with fail
            go_ret
            exact ⟨Or.inr ⟨rfl, fun h => h0 h.2.2.1⟩, rfl⟩
        · have h6i : decide (n ≤ 6) = false := decide_eq_false h6
          go_wp2_with fail
          go_ret
          exact ⟨Or.inr ⟨rfl, fun h => absurd h.2.1 (by omega)⟩, rfl⟩
      · have h2i : decide (2 ≤ n) = false := decide_eq_false h2
        go_wp2_with fail
        go_ret
        exact ⟨Or.inr ⟨rfl, fun h => absurd h.1 (by omega)⟩, rfl⟩
end Go.Proofs.Ytaabmlnbadpfgaa

/-! tables.PutSelectors: its walk. -/
namespace Go.Proofs.Ytaabmlnbadpfgaa
open Go.RowKit
set_option linter.unusedVariables false

/-- a writer and a mover's list, while selectors are put. -/
def SelI (w : World) (B : Nat) (og : Option Nat) (C A : Nat) (L : List Bool) (lst : List Nat) (wr : World) : Prop :=
  ∃ og', IsW 46 true wr B og' L ∧ Near og og' w ∧ Touch (FP B og) w wr ∧ IsM wr C A lst ∧ ¬ FP B og' C ∧ ¬ FP B og' A ∧ w.heap.size ≤ A
theorem SelI.wpost {w : World} {B : Nat} {og : Option Nat} {C A : Nat} {L : List Bool} {lst : List Nat} {wr : World} (h : SelI w B og C A L lst wr) : WPost 46 true w B og L wr := by
  obtain ⟨og', h1, h2, h3, _⟩ := h
  exact ⟨og', h1, h2, h3⟩
theorem SelI.isM {w : World} {B : Nat} {og : Option Nat} {C A : Nat} {L : List Bool} {lst : List Nat} {wr : World} (h : SelI w B og C A L lst wr) : IsM wr C A lst := by
  obtain ⟨og', h1, h2, h3, h4, _⟩ := h
  exact h4
theorem fp_after {og og' : Option Nat} {w : World} {B c : Nat} (hn : Near og og' w) (hc : c < w.heap.size) (h : ¬ FP B og c) : ¬ FP B og' c := by
  rintro (e | e)
  · exact h (Or.inl e)
  · rcases hn with h1 | ⟨g, h1, hg⟩
    · rw [h1] at e; exact h (Or.inr e)
    · rw [h1] at e; cases e; omega
theorem sel_put {w : World} {B : Nat} {og : Option Nat} {C A : Nat} {L : List Bool} {lst : List Nat} {wr : World} (h : SelI w B og C A L lst wr) (v n : Nat) (hl : L.length + 32 < 2 ^ 40) (hv : v < 2 ^ 32) (hn : n ≤ 32) (hvn : v < 2 ^ n) :
    Calls Try.prog 42 #[.pointer (some ⟨B, 0, none⟩), .int .u32 v, .int .i64 n] wr fun e w' => e = .returned (.int .i64 0) ∧ SelI w B og C A (L ++ bitsOf true v n) lst w' := by
  obtain ⟨og', h1, h2, h3, h4, h5, h6, h7⟩ := h
  refine (msb_put_ok B v n og' L wr h1 hl hn hv hvn).mono ?_
  rintro e w' ⟨rfl, og2, k1, k2, k3⟩
  have hs := h3.size
  exact ⟨rfl, og2, k1, h2.trans k2 h3.size, h3.trans k3 (fun i hi => h2.fp B i hi), h4.keep k3 h5 h6, fp_after k2 h4.lt.1 h5, fp_after k2 h4.lt.2 h6, h7⟩
theorem sel_at {w : World} {B : Nat} {og : Option Nat} {C A : Nat} {L : List Bool} {lst : List Nat} {wr : World} (h : SelI w B og C A L lst wr) (k : Nat) (hk : k < 6) :
    Calls Try.prog 55 #[.int .i64 k, .pointer (some ⟨C, 0, none⟩)] wr fun e w' => e = .returned (.int .i64 (lst.getD k 0 : Nat)) ∧ SelI w B og C A L (mtf lst k) w' := by
  obtain ⟨og', h1, h2, h3, h4, h5, h6, h7⟩ := h
  refine (tab_at C A k lst wr h4 hk).mono ?_
  rintro e w' ⟨rfl, k1, k2⟩
  exact ⟨rfl, og', h1.keep k2 (fun e => h6 (Or.inl e.symm)) (fun g e e2 => h6 (Or.inr (by rw [e, e2]))), h2, h3.trans k2 (fun i hi e => by omega), k1, h5, h6, h7⟩
theorem IsM.viewL {w : World} {C A : Nat} {l : List Nat} (h : IsM w C A l) : ViewL w (.slice (some ⟨A, 0, none⟩) 6 6) (i64s l) := by
  refine ⟨_, 6, by rw [length_i64s, h.2.2.1], by rw [length_i64s, h.2.2.1]; exact Nat.le_refl _, fun e => (by cases e), fun _ => ⟨A, 0, rfl, fun j u hu => ?_⟩⟩
  have hj : j < l.length := by have := (List.getElem?_eq_some_iff.1 hu).1; rwa [length_i64s] at this
  rw [Nat.zero_add, h.cell j (by have := h.2.2.1; omega), ← getElem?_i64s l j hj, hu]
theorem tab_puts_nil (v : Value) (n : Int) (w : World) : Calls Try.prog 20 #[.pointer none, v, .int .i64 n] w fun e w' => e = .returned (.int .i64 8) ∧ w = w' := by
  go_enter Try.func20, Try.ntmps20
  go_wp2_with fail
  go_ret
  exact ⟨rfl, rfl⟩
theorem bits_one1 : bitsOf true 1 1 = [true] := by decide
set_option maxHeartbeats 4000000 in
set_option maxRecDepth 100000 in
theorem tab_puts_ok (B : Nat) (og : Option Nat) (l : List Bool) (v : Value) (vs : List Nat) (n : Nat) (w : World) (hw : IsW 46 true w B og l) (hv : ViewL w v (i64s vs)) (hd : ∀ b o n cap, v = .slice (some ⟨b, o, none⟩) n cap → ¬ FP B og b) (hl : l.length ≤ 2 ^ 20) (hm : MayN vs n) :
    Calls Try.prog 20 #[.pointer (some ⟨B, 0, none⟩), v, .int .i64 n] w fun e w' => e = .returned (.int .i64 0) ∧ WPost 46 true w B og (l ++ selBits vs) w' := by
  have hal : Try.prog.arrayLen 87 = 6 := by kernel_rfl
  obtain ⟨ao, cap, rfl⟩ := hv.shape
  rw [length_i64s] at *
  obtain ⟨m1, m2, m3, m4, m5⟩ := hm
  have hmin := tab_imin _ (vs.map fun (b : Nat) => (b : Int)) w (by rw [← i64s_ints]; exact hv) (by simpa using m3) (by simp; omega)
  have hmax := tab_imax _ (vs.map fun (b : Nat) => (b : Int)) w (by rw [← i64s_ints]; exact hv) (by simpa using m3) (by simp; omega)
  have HW := Lib.hid hw
  have HC := Lib.hid (show ∀ (wr : World), Touch (FP B og) w wr → ∀ (k x : Nat), vs[k]? = some x → ∃ b o, ao = some ⟨b, o, none⟩ ∧ wr.cell? ⟨b, o + k, none⟩ = some (.int .i64 x) from fun wr ht k x hx => by
    obtain ⟨b, o, rfl, _, hc⟩ := viewL_cells hv (by rw [length_i64s]; omega)
    exact ⟨b, o, rfl, cell_touch ht (hc k (.int .i64 x) (by simp [i64s, hx])) (hd b o _ _ rfl)⟩)
  have HBW := Lib.hid hw.lt
  have HGW := Lib.hid hw.glt
  have HM5 := Lib.hid m5
  clear hw hv hd m5
  have h1 : ¬ (n : Int) < 2 := by omega
  have h2 : ¬ (6 : Int) < (n : Int) := by omega
  have h3 : ((vs.length : Int) == 0) = false := by rw [beq_eq_false_iff_ne]; omega
  have h4 : ¬ (32767 : Int) < (vs.length : Int) := by omega
  go_enter Try.func20, Try.ntmps20
  go_wp2_with fail
  refine hmin.mono ?_
  clear hmin
  rintro e w' ⟨m, rfl, hmem, _, rfl⟩
  have hm0 : ¬ m < 0 := by obtain ⟨x, _, rfl⟩ := List.mem_map.1 hmem; omega
  clear hmem
  go_wp2_with fail
  refine hmax.mono ?_
  clear hmax
  rintro e w' ⟨M, rfl, hmem, _, rfl⟩
  have hM0 : ¬ (n : Int) ≤ M := by obtain ⟨x, hx, rfl⟩ := List.mem_map.1 hmem; have := HM5.out x hx; omega
  clear hmem
  have k32 : IntKind.u32.wrap (vs.length : Int) = (vs.length : Int) := IntWalk.u32_in _ (by omega)
  go_wp2_with fail
  refine (msb_put_ok B vs.length 15 og l _ HW.out (by omega) (by decide) (by omega) (by omega)).mono ?_
  rintro e w1 ⟨rfl, og1, p1, n1, t1⟩
  have HP1 := Lib.hid p1
  have HN1 := Lib.hid n1
  have HT1 := Lib.hid t1
  clear p1 n1 t1 k32 h1 h2 h3 h4 hm0 hM0
  go_wp2_with fail
  refine (tab_mover w1).mono ?_
  rintro e w2 ⟨C, A, rfl, q1, q2, q3, q4⟩
  have hs1 := HT1.out.size
  have HS := Lib.hid (show SelI w B og C A (l ++ bitsOf true vs.length 15) lst0 w2 from
    ⟨og1, HP1.out.ext q2, HN1.out, HT1.out.trans q2 (fun _ _ f => f.elim), q1, fun h => (by rcases h with h | h; (have := HP1.out.lt; omega); (have := HP1.out.glt _ h; omega)), fun h => (by rcases h with h | h; (have := HP1.out.lt; omega); (have := HP1.out.glt _ h; omega)), by omega⟩)
  clear q1 q2 q3 q4 HP1 HN1 HT1 hs1
  have HL15 := Lib.hid (show selBits vs = bitsOf true vs.length 15 ++ selFrom lst0 vs from rfl)
  go_wp2_with fail
  go_loopw [10, 11, 52] (fun _ _ iv wr => ∃ (k : Nat) (lst : List Nat) (acc : List Bool), iv = .int .i64 k ∧ k ≤ vs.length ∧ acc.length ≤ 6 * k ∧ SelI w B og C A (l ++ (bitsOf true vs.length 15 ++ acc)) lst wr ∧ Good n lst ∧ Hid (selFrom lst0 vs = acc ++ selFrom lst (vs.drop k))) (fun _ _ iv _ => vs.length - (intOf iv).toNat)
  case atStart => exact ⟨0, lst0, [], rfl, Nat.zero_le _, Nat.le_refl _, by simpa using HS.out, good0 n m1 m2, Lib.hid rfl⟩
  case round =>
    obtain ⟨k, lst, acc, rfl, hk, hal6, hsi, hgood, HE⟩ := hrel
    have HSI := Lib.hid hsi
    have HGD := Lib.hid hgood
    clear hsi hgood
    by_cases hlt : k < vs.length
    · have hlti : (k : Int) < (vs.length : Int) := by omega
      obtain ⟨x, hx⟩ : ∃ x, vs[k]? = some x := ⟨_, List.getElem?_eq_getElem hlt⟩
      obtain ⟨b, o, e0, c1⟩ := HC.out _ HSI.out.wpost.choose_spec.2.2 k x hx
      cases e0
      have hxn := HM5.out x (List.mem_of_getElem? hx)
      have hdrop : vs.drop k = x :: vs.drop (k + 1) := by
        rw [List.drop_eq_getElem_cons hlt]; congr 1
        have := List.getElem?_eq_getElem hlt; rw [hx] at this; cases this; rfl
      have HEX := Lib.hid (show selFrom lst (vs.drop k) = List.replicate (idx lst x) true ++ false :: selFrom (mtf lst (idx lst x)) (vs.drop (k + 1)) by rw [hdrop, selFrom])
      have hidx := HGD.out.idx m2 hxn
      have hxl : x ∈ lst := by
        have h6 := HGD.out.len
        have := hidx.2
        rw [← this, List.getD, List.getElem?_eq_getElem (show idx lst x < lst.length by omega)]
        exact List.getElem_mem _
      have HIX := Lib.hid (tab_index _ lst x wr HSI.out.isM.viewL hxl (by have := HGD.out.len; omega))
      have HI2 := Lib.hid hidx.2
      have HG2 := Lib.hid (HGD.out.mtf m2 hidx.1)
      have hi6 := hidx.1
      obtain ⟨K, hK⟩ : ∃ K, K = idx lst x := ⟨_, rfl⟩
      rw [← hK] at HEX HIX HI2 HG2 hi6
      clear hx hdrop hidx hxl hK
      go_wp2_with fail
      refine HIX.out.mono ?_
      rintro e w3 ⟨rfl, rfl⟩
      go_wp2_with fail
      refine (sel_at HSI.out K (by omega)).mono ?_
      rintro e w4 ⟨rfl, s4⟩
      have HS4 := Lib.hid s4
      clear s4 c1
      go_wp2_with fail
      go_loopw [65] (fun jv wr => ∃ j : Nat, jv = .int .i64 j ∧ j ≤ K ∧ SelI w B og C A (l ++ (bitsOf true vs.length 15 ++ (acc ++ List.replicate j true))) (mtf lst K) wr) (fun jv _ => K - (intOf jv).toNat)
      case atStart => exact ⟨0, rfl, Nat.zero_le _, by simpa using HS4.out⟩
      case round =>
        obtain ⟨j, rfl, hj, hsj⟩ := hrel
        have HSJ := Lib.hid hsj
        clear hsj
        by_cases hjk : j < K
        · have hjki : (j : Int) < (K : Int) := by omega
          go_wp2_with fail
          refine (sel_put HSJ.out 1 1 (by simp only [List.length_append, length_bitsOf, List.length_replicate]; omega) (by decide) (by decide) (by decide)).mono ?_
          rw [bits_one1]
          rintro e w5 ⟨rfl, s5⟩
          have HS5 := Lib.hid s5
          clear s5
          go_wp2_with fail
          go_roundw
          case rel => exact ⟨j + 1, by go_num, by omega, by rw [List.replicate_succ']; have := HS5.out; simpa [List.append_assoc] using this⟩
          case measure => simp [intOf]; omega
        · obtain rfl : j = K := by omega
          go_wp2_with fail
          refine (sel_put HSJ.out 0 1 (by simp only [List.length_append, length_bitsOf, List.length_replicate]; omega) (by decide) (by decide) (by decide)).mono ?_
          rw [bits_end]
          rintro e w5 ⟨rfl, s5⟩
          have HS5 := Lib.hid s5
          clear s5
          go_wp2_with fail
          go_roundw
          case rel => exact ⟨k + 1, mtf lst j, acc ++ (List.replicate j true ++ [false]), by go_num, by omega, by simp only [List.length_append, List.length_replicate, List.length_cons, List.length_nil]; omega, by have := HS5.out; simpa [List.append_assoc] using this, HG2.out, Lib.hid (by rw [HE.out, HEX.out]; simp)⟩
          case measure => simp [intOf]; omega
    · obtain rfl : k = vs.length := by omega
      have hfin : acc = selFrom lst0 vs := by rw [HE.out, List.drop_length, selFrom, List.append_nil]
      have HF := Lib.hid (show WPost 46 true w B og (l ++ selBits vs) wr by rw [HL15.out, ← hfin]; exact HSI.out.wpost)
      clear hfin
      go_wp2_with fail
      go_ret
      exact ⟨rfl, HF.out⟩
end Go.Proofs.Ytaabmlnbadpfgaa

/-! tables.PutSelectors, refused: its walk; and whatever it is handed. -/
namespace Go.Proofs.Ytaabmlnbadpfgaa
open Go.RowKit
set_option linter.unusedVariables false

set_option maxHeartbeats 2000000 in
theorem tab_puts_bad (B : Nat) (v : Value) (xs : List Int) (n : Int) (w : World) (hv : ViewL w v (ints xs)) (hl : xs.length ≤ 2 ^ 40) (hm : ¬ MayI xs n) :
    Calls Try.prog 20 #[.pointer (some ⟨B, 0, none⟩), v, .int .i64 n] w fun e w' => e = .returned (.int .i64 5) ∧ w = w' := by
  obtain ⟨ao, cap, rfl⟩ := hv.shape
  rw [length_ints] at *
  by_cases h1 : n < 2
  · clear hv hm
    go_enter Try.func20, Try.ntmps20
    go_wp2_with fail
    go_ret
    exact ⟨rfl, rfl⟩
  by_cases h2 : 6 < n
  · clear hv hm
    go_enter Try.func20, Try.ntmps20
    go_wp2_with fail
    go_ret
    exact ⟨rfl, rfl⟩
  by_cases h3 : xs.length = 0
  · have h3i : ((xs.length : Int) == 0) = true := by rw [h3]; rfl
    have h3j : (xs.length : Int) = 0 := by omega
    clear hv hm h3
    go_enter Try.func20, Try.ntmps20
    go_wp2_with fail
    go_ret
    exact ⟨rfl, rfl⟩
  have h3i : ((xs.length : Int) == 0) = false := by rw [beq_eq_false_iff_ne]; omega
  by_cases h4 : 32767 < xs.length
  · have h4i : (32767 : Int) < (xs.length : Int) := by omega
    clear hv hm h3
    go_enter Try.func20, Try.ntmps20
    go_wp2_with fail
    go_ret
    exact ⟨rfl, rfl⟩
  have h4i : ¬ (32767 : Int) < (xs.length : Int) := by omega
  have hmin := tab_imin _ xs w hv (by omega) hl
  have hmax := tab_imax _ xs w hv (by omega) hl
  have HM := Lib.hid hm
  clear hv hm h3
  go_enter Try.func20, Try.ntmps20
  go_wp2_with fail
  refine hmin.mono ?_
  clear hmin
  rintro e w' ⟨m, rfl, hmem, hall, rfl⟩
  have HALL := Lib.hid hall
  clear hmem hall
  by_cases hm0 : m < 0
  · go_wp2_with fail
    go_ret
    exact ⟨rfl, rfl⟩
  · go_wp2_with fail
    refine hmax.mono ?_
    clear hmax
    rintro e w' ⟨M, rfl, hmem, hall, rfl⟩
    have hM : n ≤ M := by
      refine Int.not_lt.1 (fun hlt => HM.out ⟨by omega, by omega, List.length_pos_of_mem hmem, by omega, fun x hx => ?_⟩)
      have := HALL.out x hx
      have := hall x hx
      omega
    clear hmem hall
    go_wp2_with fail
    go_ret
    exact ⟨rfl, rfl⟩
theorem may_nat {xs : List Int} {n : Int} (h : MayI xs n) : MayN (xs.map Int.toNat) n.toNat ∧ xs = (xs.map Int.toNat).map (fun (b : Nat) => (b : Int)) := by
  obtain ⟨h1, h2, h3, h4, h5⟩ := h
  refine ⟨⟨by omega, by omega, by simpa using h3, by simpa using h4, fun v hv => ?_⟩, ?_⟩
  · obtain ⟨x, hx, rfl⟩ := List.mem_map.1 hv
    have := h5 x hx; omega
  · rw [List.map_map]
    conv => lhs; rw [← List.map_id xs]
    exact List.map_congr_left fun x hx => by have := (h5 x hx).1; simp; omega
theorem tab_puts (B : Nat) (og : Option Nat) (l : List Bool) (v : Value) (xs : List Int) (n : Int) (w : World) (hw : IsW 46 true w B og l) (hv : ViewL w v (ints xs)) (hd : ∀ b o n cap, v = .slice (some ⟨b, o, none⟩) n cap → ¬ FP B og b) (hl : l.length ≤ 2 ^ 20) (hbl : xs.length ≤ 2 ^ 40) :
    Calls Try.prog 20 #[.pointer (some ⟨B, 0, none⟩), v, .int .i64 n] w fun e w' => (e = .returned (.int .i64 0) ∧ MayI xs n ∧ WPost 46 true w B og (l ++ selBits (xs.map Int.toNat)) w') ∨ (e = .returned (.int .i64 5) ∧ ¬ MayI xs n ∧ w = w') := by
  by_cases hm : MayI xs n
  · obtain ⟨h1, h2⟩ := may_nat hm
    have e : n = ((n.toNat : Nat) : Int) := by have := hm.1; omega
    rw [e]
    refine (tab_puts_ok B og l v (xs.map Int.toNat) n.toNat w hw (by rw [i64s_ints, ← h2]; exact hv) hd hl h1).mono ?_
    rintro e w' ⟨rfl, hp⟩
    exact Or.inl ⟨rfl, by rw [← e]; exact hm, hp⟩
  · refine (tab_puts_bad B v xs n w hv hbl hm).mono ?_
    rintro e w' ⟨rfl, rfl⟩
    exact Or.inr ⟨rfl, hm, rfl⟩
end Go.Proofs.Ytaabmlnbadpfgaa
