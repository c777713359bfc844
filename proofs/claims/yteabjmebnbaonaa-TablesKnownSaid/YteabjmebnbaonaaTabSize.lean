/- tables.Size; pressworkref24.May: their walks. -/
import Derived.Test.YteabjmebnbaonaaTabPutL
namespace Go.Proofs.Yteabjmebnbaonaa
open Go.RowKit
set_option linter.unusedVariables false

theorem lenBits_len (bs : List Nat) (h : MayP bs) : (lenBits bs).length ≤ 30000 := by
  have := lenTo_len bs h.2.2 bs.length
  have h2 := h.2.1
  rw [lenBits]; omega
theorem tab_size (v : Value) (bs : List Nat) (w : World) (hv : ViewL w v (u8s bs)) (hbl : bs.length ≤ 2 ^ 40) :
    Calls Try.prog 29 #[v] w fun e w' => ((e = .returned (.int .i64 (lenBits bs).length) ∧ MayP bs) ∨ (e = .returned (.int .i64 0) ∧ ¬ MayP bs)) ∧ Ext w w' := by
  obtain ⟨ao, cap, rfl⟩ := hv.shape
  rw [length_u8s] at *
  have x0 : Ext w (w.alloc (.cells #[.slice none 0 0, .int .i64 0] 30)) := (Ext.refl w).alloc _
  have X0 := Lib.hid x0
  have HP := tab_put w.heap.size none [] _ bs _ (pick_zero w) (hv.ext x0) (fun h0 b o n c e h => by have := view_block hv h0 b o n c e; rcases h with h | h; omega; cases h) (by decide) hbl
  clear hv x0
  go_enter Try.func29, Try.ntmps29
  go_wp2_with fail
  refine HP.mono ?_
  clear HP
  rintro e w1 (⟨rfl, hm, og1, p1, n1, t1⟩ | ⟨rfl, hm, rfl⟩)
  · rw [List.nil_append] at p1
    have HX := Lib.hid (X0.out.touch t1 (fun i hi h => fp_new w none (Near.refl _ _) i hi h))
    have HP1 := Lib.hid p1
    have HM := Lib.hid hm
    clear p1 n1 t1 hm
    go_wp2_with fail
    refine (msb_len w.heap.size og1 _ _ HP1.out).mono ?_
    rintro e w2 ⟨rfl, rfl⟩
    go_wp2_with fail
    go_ret
    exact ⟨Or.inl ⟨rfl, HM.out⟩, HX.out⟩
  · have HM := Lib.hid hm
    clear hm
    go_wp2_with fail
    refine (msb_len w.heap.size none [] _ (pick_zero w)).mono ?_
    rintro e w2 ⟨rfl, rfl⟩
    go_wp2_with fail
    go_ret
    exact ⟨Or.inr ⟨rfl, HM.out⟩, X0.out⟩
set_option maxHeartbeats 1000000 in
theorem tab_ref_may (v : Value) (bs : List Nat) (w : World) (hv : ViewL w v (u8s bs)) (hl : bs.length ≤ 2 ^ 40) :
    Calls Try.prog 32 #[v] w fun e w' => (e = .returned (.bool true) ∧ MayP bs ∨ e = .returned (.bool false) ∧ ¬ MayP bs) ∧ w = w' := by
  obtain ⟨ao, cap, rfl⟩ := hv.shape
  rw [length_u8s] at *
  have HV := Lib.hid hv
  clear hv
  go_enter Try.func32, Try.ntmps32
  go_wp2_with fail
  go_loopw [3] (fun iv wr => ∃ k : Nat, iv = .int .i64 k ∧ k ≤ bs.length ∧ (∀ i x, i < k → bs[i]? = some x → 1 ≤ x ∧ x ≤ 20) ∧ wr = w) (fun iv _ => bs.length - (intOf iv).toNat)
  case atStart => exact ⟨0, rfl, Nat.zero_le _, fun i x h => absurd h (Nat.not_lt_zero _), rfl⟩
  case round =>
    obtain ⟨k, rfl, hk, hall, hwr⟩ := hrel
    obtain rfl : w = wr := hwr.symm
    have HALL := Lib.hid hall
    clear hall
    by_cases hlt : k < bs.length
    · have hlti : (k : Int) < (bs.length : Int) := by omega
      obtain ⟨b, o, rfl, _, hc⟩ := viewL_cells HV.out (by rw [length_u8s]; omega)
      obtain ⟨x, hx⟩ : ∃ x, bs[k]? = some x := ⟨_, List.getElem?_eq_getElem hlt⟩
      have c1 := hc k (.int .u8 x) (by simp [u8s, hx])
      have HX := Lib.hid hx
      clear hc hx
      by_cases hx1 : x < 1
      · have hxi : (x : Int) < 1 := by omega
        go_wp2_with fail
        go_ret
        exact ⟨Or.inr ⟨rfl, fun h => by have := (h.2.2 x (List.mem_of_getElem? HX.out)).1; omega⟩, rfl⟩
      · have hxi : decide ((x : Int) < 1) = false := decide_eq_false (by omega)
        have hxi2 : ¬ (x : Int) < 1 := by omega
        by_cases hx2 : 20 < x
        · have hxj : (20 : Int) < (x : Int) := by omega
          go_wp2_with fail
          go_ret
          exact ⟨Or.inr ⟨rfl, fun h => by have := (h.2.2 x (List.mem_of_getElem? HX.out)).2; omega⟩, rfl⟩
        · have hxj : ¬ (20 : Int) < (x : Int) := by omega
          have hf : ∀ i y, i < k + 1 → bs[i]? = some y → 1 ≤ y ∧ y ≤ 20 := fun i y hi hy => by
            by_cases h : i < k
            · exact HALL.out i y h hy
            · rw [show i = k by omega, HX.out] at hy
              cases hy; omega
          have HF := Lib.hid hf
          clear hf
          go_wp2_with fail
          go_roundw
          case rel => exact ⟨k + 1, by go_num, by omega, HF.out, trivial⟩
          case measure => simp [intOf]; omega
    · obtain rfl : k = bs.length := by omega
      have hb : ∀ x ∈ bs, 1 ≤ x ∧ x ≤ 20 := fun x hx => by
        obtain ⟨i, hi, e⟩ := List.getElem_of_mem hx
        exact HALL.out i x hi (by rw [List.getElem?_eq_getElem hi, e])
      have HBB := Lib.hid hb
      clear hb
      by_cases h3 : 3 ≤ bs.length
      · have h3i : (3 : Int) ≤ (bs.length : Int) := by omega
        by_cases h258 : bs.length ≤ 258
        · have h258i : (bs.length : Int) ≤ 258 := by omega
          go_wp2_with fail
          go_ret
          exact ⟨Or.inl ⟨rfl, h3, h258, HBB.out⟩, rfl⟩
        · have h258i : decide ((bs.length : Int) ≤ 258) = false := decide_eq_false (by omega)
          have h258j : ¬ (bs.length : Int) ≤ 258 := by omega
          go_wp2_with fail
          go_ret
          exact ⟨Or.inr ⟨rfl, fun h => h258 h.2.1⟩, rfl⟩
      · have h3i : decide ((3 : Int) ≤ (bs.length : Int)) = false := decide_eq_false (by omega)
        have h3j : ¬ (3 : Int) ≤ (bs.length : Int) := by omega
        go_wp2_with fail
        go_ret
        exact ⟨Or.inr ⟨rfl, fun h => h3 h.1⟩, rfl⟩
end Go.Proofs.Yteabjmebnbaonaa
