/- limit.rarest: its walk. -/
import Derived.Test.YtblbggdglndiiaaLimRow
namespace Go.Proofs.Ytblbggdglndiiaa
open Go.RowKit Go.Sort
set_option linter.unusedVariables false

/-- the symbols that occur, of the first i. -/
def symsUp (F : List Nat) (i : Nat) : List Nat := (List.range i).filter fun s => decide (0 < F.getD s 0)
theorem symsUp_succ (F : List Nat) (i : Nat) : symsUp F (i + 1) = if 0 < F.getD i 0 then symsUp F i ++ [i] else symsUp F i := by
  rw [symsUp, List.range_succ, List.filter_append]
  by_cases h : 0 < F.getD i 0
  · rw [if_pos h]; simp only [symsUp, List.filter_cons, decide_eq_true h]; rfl
  · rw [if_neg h]; simp only [symsUp, List.filter_cons, decide_eq_false h]; exact List.append_nil _
theorem symsUp_len (F : List Nat) (i : Nat) : (symsUp F i).length ≤ i := by
  have := List.length_filter_le (fun s => decide (0 < F.getD s 0)) (List.range i)
  rw [List.length_range] at this
  exact this
theorem symsUp_mem {F : List Nat} {i s : Nat} : s ∈ symsUp F i ↔ s < i ∧ 0 < F.getD s 0 := by
  rw [symsUp, List.mem_filter, List.mem_range, decide_eq_true_iff]
theorem symsUp_rise (F : List Nat) (i : Nat) : (symsUp F i).Pairwise (· < ·) := List.Pairwise.filter _ List.pairwise_lt_range
theorem symsUp_ord {F M : List Nat} (h : M.Perm (symsUp F F.length)) (h2 : M.Pairwise (Before F)) : IsOrd F M := ⟨h2, fun s => by rw [h.mem_iff, symsUp_mem]⟩

/-- where the gathering stands. -/
def RaI (F : List Nat) (N : Nat) (wb : World) (ov vi : Value) (wr : World) : Prop := ∃ (i nn ocap : Nat) (oa : Option Addr), vi = .int .i64 i ∧ ov = .slice oa nn ocap ∧ i ≤ N ∧ nn = (symsUp F i).length ∧ IOn wb (symsUp F i) (.slice oa nn ocap) wr
set_option maxHeartbeats 2000000 in
set_option maxRecDepth 100000 in
theorem lim_rarest (v : Value) (F : List Nat) (w : World) (hv : ViewL w v (intsL F)) (hl : F.length ≤ 2 ^ 20) :
    Calls Try.prog 17 #[v] w fun e w' => ∃ P ov, e = .returned ov ∧ IsOrd F P ∧ IOn w P ov w' := by
  obtain ⟨i0, hi, hz0, hz1, hz2⟩ := info_parts info_int
  obtain ⟨ao, cap, rfl⟩ := hv.shape
  rw [length_intsL] at *
  obtain ⟨N, hN⟩ : ∃ N, N = F.length := ⟨_, rfl⟩
  rw [← hN] at hv hl ⊢
  have HN : Hid (N = F.length ∧ N ≤ 2 ^ 20) := ⟨hN, hl⟩
  obtain ⟨wb, hwb⟩ : ∃ wb, wb = w.alloc (.cells #[.slice ao N cap] 24) := ⟨_, rfl⟩
  have hxb : Ext w wb := by rw [hwb]; exact (Ext.refl w).alloc _
  have HX : Hid (Ext w wb) := hxb
  have HBX : Hid (∀ wr, Ext wb wr → Boxed wr w.heap.size 24 (.slice ao N cap)) := fun wr hx => by
    refine hx.keep (b := w.heap.size) ?_ (fun f => f)
    rw [hwb]; exact heap_alloc_new w _
  have HV : Hid (∀ wr, Ext wb wr → ViewL wr (.slice ao N cap) (intsL F)) := fun wr hx => (hv.ext hxb).ext hx
  have HC : Hid (∀ wr, Ext wb wr → ∀ j, j < N → ∃ b o, ao = some ⟨b, o, none⟩ ∧ wr.cell? ⟨b, o + j, none⟩ = some (.int .i64 (F.getD j 0 : Nat))) := fun wr hx j hj => by
    obtain ⟨b, o, rfl, _, hc⟩ := viewL_cells ((hv.ext hxb).ext hx) (by rw [length_intsL]; omega)
    exact ⟨b, o, rfl, hc j _ (by rw [hN] at hj; simp [intsL, hj, List.getD])⟩
  have hNz : (N : Int) < 4611686018427387904 := by omega
  have HNIL : Hid (IOn wb [] (.slice none 0 0) wb) := IOn.nil wb
  have HB0 : Hid (Boxed wb w.heap.size 24 (.slice ao N cap)) := HBX.out wb (Ext.refl wb)
  have HWB : Hid (wb = w.alloc (.cells #[.slice ao N cap] 24)) := hwb
  clear hwb hxb hv hN hl
  go_enter Try.func17, Try.ntmps17
  go_wp2_with fail
  go_loopw [3, 8] (fun ov vi wr => RaI F N wb ov vi wr) (fun _ vi _ => N - (intOf vi).toNat)
  case atStart => exact ⟨0, 0, 0, none, by go_num, rfl, Nat.zero_le _, rfl, by rw [← HWB.out]; exact HNIL.out⟩
  case round =>
    obtain ⟨i, nn, ocap, oa, rfl, rfl, hiN, hnn, hio⟩ := hrel
    have HIO : Hid (IOn wb (symsUp F i) (.slice oa nn ocap) wr) := hio
    have HNN : Hid (nn = (symsUp F i).length ∧ nn ≤ i) := ⟨hnn, by rw [hnn]; exact symsUp_len F i⟩
    clear hio hnn
    by_cases hlt : i < N
    · have hltz : (i : Int) < (N : Int) := by omega
      obtain ⟨b, o, rfl, hc⟩ := HC.out wr HIO.out.toExt i hlt
      obtain ⟨x, hx⟩ : ∃ x, x = F.getD i 0 := ⟨_, rfl⟩
      rw [← hx] at hc
      have HXX : Hid (x = F.getD i 0 ∧ i < N) := ⟨hx, hlt⟩
      clear hx
      by_cases hpos : 0 < x
      · have hpz : (0 : Int) < (x : Int) := by omega
        have HS : Hid (symsUp F (i + 1) = symsUp F i ++ [i]) := by
          have := symsUp_succ F i
          rw [if_pos (by rw [← HXX.out.1]; exact hpos)] at this
          exact this
        have hlen : nn + 1 ≤ 1048576 := by have := HNN.out; have := HN.out; omega
        go_wp2_with (at_builtin; go_must (refine wpList_append_own_at _ rfl (.tmp 15) (.tmp 17) 24 rfl 0 3 i0 (.int .i64 0) 1 8 Try.underlying24 hi hz0 hz1 hz2 rfl (by decide) _ nn (intsL (symsUp F i)) rfl (by have := HIO.out.choose_spec.1.1.alloc (.cells #[.int .i64 i] 3); rw [← HNN.out.1] at this; exact this) ⟨wr.heap.size, 0, none⟩ 1 1 [.int .i64 i] rfl rfl (news _ _ _ _) (by simp [Value.oneCell']) (by unfold maxLen; omega) (by omega) (Nat.zero_le _) ?_))
        intro v' w5 hown' hgrow _ hat
        have HIO5 : Hid (IOn wb (symsUp F (i + 1)) v' w5) := by
          rw [HS.out]
          exact io_snoc HIO.out (by rw [← HNN.out.1]; exact hown') hgrow hat
        obtain ⟨a5, c5, rfl⟩ : ∃ a5 c5, v' = .slice a5 (nn + 1) c5 := by
          obtain ⟨a5, c5, e5⟩ := HIO5.out.shape
          exact ⟨a5, c5, by rw [e5, HS.out, List.length_append, ← HNN.out.1]; rfl⟩
        clear hown' hgrow hat hc hlen
        go_wp2_with fail
        exact ⟨⟨i + 1, nn + 1, c5, a5, by go_num, rfl, by have := HXX.out; omega, by rw [HS.out, List.length_append, ← HNN.out.1]; rfl, HIO5.out⟩, by simp [intOf]; have := HXX.out; omega⟩
      · have hpz : ¬ (0 : Int) < (x : Int) := by omega
        have HS : Hid (symsUp F (i + 1) = symsUp F i) := by
          have := symsUp_succ F i
          rw [if_neg (by rw [← HXX.out.1]; exact hpos)] at this
          exact this
        go_wp2_with fail
        exact ⟨⟨i + 1, nn, ocap, oa, by go_num, rfl, by have := HXX.out; omega, by rw [HS.out]; exact HNN.out.1, by rw [HS.out]; exact HIO.out⟩, by simp [intOf]; have := HXX.out; omega⟩
    · have hltz : ¬ (i : Int) < (N : Int) := by omega
      have HIN : Hid (i = N) := (by omega : i = N)
      have hcall : Calls Try.prog 24 #[.slice oa nn ocap, .func (.func 25) #[] #[.pointer (some ⟨w.heap.size, 0, none⟩)]] wr fun e w' => e = .returned (.tuple #[]) ∧ ∃ P, IsOrd F P ∧ IOn wb P (.slice oa nn ocap) w' := by
        have hi2 := HIO.out
        have hn2 := HNN.out.1
        rw [HIN.out, HN.out.1] at hi2 hn2
        by_cases h0 : nn = 0
        · subst h0
          refine (lim_sort_nil oa ocap _ wr).mono ?_
          rintro e w' ⟨rfl, rfl⟩
          have he : symsUp F F.length = [] := List.eq_nil_of_length_eq_zero hn2.symm
          refine ⟨rfl, [], symsUp_ord (by rw [he]) List.Pairwise.nil, by rw [he] at hi2; exact hi2⟩
        · obtain ⟨og, ho, hog, hx⟩ := hi2
          rcases ho.form with ⟨_, _, h3, _⟩ | ⟨g, cap', cur, h1, h2, h3, _⟩
          · omega
          · cases h2
            subst h1
            have hgn := hog g rfl
            have hsz : (symsUp F F.length).length ≤ 2 ^ 40 := by have := symsUp_len F F.length; have := HN.out; omega
            have hcmp : CmpAt F (.pointer (some ⟨w.heap.size, 0, none⟩)) wr g 0 (symsUp F F.length).length := by
              intro l m x y hl hx1 hy1
              have hbb := HBX.out wr hx
              have hbn : w.heap.size ≠ g := by have h9 := HB0.out; have := block_lt h9; omega
              have hbox : Boxed (SW wr g 0 l m) w.heap.size 24 (.slice ao N cap) := by
                exact (SW_touch wr g 0 l m).keep hbb hbn
              have hvv : ViewL (SW wr g 0 l m) (.slice ao N cap) (intsL F) := by
                have hv1 := HV.out wr hx
                refine hv1.keep (SW_touch wr g 0 l m) (fun b o n c e hb => ?_)
                cases e
                have h8 := HV.out wb (Ext.refl wb)
                by_cases hN0 : N = 0
                · have := HN.out; omega
                · obtain ⟨b2, o2, e2, _, hc2⟩ := viewL_cells h8 (by rw [length_intsL]; have := HN.out; omega)
                  cases e2
                  have hcell := hc2 0 _ (List.getElem?_eq_getElem (by rw [length_intsL]; have := HN.out; omega))
                  have := World.block_lt_of_cell? _ _ hcell
                  simp at this hb
                  omega
              exact lim_by F w.heap.size (.slice ao N cap) x y (SW wr g 0 l m) hbox hvv hx1 hy1 (by have := HN.out; omega)
            refine (lim_sortStable F (.pointer (some ⟨w.heap.size, 0, none⟩)) g 0 ocap (symsUp F F.length) wr _ hcmp (holds_own (n := _) (cap := ocap) (by first | exact ho)) hn2 hsz (symsUp_rise F _) (fun x hx => (symsUp_mem.1 hx).1)).mono ?_
            rintro e w' ⟨rfl, M, k, hM, hMs, rfl⟩
            refine ⟨rfl, M, symsUp_ord hM hMs, ?_⟩
            exact ⟨some g, SW_owns (by exact ho) hM.length_eq k, hog, hx.touch (SW_touch wr g 0 M k) (fun i hi e => by omega)⟩
      clear hlt
      go_wp2_with fail
      refine hcall.mono ?_
      clear hcall
      rintro e w' ⟨rfl, P, hP, hio⟩
      have HP : Hid (IsOrd F P ∧ IOn wb P (.slice oa nn ocap) w') := ⟨hP, hio⟩
      clear hP hio
      go_wp2_with fail
      go_ret
      exact ⟨P, _, rfl, HP.out.1, HP.out.2.pre HX.out⟩
end Go.Proofs.Ytblbggdglndiiaa
