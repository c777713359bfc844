/- pressworklaw05.LimitTight: its walk. -/
import Derived.Test.YtblbggdglndiiaaLimKnown
namespace Go.Proofs.Ytblbggdglndiiaa
open Go.RowKit
set_option linter.unusedVariables false

theorem wrapu16 {x : Int} (h : (Lit.int .u16 x).wf = true) : 0 ≤ x ∧ x ≤ 65535 := by
  simpa [Lit.wf, IntKind.min, IntKind.max, IntKind.signed, IntKind.bits] using h
def TiI (nf m k : Nat) (w : World) (vo vi : Value) (wr : World) : Prop :=
  ∃ (i nn cc : Nat) (oa : Option Addr) (acc : List Nat), vi = .int .i64 i ∧ vo = .slice oa nn cc ∧ i ≤ m ∧ nn = i ∧ acc.length = i ∧ (∀ x ∈ acc, 1 ≤ x ∧ x ≤ 65536) ∧ IOn w acc (.slice oa nn cc) wr
def TiJ (m : Nat) (w3 : World) (vi : Value) (wr : World) : Prop := ∃ i : Nat, vi = .int .i64 i ∧ i ≤ m ∧ wr = w3
theorem all_pos {F P : List Nat} (h : IsOrd F P) (hp : ∀ x ∈ F, 1 ≤ x) : P.length = F.length := by
  rw [ord_len h, List.filter_eq_self.2]
  intro x hx
  have := hp x hx
  simp; omega
theorem tight_lens {F P : List Nat} {k : Nat} (h : IsOrd F P) (hk : 1 ≤ k) (hp : ∀ x ∈ F, 1 ≤ x) (hl : F.length = 2 ^ k) : lensP F P (k - 1) = List.replicate F.length k := by
  have hP := all_pos h hp
  have h2 : 2 ≤ 2 ^ k := by
    have : 2 ^ 1 ≤ 2 ^ k := Nat.pow_le_pow_right (by decide) hk
    simpa using this
  refine List.eq_replicate_iff.2 ⟨by simp [lensP], fun b hb => ?_⟩
  obtain ⟨s, hs, rfl⟩ := List.mem_map.1 hb
  rw [List.mem_range] at hs
  have hsP : s ∈ P := (h.mem s).2 ⟨hs, by have := hp _ (getD_mem hs); omega⟩
  have := tight_len h (k - 1) (by rw [hP, hl, show k - 1 + 1 = k by omega]) s hsP
  rw [lenP, this, lenInit, if_neg (by omega)]
  omega
set_option maxHeartbeats 4000000 in
set_option maxRecDepth 100000 in
theorem lim_tight (n0 : Nat) (v : Value) (xs : List Int) (w : World) (h0 : n0 < 256) (hv : ViewL w v (kints .u16 xs) ∧ xs.length ≤ 140737488351232) (hwf : ∀ x ∈ xs, (Lit.int .u16 x).wf = true) :
    Calls Try.prog 6 #[.int .u8 n0, v] w fun e w' => e = .returned (.bool true) ∧ Ext w w' := by
  obtain ⟨hv, hxl⟩ := hv
  obtain ⟨ao, cap, rfl⟩ := hv.shape
  rw [length_kints] at hv ⊢
  obtain ⟨nf, hnf⟩ : ∃ nf, nf = xs.length := ⟨_, rfl⟩
  rw [← hnf] at hv hxl ⊢
  obtain ⟨r, hr⟩ : ∃ r, r = n0 % 7 := ⟨_, rfl⟩
  obtain ⟨k, hk⟩ : ∃ k, k = 1 + r := ⟨_, rfl⟩
  obtain ⟨m, hm⟩ : ∃ m, m = 2 ^ k := ⟨_, rfl⟩
  have hr7 : r < 7 := by rw [hr]; exact Nat.mod_lt _ (by decide)
  have hmb : m ≤ 128 ∧ 2 ≤ m := by
    rw [hm]
    exact ⟨(Nat.pow_le_pow_right (by decide) (show k ≤ 7 by omega) : 2 ^ k ≤ 2 ^ 7), (Nat.pow_le_pow_right (by decide) (show 1 ≤ k by omega) : 2 ^ 1 ≤ 2 ^ k)⟩
  have HK := Lib.hid (show k = 1 + r ∧ r < 7 ∧ m = 2 ^ k ∧ m ≤ 128 ∧ 2 ≤ m from ⟨hk, hr7, hm, hmb.1, hmb.2⟩)
  have w0 : IntKind.i64.wrap (n0 : Int) = (n0 : Int) := IntWalk.i64_in _ (by omega)
  have w1 : (n0 : Int).tmod 7 = (r : Int) := by rw [Int.tmod_eq_emod_of_nonneg (by omega), hr]; push_cast; rfl
  have w2 : IntKind.i64.wrap (1 + (r : Int)) = (k : Int) := by rw [show 1 + (r : Int) = ((k : Nat) : Int) by omega]; exact IntWalk.i64_in _ (by omega)
  have w3 : IntKind.i64.wrap ((2 : Int) ^ (min k 64)) = (m : Int) := by rw [show min k 64 = k by omega, show (2 : Int) ^ k = (m : Int) by rw [hm]; push_cast; rfl]; exact IntWalk.i64_in _ (by omega)
  have hk0 : (0 : Int) ≤ (k : Int) := by omega
  have HC := Lib.hid (show ∀ wr, Ext w wr → ∀ j, j < nf → ∃ b o x, ao = some ⟨b, o, none⟩ ∧ x ≤ 65535 ∧ wr.cell? ⟨b, o + j, none⟩ = some (.int .u16 ((x : Nat) : Int)) from fun wr hx j hj => by
    obtain ⟨b, o, rfl, _, hc⟩ := viewL_cells hv (by rw [length_kints]; omega)
    have hjl : j < xs.length := by omega
    have hw := wrapu16 (hwf _ (List.getElem_mem hjl))
    refine ⟨b, o, (xs[j]).toNat, rfl, by omega, ?_⟩
    rw [show (((xs[j]).toNat : Nat) : Int) = xs[j] by omega]
    exact cell_touch hx (hc j _ (getElem?_kints .u16 xs j hjl)) (fun f => f))
  have hnz : (nf : Int) < 4611686018427387904 := by omega
  clear hv hwf hxl hnf hr hk hm hr7 hmb
  go_enter Try.func6, Try.ntmps6
  go_wp2_with fail
  obtain ⟨i0, hi, hz0, hz1, hz2⟩ := info_parts info_int
  clear w0 w1 w2
  go_loopw [6, 7] (fun vo vi wr => TiI nf m k w vo vi wr) (fun _ vi _ => m - (intOf vi).toNat)
  case atStart => exact ⟨0, 0, 0, none, [], by go_num, rfl, Nat.zero_le _, rfl, rfl, by simp, IOn.nil w⟩
  case round =>
    obtain ⟨i, nn, cc, oa, acc, rfl, rfl, him, hnn, hacc, hpos, hio⟩ := hrel
    have HI := Lib.hid (show i ≤ m ∧ nn = i ∧ acc.length = i ∧ (∀ x ∈ acc, 1 ≤ x ∧ x ≤ 65536) ∧ IOn w acc (.slice oa nn cc) wr from ⟨him, hnn, hacc, hpos, hio⟩)
    clear him hnn hacc hpos hio
    by_cases hlt : i < m
    · have hltz : (i : Int) < (m : Int) := by omega
      obtain ⟨i1, hi1⟩ : ∃ i1, i1 = i + 1 := ⟨_, rfl⟩
      have wi : IntKind.i64.wrap ((i : Int) + 1) = (i1 : Int) := by rw [show (i : Int) + 1 = ((i1 : Nat) : Int) by omega]; exact IntWalk.i64_in _ (by have := HK.out; omega)
      have HLT := Lib.hid (show i1 = i + 1 ∧ i < m from ⟨hi1, hlt⟩)
      have hlen : nn + 1 ≤ 1024 := by have := HI.out; have := HK.out; omega
      have HAPP := Lib.hid (show ∀ (x : Nat) (v' : Value) (w5 : World) (o : Obj), 1 ≤ x → x ≤ 65536 → w5.ownsRow 0 3 1 v' (nn + 1) (intsL acc ++ [.int .i64 x]) → (wr.alloc o).grownBy w5 (Value.slice oa nn cc).ownBlock → (v'.ownBlock = (Value.slice oa nn cc).ownBlock ∨ v'.ownBlock = some (wr.heap.size + 1)) → TiI nf m k w v' (.int .i64 i1) w5 from fun x v' w5 o hx1 hx2 h1 h2 h3 => by
        obtain ⟨q1, q2, q3, q4, q5⟩ := HI.out
        have h9 := io_snoc q5 (y := x) (by rw [q3, ← q2]; exact h1) h2 h3
        obtain ⟨a5, c5, e5⟩ := h9.shape
        rw [List.length_append, List.length_singleton, q3] at e5
        refine ⟨i1, i1, c5, a5, acc ++ [x], rfl, by rw [e5, HLT.out.1], by have := HLT.out; omega, rfl, by simp [q3, HLT.out.1], fun y hy => ?_, by rw [← HLT.out.1] at e5; rw [← e5]; exact h9⟩
        rcases List.mem_append.1 hy with hy | hy
        · exact q4 y hy
        · rw [List.mem_singleton.1 hy]; exact ⟨hx1, hx2⟩)
      have HOW := Lib.hid (show wr.ownsRow 0 3 1 (.slice oa nn cc) nn (intsL acc) from by
        have h8 := HI.out.2.2.2.2.choose_spec.1.1
        have h7 : acc.length = nn := by rw [HI.out.2.2.1, HI.out.2.1]
        rw [h7] at h8
        exact h8)
      have HAL := Lib.hid (show (intsL acc).length = nn from by rw [length_intsL, HI.out.2.2.1, HI.out.2.1])
      clear hi1 hlt
      by_cases hf0 : nf = 0
      · have hfz : ¬ (0 : Int) < (nf : Int) := by omega
        have hfn : ¬ 0 < nf := by omega
        clear hf0
        go_wp2_with (at_builtin; go_must (refine wpList_append_own_at _ rfl (.tmp 36) (.tmp 38) 24 rfl 0 3 i0 (.int .i64 0) 1 8 Try.underlying24 hi hz0 hz1 hz2 rfl (by decide) _ nn (intsL acc) rfl (HOW.out.alloc _) ⟨wr.heap.size, 0, none⟩ 1 1 [.int .i64 1] rfl rfl (news _ _ _ _) (by simp [Value.oneCell']) (by unfold maxLen; omega) (by omega) (Nat.zero_le _) ?_))
        intro v' w5 hown' hgrow _ hat
        have HT := Lib.hid (HAPP.out 1 v' w5 _ (by omega) (by omega) hown' hgrow hat)
        clear hown' hgrow hat hlen
        go_wp2_with fail
        exact ⟨HT.out, by simp [intOf]; have := HLT.out; omega⟩
      · have hfz : (0 : Int) < (nf : Int) := by omega
        have hfn : 0 < nf := by omega
        obtain ⟨j, hj⟩ : ∃ j, j = i % nf := ⟨_, rfl⟩
        have hjn : j < nf := by rw [hj]; exact Nat.mod_lt _ hfn
        obtain ⟨b, o, x, rfl, hx, hc⟩ := HC.out wr HI.out.2.2.2.2.toExt j hjn
        have wj : (i : Int).tmod (nf : Int) = (j : Int) := by rw [Int.tmod_eq_emod_of_nonneg (by omega), hj]; push_cast; rfl
        have hfe : ((nf : Int) == 0) = false := by rw [beq_eq_false_iff_ne]; omega
        have hjz : (j : Int) < (nf : Int) := by omega
        obtain ⟨x1, hx1⟩ : ∃ x1, x1 = 1 + x := ⟨_, rfl⟩
        have wx0 : IntKind.i64.wrap (x : Int) = (x : Int) := IntWalk.i64_in _ (by omega)
        have wx : IntKind.i64.wrap (1 + (x : Int)) = (x1 : Int) := by rw [show 1 + (x : Int) = ((x1 : Nat) : Int) by omega]; exact IntWalk.i64_in _ (by omega)
        have HX := Lib.hid (show 1 ≤ x1 ∧ x1 ≤ 65536 from by omega)
        clear hf0 hj hjn hx hx1
        go_wp2_with (at_builtin; go_must (refine wpList_append_own_at _ rfl (.tmp 36) (.tmp 38) 24 rfl 0 3 i0 (.int .i64 0) 1 8 Try.underlying24 hi hz0 hz1 hz2 rfl (by decide) _ nn (intsL acc) rfl (HOW.out.alloc _) ⟨wr.heap.size, 0, none⟩ 1 1 [.int .i64 x1] rfl rfl (news _ _ _ _) (by simp [Value.oneCell']) (by unfold maxLen; omega) (by omega) (Nat.zero_le _) ?_))
        intro v' w5 hown' hgrow _ hat
        have HT := Lib.hid (HAPP.out x1 v' w5 _ HX.out.1 HX.out.2 hown' hgrow hat)
        clear hown' hgrow hat hlen
        go_wp2_with fail
        exact ⟨HT.out, by simp [intOf]; have := HLT.out; omega⟩
    · have hltz : ¬ (i : Int) < (m : Int) := by omega
      have HIM := Lib.hid (show i = m from by have := HI.out.1; omega)
      have hnnm : nn = m := by have := HI.out.2.1; have := HIM.out; omega
      obtain ⟨P, hP⟩ := ord_exists acc
      have hal : acc.length = 2 ^ k := by rw [HI.out.2.2.1, HIM.out]; exact HK.out.2.2.1
      have hpos : ∀ x ∈ acc, 1 ≤ x := fun x hx => (HI.out.2.2.2.1 x hx).1
      have hPl := all_pos hP hpos
      have hlen := lim_len (.slice oa nn cc) acc P k wr HI.out.2.2.2.2.viewL (by have := HK.out; omega) (by have := HK.out; omega) (by have := HK.out; omega) (fun x hx => by have := HI.out.2.2.2.1 x hx; omega) hP (by omega)
      rw [tight_lens hP (by have := HK.out; omega) hpos hal] at hlen
      have HL := Lib.hid hlen
      have HA := Lib.hid (show acc.length = m from by rw [HI.out.2.2.1, HIM.out])
      obtain ⟨Q, hQ⟩ := ord_exists (acc ++ [1])
      have hQl := all_pos hQ (fun x hx => by
        rcases List.mem_append.1 hx with h | h
        · exact hpos x h
        · rw [List.mem_singleton.1 h]; exact Nat.le_refl 1)
      have HFORM := Lib.hid (show ∀ (v' : Value) (w5 : World), ViewL w5 v' (intsL (acc ++ [1])) → Calls Try.prog 11 #[v', .int .i64 k] w5 fun e w' => e = .returned (.tuple #[.slice none 0 0, .int .i64 2]) ∧ Ext w5 w' from fun v' w5 hv' =>
        lim_len_form v' (acc ++ [1]) Q k w5 hv' (by have := HK.out; omega) (by have := HK.out; omega) (by rw [List.length_append]; have := HK.out; simp; omega) (fun x hx => by
          rcases List.mem_append.1 hx with h | h
          · have := HI.out.2.2.2.1 x h; omega
          · rw [List.mem_singleton.1 h]; decide) hQ (by rw [hQl, List.length_append, hal]; simp))
      clear hlt hlen hP hal hpos hPl hQ hQl
      subst hnnm
      go_wp2_with fail
      refine Calls.mono HL.out ?_
      rintro e w4 ⟨ov, rfl, hbo⟩
      obtain ⟨oa2, oc2, hov⟩ := hbo.viewL.shape
      rw [length_u8s, List.length_replicate, HA.out] at hov
      subst hov
      have HBO := Lib.hid hbo
      have HOC := Lib.hid (show ∀ j, j < nn → ∃ b o, oa2 = some ⟨b, o, none⟩ ∧ w4.cell? ⟨b, o + j, none⟩ = some (.int .u8 k) from fun j hj => by
        have h := hbo.viewL
        obtain ⟨b, o, rfl, _, hc⟩ := viewL_cells h (by rw [length_u8s, List.length_replicate, HA.out]; omega)
        exact ⟨b, o, rfl, hc j (.int .u8 k) (by simp [u8s, HA.out, hj])⟩)
      clear hbo HL
      go_wp2_with fail
      go_loopw [11] (fun vi wr => TiJ nn w4 vi wr) (fun vi _ => nn - (intOf vi).toNat)
      case atStart => exact ⟨0, by go_num, Nat.zero_le _, rfl⟩
      case round =>
        obtain ⟨j, rfl, hjn, hwr⟩ := hrel
        have HJ := Lib.hid (show j ≤ nn ∧ wr = w4 from ⟨hjn, hwr⟩)
        clear hjn hwr
        by_cases hjl : j < nn
        · have hjz : (j : Int) < (nn : Int) := by omega
          obtain ⟨b, o, rfl, hc⟩ := HOC.out j hjl
          have hc' : wr.cell? ⟨b, o + j, none⟩ = some (.int .u8 k) := by rw [HJ.out.2]; exact hc
          obtain ⟨j1, hj1⟩ : ∃ j1, j1 = j + 1 := ⟨_, rfl⟩
          have wj : IntKind.i64.wrap ((j : Int) + 1) = (j1 : Int) := by rw [show (j : Int) + 1 = ((j1 : Nat) : Int) by omega]; exact IntWalk.i64_in _ (by have := HK.out; omega)
          have wk : IntKind.i64.wrap (k : Int) = (k : Int) := IntWalk.i64_in _ (by have := HK.out; omega)
          have HJ1 := Lib.hid (show j1 = j + 1 ∧ j < nn from ⟨hj1, hjl⟩)
          clear hj1 hjl hc
          go_wp2_with fail
          exact ⟨⟨j1, rfl, by have := HJ1.out; omega, HJ.out.2⟩, by simp [intOf]; have := HJ1.out; omega⟩
        · have hjz : ¬ (j : Int) < (nn : Int) := by omega
          have HW4 := Lib.hid (show wr = w4 from HJ.out.2)
          have HIO4 := Lib.hid (show IOn w acc (.slice oa nn cc) wr from by rw [HJ.out.2]; exact HI.out.2.2.2.2.ext HBO.out.toExt)
          have HOW4 := Lib.hid (show wr.ownsRow 0 3 1 (.slice oa nn cc) nn (intsL acc) from by
            have h8 := HIO4.out.choose_spec.1.1
            rw [HA.out] at h8
            exact h8)
          have hlen : nn + 1 ≤ 1024 := by have := HK.out; omega
          clear hjl
          go_wp2_with (at_builtin; go_must (refine wpList_append_own_at _ rfl (.tmp 69) (.tmp 70) 24 rfl 0 3 i0 (.int .i64 0) 1 8 Try.underlying24 hi hz0 hz1 hz2 rfl (by decide) _ nn (intsL acc) rfl (HOW4.out.alloc _) ⟨wr.heap.size, 0, none⟩ 1 1 [.int .i64 1] rfl rfl (news _ _ _ _) (by simp [Value.oneCell']) (by unfold maxLen; omega) (by omega) (Nat.zero_le _) ?_))
          intro v' w5 hown' hgrow _ hat
          have h9 := io_snoc HIO4.out (y := 1) (by rw [HA.out]; exact hown') hgrow hat
          have HC5 := Lib.hid (HFORM.out v' w5 h9.viewL)
          have HX5 := Lib.hid h9.toExt
          clear hown' hgrow hat h9 hlen
          go_wp2_with fail
          refine Calls.mono HC5.out ?_
          rintro e w6 ⟨rfl, hx6⟩
          have HX6 := Lib.hid hx6
          clear hx6 HC5
          go_wp2_with fail
          refine (lim_picks w6).mono ?_
          rintro e w7 ⟨rfl, hx7⟩
          have HX7 := Lib.hid hx7
          clear hx7
          go_wp2_with fail
          go_ret
          exact ⟨rfl, HX5.out.trans (HX6.out.trans HX7.out)⟩
end Go.Proofs.Ytblbggdglndiiaa
