/- RefineCodes: its walk. -/
import Derived.Test.YtaabmlnbadpfgaaBnd9
import Derived.Test.YtaabmlnbadpfgaaInts
namespace Go.Proofs.Ytaabmlnbadpfgaa
open Go.RowKit Go.Shelf
set_option linter.unusedVariables false

theorem wrapu16 {x : Int} (h : (Lit.int .u16 x).wf = true) : 0 ≤ x ∧ x ≤ 65535 := by
  simpa [Lit.wf, IntKind.min, IntKind.max, IntKind.signed, IntKind.bits] using h
def CdI (N M cap0 : Nat) (w : World) (vs vi : Value) (wr : World) : Prop := ∃ (i nn cc : Nat) (oa : Option Addr) (acc : List Nat), vi = .int .i64 i ∧ vs = .slice oa nn cc ∧ i ≤ N ∧ nn = i ∧ acc.length = i ∧ (∀ x ∈ acc, x < M) ∧ IOn w acc (.slice oa nn cc) wr
set_option maxHeartbeats 4000000 in
set_option maxRecDepth 100000 in
theorem ref_law_codes (v : Value) (xs : List Int) (n0 : Nat) (w : World) (hv : ViewL w v (kints .u16 xs) ∧ xs.length ≤ 140737488351232) (hwf : ∀ x ∈ xs, (Lit.int .u16 x).wf = true) (h0 : n0 < 65536) :
    Calls Try.prog 5 #[v, .int .u16 n0] w fun e w' => e = .returned (.bool true) ∧ Ext w w' := by
  obtain ⟨hv, hxl⟩ := hv
  obtain ⟨ao, cap, rfl⟩ := hv.shape
  rw [length_kints] at hv ⊢
  obtain ⟨N, hN⟩ : ∃ N, N = xs.length := ⟨_, rfl⟩
  rw [← hN] at hv hxl ⊢
  obtain ⟨r, hr⟩ : ∃ r, r = n0 % 256 := ⟨_, rfl⟩
  obtain ⟨M, hM⟩ : ∃ M, M = 3 + r := ⟨_, rfl⟩
  have hr256 : r < 256 := by rw [hr]; exact Nat.mod_lt _ (by decide)
  have HM := Lib.hid (show 3 ≤ M ∧ M ≤ 258 from by omega)
  have q0 : IntKind.i64.wrap (n0 : Int) = (n0 : Int) := IntWalk.i64_in _ (by omega)
  have q1 : (n0 : Int).tmod 256 = (r : Int) := by rw [Int.tmod_eq_emod_of_nonneg (by omega), hr]; push_cast; rfl
  have q1' : (n0 : Int) % 256 = (r : Int) := by rw [hr]; push_cast; rfl
  have q2 : IntKind.i64.wrap (3 + (r : Int)) = (M : Int) := by rw [show 3 + (r : Int) = ((M : Nat) : Int) by omega]; exact IntWalk.i64_in _ (by omega)
  have HC := Lib.hid (show ∀ wr, Ext w wr → ∀ j, j < N → ∃ b o x, ao = some ⟨b, o, none⟩ ∧ x ≤ 65535 ∧ wr.cell? ⟨b, o + j, none⟩ = some (.int .u16 ((x : Nat) : Int)) from fun wr hx j hj => by
    obtain ⟨b, o, rfl, _, hc⟩ := viewL_cells hv (by rw [length_kints]; omega)
    have hjl : j < xs.length := by omega
    have hw := wrapu16 (hwf _ (List.getElem_mem hjl))
    refine ⟨b, o, (xs[j]).toNat, rfl, by omega, ?_⟩
    rw [show (((xs[j]).toNat : Nat) : Int) = xs[j] by omega]
    exact cell_touch hx (hc j _ (getElem?_kints .u16 xs j hjl)) (fun f => f))
  clear hv hwf hxl hN hr hM hr256
  by_cases hbig : 3000 < N
  · have hbz : (3000 : Int) < (N : Int) := by omega
    clear hbig
    go_enter Try.func5, Try.ntmps5
    go_wp2_with fail
    refine (ref_counts w).mono ?_
    rintro e w' ⟨rfl, hx⟩
    have HX := Lib.hid hx
    clear hx
    go_wp2_with fail
    go_ret
    exact ⟨rfl, HX.out⟩
  by_cases hz : N = 0
  · have hzz : ((N : Int) == 0) = true := by rw [beq_iff_eq]; omega
    have hbz : ¬ (3000 : Int) < (N : Int) := by omega
    clear hbig hz
    go_enter Try.func5, Try.ntmps5
    go_wp2_with fail
    refine (ref_counts w).mono ?_
    rintro e w' ⟨rfl, hx⟩
    have HX := Lib.hid hx
    clear hx
    go_wp2_with fail
    go_ret
    exact ⟨rfl, HX.out⟩
  have hzz : ((N : Int) == 0) = false := by rw [beq_eq_false_iff_ne]; omega
  have hbz : ¬ (3000 : Int) < (N : Int) := by omega
  have hN3 : (N : Int) ≤ 3000 := by omega
  have HN := Lib.hid (show 0 < N ∧ N ≤ 3000 from by omega)
  clear hbig hz
  go_enter Try.func5, Try.ntmps5
  go_wp2_with fail
  obtain ⟨i0, hi, hz0, hz1, hz2⟩ := info_parts info_int
  clear q0 q1 q1' q2
  go_loopw [6, 7] (fun vs vi wr => CdI N M cap w vs vi wr) (fun _ vi _ => N - (intOf vi).toNat)
  case atStart => exact ⟨0, 0, 0, none, [], by go_num, rfl, Nat.zero_le _, rfl, rfl, by simp, IOn.nil w⟩
  case round =>
    obtain ⟨i, nn, cc, oa, acc, rfl, rfl, him, hnn, hacc, hpos, hio⟩ := hrel
    have HI := Lib.hid (show i ≤ N ∧ nn = i ∧ acc.length = i ∧ (∀ x ∈ acc, x < M) ∧ IOn w acc (.slice oa nn cc) wr from ⟨him, hnn, hacc, hpos, hio⟩)
    clear him hnn hacc hpos hio
    by_cases hlt : i < N
    · have hltz : (i : Int) < (N : Int) := by omega
      obtain ⟨i1, hi1⟩ : ∃ i1, i1 = i + 1 := ⟨_, rfl⟩
      have wi : IntKind.i64.wrap ((i : Int) + 1) = (i1 : Int) := by rw [show (i : Int) + 1 = ((i1 : Nat) : Int) by omega]; exact IntWalk.i64_in _ (by have := HN.out; omega)
      have HLT := Lib.hid (show i1 = i + 1 ∧ i < N from ⟨hi1, hlt⟩)
      have hlen : nn + 1 ≤ 3000 := by have := HI.out; have := HN.out; omega
      obtain ⟨b, o, x, rfl, hx, hc⟩ := HC.out wr HI.out.2.2.2.2.toExt i hlt
      obtain ⟨y, hy⟩ : ∃ y, y = x % M := ⟨_, rfl⟩
      have hyM : y < M := by rw [hy]; exact Nat.mod_lt _ (by have := HM.out; omega)
      have wx0 : IntKind.i64.wrap (x : Int) = (x : Int) := IntWalk.i64_in _ (by omega)
      have wy : (x : Int).tmod (M : Int) = (y : Int) := by rw [Int.tmod_eq_emod_of_nonneg (by omega), hy]; push_cast; rfl
      have wy' : (x : Int) % (M : Int) = (y : Int) := by rw [hy]; push_cast; rfl
      have hM0 : ((M : Int) == 0) = false := by rw [beq_eq_false_iff_ne]; have := HM.out; omega
      have hM1 : ¬ (M : Int) = 0 := by have := HM.out; omega
      have hM2 : ¬ M = 0 := by have := HM.out; omega
      have HAPP := Lib.hid (show ∀ (v' : Value) (w5 : World) (o : Obj), w5.ownsRow 0 3 1 v' (nn + 1) (intsL acc ++ [.int .i64 y]) → (wr.alloc o).grownBy w5 (Value.slice oa nn cc).ownBlock → (v'.ownBlock = (Value.slice oa nn cc).ownBlock ∨ v'.ownBlock = some (wr.heap.size + 1)) → CdI N M cap w v' (.int .i64 i1) w5 from fun v' w5 o h1 h2 h3 => by
        obtain ⟨q1, q2, q3, q4, q5⟩ := HI.out
        have h9 := io_snoc q5 (y := y) (by rw [q3, ← q2]; exact h1) h2 h3
        obtain ⟨a5, c5, e5⟩ := h9.shape
        rw [List.length_append, List.length_singleton, q3] at e5
        refine ⟨i1, i1, c5, a5, acc ++ [y], rfl, by rw [e5, HLT.out.1], by have := HLT.out; omega, rfl, by simp [q3, HLT.out.1], fun z hz => ?_, by rw [← HLT.out.1] at e5; rw [← e5]; exact h9⟩
        rcases List.mem_append.1 hz with hz | hz
        · exact q4 z hz
        · rw [List.mem_singleton.1 hz]; exact hyM)
      have HOW := Lib.hid (show wr.ownsRow 0 3 1 (.slice oa nn cc) nn (intsL acc) from by
        have h8 := HI.out.2.2.2.2.choose_spec.1.1
        have h7 : acc.length = nn := by rw [HI.out.2.2.1, HI.out.2.1]
        rw [h7] at h8
        exact h8)
      clear hi1 hlt hx hy hyM
      go_wp2_with (at_builtin; go_must (refine wpList_append_own_at _ rfl (.tmp 35) (.tmp 43) 23 rfl 0 3 i0 (.int .i64 0) 1 8 Try.underlying23 hi hz0 hz1 hz2 rfl (by decide) _ nn (intsL acc) rfl (HOW.out.alloc _) ⟨wr.heap.size, 0, none⟩ 1 1 [.int .i64 y] rfl rfl (news _ _ _ _) (by simp [Value.oneCell']) (by unfold maxLen; omega) (by omega) (Nat.zero_le _) ?_))
      intro v' w5 hown' hgrow _ hat
      have HT := Lib.hid (HAPP.out v' w5 _ hown' hgrow hat)
      clear hown' hgrow hat hlen
      go_wp2_with fail
      go_roundw
      case rel => exact HT.out
      case measure => simp [intOf]; have := HLT.out; omega
    · have hltz : ¬ (i : Int) < (N : Int) := by omega
      have hiN : i = N := by have := HI.out.1; omega
      obtain rfl : nn = N := by have := HI.out.2.1; omega
      have hal : acc.length = nn := by rw [HI.out.2.2.1]; omega
      have hch := choose_yes (.slice oa nn cc) acc M wr (by have h := HI.out.2.2.2.2.viewL; exact h) (by rw [hal]; exact HN.out.1) (by rw [hal]; have := HN.out; omega) HI.out.2.2.2.1 HM.out.1 HM.out.2
      have HCH := Lib.hid hch
      have HAL := Lib.hid hal
      clear hch hal hlt
      go_wp2_with fail
      refine HCH.out.mono ?_
      rintro e w6 ⟨lv, gv, rfl, r1, r2, hx⟩
      obtain ⟨la, lc, rfl⟩ := r1.shape
      obtain ⟨ga, gc, rfl⟩ := r2.shape
      have hal2 := HAL.out
      rw [length_intsL, chCh_len, hal2] at r2 ⊢
      clear hal2
      have hm := chLs_many acc M (chPick acc M)
      obtain ⟨m, hme⟩ : ∃ m, m = (chLs acc M (chPick acc M)).length := ⟨_, rfl⟩
      obtain ⟨G, hG⟩ : ∃ G, G = manyG nn := ⟨_, rfl⟩
      rw [← hme] at hm r1 ⊢
      rw [← hG] at r2 ⊢
      have hGn : G = (nn + 49) / 50 := hG
      have m2 : ¬ (m : Int) < 2 := by omega
      have m6 : ¬ (6 : Int) < (m : Int) := by omega
      have g1 : ((nn : Int) + 49) / 50 = (G : Int) := by omega
      have g2 : ((nn : Int) + 49).tdiv 50 = (G : Int) := by rw [Int.tdiv_eq_ediv_of_nonneg (by omega)]; omega
      have HR := Lib.hid (show RowsV w6 (.slice la m lc) (chLs acc M (chPick acc M)) ∧ ViewL w6 (.slice ga G gc) (intsL (chCh acc M (chPick acc M))) ∧ Ext w w6 ∧ m = (chLs acc M (chPick acc M)).length ∧ 2 ≤ m ∧ m ≤ 6 ∧ G = (nn + 49) / 50 ∧ (∀ c ∈ chCh acc M (chPick acc M), c < m) ∧ (∀ L ∈ chLs acc M (chPick acc M), GoodC L M) ∧ (chCh acc M (chPick acc M)).length = G from ⟨r1, r2, HI.out.2.2.2.2.toExt.trans hx, hme, hm.1, hm.2.1, hGn, fun c hc => hm.2.2 c hc (by rw [HAL.out]; exact HN.out.1), chLs_good HM.out _, by rw [chCh_len, HAL.out, hG]⟩)
      clear r1 r2 hx hm hme hG hGn
      obtain ⟨Ls, hLs⟩ : ∃ Ls, Ls = chLs acc M (chPick acc M) := ⟨_, rfl⟩
      obtain ⟨ch, hch⟩ : ∃ ch, ch = chCh acc M (chPick acc M) := ⟨_, rfl⟩
      rw [← hLs, ← hch] at HR
      have hm6 : (m : Int) ≤ 6 := by have := HR.out; omega
      have hM258 : (M : Int) ≤ 258 := by have := HM.out; omega
      have hG60 : (G : Int) ≤ 60 := by have := HR.out; have := HN.out; omega
      clear hLs hch HCH HAL HI
      go_wp2_with fail
      go_loop [11, 12, 13, 14] (fun vi _ _ _ => ∃ i : Nat, vi = .int .i64 i ∧ i ≤ m) (fun vi _ _ _ => m - (intOf vi).toNat)
      case atStart => exact ⟨0, rfl, Nat.zero_le _⟩
      case round =>
        obtain ⟨i, rfl, him⟩ := hrel
        by_cases hlt : i < m
        · have hltz : (i : Int) < (m : Int) := by omega
          obtain ⟨L, hLi⟩ : ∃ L, Ls[i]? = some L := ⟨_, List.getElem?_eq_getElem (show i < Ls.length by have := HR.out.2.2.2.1; omega)⟩
          have hg := HR.out.2.2.2.2.2.2.2.2.1 L (List.mem_of_getElem? hLi)
          obtain ⟨b1, o1, uo, uc, e1, crow, hvi⟩ := HR.out.1.at hLi hg.1
          cases e1
          have hkc := kraft_classify (.slice uo M uc) L w6 hvi (by rw [hg.1]; have := HM.out; omega)
          have HKC := Lib.hid (show Calls Try.prog 14 #[.slice uo M uc] w6 fun e w' => e = .returned (.tuple #[.int .u8 (classL L), .int .i64 0]) ∧ w6 = w' from hkc.mono fun e w' ⟨h, k⟩ => by
            rcases h with ⟨_, h⟩ | ⟨h, _⟩
            · exact ⟨h, k⟩
            · exact (h (hg.may HM.out.2)).elim)
          obtain ⟨C, hC⟩ : ∃ C, C = classL L := ⟨_, rfl⟩
          have hC3 : ¬ C = 3 := fun e => by
            have h1 := (classL_over L).1 (by rw [← hC, e])
            have := hg.2.2
            omega
          rw [← hC] at HKC
          have hC3z : ((C : Int) == 3) = false := by rw [beq_eq_false_iff_ne]; omega
          have HL := Lib.hid (show L.length = M ∧ (∀ x ∈ L, 1 ≤ x ∧ x ≤ 17) ∧ ViewL w6 (.slice uo M uc) (u8s L) ∧ i < m from ⟨hg.1, hg.2.1, hvi, hlt⟩)
          clear hLi hg hvi hkc hC hC3 hlt him
          go_wp2_with fail
          refine HKC.out.mono ?_
          rintro e w7 ⟨rfl, hw⟩
          obtain rfl := hw
          clear HKC
          go_wp2_with fail
          go_loop [14] (fun vk => ∃ k : Nat, vk = .int .i64 k ∧ k ≤ M) (fun vk => M - (intOf vk).toNat)
          case atStart => exact ⟨0, rfl, Nat.zero_le _⟩
          case round =>
            obtain ⟨k, rfl, hkM⟩ := hrel
            by_cases hk : k < M
            · have hkz : (k : Int) < (M : Int) := by omega
              have hkl : k < L.length := by have := HL.out.1; omega
              obtain ⟨b2, o2, e2, _, hc2⟩ := viewL_cells HL.out.2.2.1 (by rw [length_u8s]; omega)
              cases e2
              have cx := hc2 k _ (getElem?_u8s L k hkl)
              obtain ⟨x, hx⟩ : ∃ x, x = L.getD k 0 := ⟨_, rfl⟩
              rw [← hx] at cx
              have hxb : 1 ≤ x ∧ x ≤ 17 := by
                rw [hx, List.getD, List.getElem?_eq_getElem hkl]
                exact HL.out.2.1 _ (List.getElem_mem hkl)
              have x1 : ¬ (x : Int) < 1 := by omega
              have x17 : ¬ (17 : Int) < (x : Int) := by omega
              have HKL := Lib.hid hk
              clear hk hkl hc2 hx hxb hkM
              go_wp2_with fail
              go_round
              case rel => exact ⟨k + 1, by go_num, by have := HKL.out; omega⟩
              case measure => simp [intOf]; have := HKL.out; omega
            · have hkz : ¬ (k : Int) < (M : Int) := by omega
              clear hk hkM
              go_wp2_with fail
              go_round
              case rel => exact ⟨i + 1, by go_num, by have := HL.out; omega⟩
              case measure => simp [intOf]; have := HL.out; omega
        · have hltz : ¬ (i : Int) < (m : Int) := by omega
          clear hlt him
          go_wp2_with fail
          go_loop [15] (fun vk => ∃ k : Nat, vk = .int .i64 k ∧ k ≤ G) (fun vk => G - (intOf vk).toNat)
          case atStart => exact ⟨0, rfl, Nat.zero_le _⟩
          case round =>
            obtain ⟨k, rfl, hkG⟩ := hrel
            by_cases hk : k < G
            · have hkz : (k : Int) < (G : Int) := by omega
              have hkl : k < ch.length := by have := HR.out.2.2.2.2.2.2.2.2.2; omega
              obtain ⟨b2, o2, e2, _, hc2⟩ := viewL_cells HR.out.2.1 (by rw [length_intsL]; omega)
              cases e2
              obtain ⟨x, hx⟩ : ∃ x, x = ch.getD k 0 := ⟨_, rfl⟩
              have cx := hc2 k (.int .i64 x) (by rw [hx]; simp [intsL, List.getD, hkl])
              have hxm : x < m := by
                rw [hx, List.getD, List.getElem?_eq_getElem hkl]
                exact HR.out.2.2.2.2.2.2.2.1 _ (List.getElem_mem hkl)
              have x1 : ¬ (x : Int) < 0 := by omega
              have x2 : ¬ (m : Int) ≤ (x : Int) := by omega
              have HKL := Lib.hid hk
              clear hk hkl hc2 hx hxm hkG
              go_wp2_with fail
              go_round
              case rel => exact ⟨k + 1, by go_num, by have := HKL.out; omega⟩
              case measure => simp [intOf]; have := HKL.out; omega
            · have hkz : ¬ (k : Int) < (G : Int) := by omega
              clear hk hkG
              go_wp2_with fail
              refine (ref_counts w6).mono ?_
              rintro e w8 ⟨rfl, hx⟩
              have HX := Lib.hid (HR.out.2.2.1.trans hx)
              clear hx
              go_wp2_with fail
              go_ret
              exact ⟨rfl, HX.out⟩
end Go.Proofs.Ytaabmlnbadpfgaa
