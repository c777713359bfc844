/- header.may: its walk. -/
import Derived.Outline
import Derived.Deep.DeepMust
import Derived.Test.YtbbcphloafmldaaGreatBnd7
import Derived.Test.YtbbcphloafmldaaGreatBnd11
import Derived.Test.YtbbcphloafmldaaGreatBnd5
namespace Go.Proofs.YtbbcphloafmldaaGreat
open Go.RowKit
set_option linter.unusedVariables false

theorem hdr_gt15 (x : Nat) (w : World) (hx : x < 256) : Calls Tryz.prog 135 #[.int .u8 x] w fun e w' => e = .returned (.bool (decide (15 < x))) ∧ w = w' := by
  by_cases h : 15 < x
  · have h1 : (15 : Int) < (x : Int) := by omega
    rw [show decide (15 < x) = true by simpa using h]
    go_enter Tryz.func135, Tryz.ntmps135
    go_wp2_with fail
    go_ret
    exact ⟨rfl, rfl⟩
  · have h1 : ¬ (15 : Int) < (x : Int) := by omega
    rw [show decide (15 < x) = false by simpa using h]
    go_enter Tryz.func135, Tryz.ntmps135
    go_wp2_with fail
    go_ret
    exact ⟨rfl, rfl⟩

set_option maxHeartbeats 800000 in
theorem hdr_index (sv : Value) (bs : List Nat) (w : World) (hv : ViewL w sv (u8s bs)) (h256 : ∀ b ∈ bs, b < 256) (hlen : bs.length ≤ 2 ^ 40) :
    Calls Tryz.prog 142 #[sv, .func (.func 135) #[] #[]] w fun e w' => ∃ i : Int, e = .returned (.int .i64 i) ∧ (0 ≤ i ↔ okLens bs = false) ∧ -1 ≤ i ∧ w = w' := by
  obtain ⟨ao, cap, rfl⟩ := hv.shape
  rw [length_u8s] at *
  have HV := Lib.hid hv
  have H256 := Lib.hid h256
  clear hv h256
  go_enter Tryz.func142, Tryz.ntmps142
  go_wp2_with fail
  go_loopw [8] (fun i wr => ∃ k : Nat, i = .int .i64 k ∧ k ≤ bs.length ∧ (∀ j x, j < k → bs[j]? = some x → x ≤ 15) ∧ wr = w) (fun i _ => bs.length - (intOf i).toNat)
  case atStart => exact ⟨0, rfl, Nat.zero_le _, fun j x hj => absurd hj (Nat.not_lt_zero _), rfl⟩
  case round =>
    obtain ⟨k, rfl, hk, hall, rfl⟩ := hrel
    have HALL := Lib.hid hall
    clear hall
    by_cases hlt : k < bs.length
    · have hlti : (k : Int) < (bs.length : Int) := by omega
      obtain ⟨b, o, rfl, hc⟩ := rep_cells HV.out (by rw [length_u8s]; omega)
      obtain ⟨x, hxk⟩ : ∃ x, bs[k]? = some x := ⟨_, List.getElem?_eq_getElem hlt⟩
      have hcx := hc k (.int .u8 x) (by simp [u8s, hxk])
      have hx256 := H256.out x (List.mem_of_getElem? hxk)
      have HXK := Lib.hid hxk
      clear hc hxk
      go_wp2_with fail
      refine (hdr_gt15 x _ hx256).mono ?_
      rintro e w' ⟨rfl, rfl⟩
      by_cases hx : 15 < x
      · rw [show decide (15 < x) = true by simpa using hx]
        go_wp2_with fail
        go_ret
        refine ⟨k, rfl, ⟨fun _ => ?_, fun _ => by omega⟩, by omega, rfl⟩
        cases ho : okLens bs with
        | false => rfl
        | true =>
          have := List.all_eq_true.1 ho x (List.mem_of_getElem? HXK.out)
          simp at this; omega
      · rw [show decide (15 < x) = false by simpa using hx]
        have hf : ∀ j y, j < k + 1 → bs[j]? = some y → y ≤ 15 := fun j y hj hy => by
          by_cases h : j < k
          · exact HALL.out j y h hy
          · rw [show j = k by omega, HXK.out] at hy
            cases hy; omega
        have HF := Lib.hid hf
        clear hf
        go_wp2_with fail
        go_roundw
        case rel => exact ⟨k + 1, by go_num, by omega, HF.out, trivial⟩
        case measure => simp [intOf]; omega
    · obtain rfl : k = bs.length := by omega
      go_wp2_with fail
      go_ret
      refine ⟨-1, rfl, ⟨fun h => by omega, fun h => ?_⟩, by omega, rfl⟩
      exfalso
      have : okLens bs = true := by
        rw [okLens, List.all_eq_true]
        intro x hx
        obtain ⟨j, hj, rfl⟩ := List.getElem_of_mem hx
        have := HALL.out j _ hj (List.getElem?_eq_getElem hj)
        simpa using this
      rw [this] at h; cases h
theorem hdr_contains (sv : Value) (bs : List Nat) (w : World) (hv : ViewL w sv (u8s bs)) (h256 : ∀ b ∈ bs, b < 256) (hlen : bs.length ≤ 2 ^ 40) :
    Calls Tryz.prog 136 #[sv, .func (.func 135) #[] #[]] w fun e w' => e = .returned (.bool (!okLens bs)) ∧ w = w' := by
  go_enter Tryz.func136, Tryz.ntmps136
  go_wp2_with fail
  refine (hdr_index sv bs _ hv h256 hlen).mono ?_
  rintro e w' ⟨i, rfl, h1, h2, rfl⟩
  cases ho : okLens bs with
  | true =>
    rw [ho] at h1
    have h3 : ¬ 0 ≤ i := fun h => by have := h1.1 h; cases this
    have HO := Lib.hid ho
    clear h1 ho
    go_wp2_with fail
    go_ret
    exact ⟨by rw [HO.out]; simp [h3], rfl⟩
  | false =>
    rw [ho] at h1
    have h3 : 0 ≤ i := h1.2 rfl
    have HO := Lib.hid ho
    clear h1 ho
    go_wp2_with fail
    go_ret
    exact ⟨by rw [HO.out]; rfl, rfl⟩
def sumTo (L : List Nat) (k : Nat) : Nat := (L.take k).sum
theorem sumTo_le {L : List Nat} {k : Nat} (h : ∀ j x, j < k → L[j]? = some x → x ≤ 1) : sumTo L k ≤ k := by
  induction k with
  | zero => simp [sumTo]
  | succ k ih =>
    have h1 := ih (fun j x hj hx => h j x (by omega) hx)
    unfold sumTo at h1 ⊢
    rw [List.take_add_one, List.sum_append]
    cases hk : L[k]? with
    | none => simp; omega
    | some x => have := h k x (by omega) hk; simp; omega
theorem sumTo_succ {L : List Nat} {k x : Nat} (h : L[k]? = some x) : sumTo L (k + 1) = sumTo L k + x := by
  unfold sumTo
  rw [List.take_add_one, List.sum_append, h]; simp
set_option maxHeartbeats 800000 in
theorem hdr_single (sv : Value) (bs : List Nat) (w : World) (hv : ViewL w sv (u8s bs)) (h256 : ∀ b ∈ bs, b < 256) (hlen : bs.length ≤ 2 ^ 40) :
    Calls Tryz.prog 137 #[sv] w fun e w' => e = .returned (.bool (singleL bs)) ∧ w = w' := by
  obtain ⟨ao, cap, rfl⟩ := hv.shape
  rw [length_u8s] at *
  have HV := Lib.hid hv
  have H256 := Lib.hid h256
  clear hv h256
  go_enter Tryz.func137, Tryz.ntmps137
  go_wp2_with fail
  go_loopw [3, 8] (fun nv i wr => ∃ k : Nat, i = .int .i64 k ∧ k ≤ bs.length ∧ (∀ j x, j < k → bs[j]? = some x → x ≤ 1) ∧ nv = .int .i64 (sumTo bs k) ∧ wr = w) (fun _ i _ => bs.length - (intOf i).toNat)
  case atStart => exact ⟨0, rfl, Nat.zero_le _, fun j x hj => absurd hj (Nat.not_lt_zero _), rfl, rfl⟩
  case round =>
    obtain ⟨k, rfl, hk, hall, rfl, rfl⟩ := hrel
    have hsl := sumTo_le hall
    have HALL := Lib.hid hall
    obtain ⟨N, hN⟩ : ∃ N, N = sumTo bs k := ⟨_, rfl⟩
    rw [← hN] at hsl ⊢
    have HN := Lib.hid hN
    clear hall hN
    by_cases hlt : k < bs.length
    · have hlti : (k : Int) < (bs.length : Int) := by omega
      obtain ⟨b, o, rfl, hc⟩ := rep_cells HV.out (by rw [length_u8s]; omega)
      obtain ⟨x, hxk⟩ : ∃ x, bs[k]? = some x := ⟨_, List.getElem?_eq_getElem hlt⟩
      have hcx := hc k (.int .u8 x) (by simp [u8s, hxk])
      have hx256 := H256.out x (List.mem_of_getElem? hxk)
      have HXK := Lib.hid hxk
      clear hc hxk
      by_cases hx : 1 < x
      · have hxz : (1 : Int) < (x : Int) := by omega
        have HF := Lib.hid (show singleL bs = false from by
          rw [singleL, Bool.and_eq_false_iff]
          refine Or.inl ?_
          cases h : (bs.all fun n => decide (n ≤ 1)) with
          | false => rfl
          | true =>
            have := List.all_eq_true.1 h x (List.mem_of_getElem? HXK.out)
            simp at this; omega)
        clear hx
        go_wp2_with fail
        go_ret
        exact ⟨by rw [HF.out]; rfl, rfl⟩
      · have hxz : ¬ (1 : Int) < (x : Int) := by omega
        have hf : ∀ j y, j < k + 1 → bs[j]? = some y → y ≤ 1 := fun j y hj hy => by
          by_cases h : j < k
          · exact HALL.out j y h hy
          · rw [show j = k by omega, HXK.out] at hy
            cases hy; omega
        have HF := Lib.hid hf
        have HS := Lib.hid (show ((N : Int) + (x : Int)) = ((sumTo bs (k + 1) : Nat) : Int) from by rw [sumTo_succ HXK.out, ← HN.out]; omega)
        clear hf hx
        go_wp2_with fail
        go_roundw
        case rel => exact ⟨k + 1, by go_num, by omega, HF.out, by rw [HS.out], trivial⟩
        case measure => simp [intOf]; omega
    · obtain rfl : k = bs.length := by omega
      have HL := Lib.hid (show singleL bs = decide (N = 1) from by
        have h1 : (bs.all fun n => decide (n ≤ 1)) = true := by
          rw [List.all_eq_true]
          intro x hx
          obtain ⟨j, hj, rfl⟩ := List.getElem_of_mem hx
          have := HALL.out j _ hj (List.getElem?_eq_getElem hj)
          simpa using this
        rw [singleL, h1, Bool.true_and, HN.out, sumTo, List.take_length])
      by_cases h1 : N = 1
      · have hz : ((N : Int) == 1) = true := by rw [beq_iff_eq]; omega
        have HL1 := Lib.hid (show singleL bs = true by rw [HL.out]; simpa using h1)
        clear h1 HL
        go_wp2_with fail
        go_ret
        exact ⟨by rw [HL1.out]; rfl, rfl⟩
      · have hz : ((N : Int) == 1) = false := by rw [beq_eq_false_iff_ne]; omega
        have HL1 := Lib.hid (show singleL bs = false by rw [HL.out]; simpa using h1)
        clear h1 HL
        go_wp2_with fail
        go_ret
        exact ⟨by rw [HL1.out]; rfl, rfl⟩

theorem hdr_at {w : World} {sv : Value} {bs : List Nat} (hv : ViewL w sv (u8s bs)) (i : Nat) (hi : i < bs.length) : ∃ b o cap, sv = .slice (some ⟨b, o, none⟩) bs.length cap ∧ w.cell? ⟨b, o + i, none⟩ = some (.int .u8 (bs.getD i 0 : Nat)) := by
  obtain ⟨ao, cap, rfl⟩ := hv.shape
  rw [length_u8s] at hv ⊢
  obtain ⟨b, o, rfl, hc⟩ := rep_cells hv (by rw [length_u8s]; omega)
  exact ⟨b, o, cap, rfl, hc i _ (getElem?_u8s _ _ hi)⟩
def mayH1 (a b : List Nat) : Bool := decide (257 ≤ a.length) && decide (a.length ≤ 286) && decide (1 ≤ b.length) && decide (b.length ≤ 30) && decide (a.getD 256 0 ≠ 0) && okLens a && okLens b
theorem mayH_parts (a b : List Nat) : mayH a b = (mayH1 a b && (decide (classL a = 2) || singleL a) && (decide (classL b = 2) || decide (classL b = 0) || singleL b)) := rfl
set_option maxRecDepth 100000 in
set_option maxHeartbeats 4000000 in
theorem hdr_may_no (v1 v2 : Value) (a b : List Nat) (w : World) (h1 : ViewL w v1 (u8s a)) (h2 : ViewL w v2 (u8s b)) (ha : ∀ x ∈ a, x < 256) (hb : ∀ x ∈ b, x < 256) (hal : a.length ≤ 2 ^ 30) (hbl : b.length ≤ 2 ^ 30) (hn : mayH1 a b = false) :
    Calls Tryz.prog 117 #[v1, v2] w fun e w' => e = .returned (.bool false) ∧ w = w' := by
  obtain ⟨ao, ac, rfl⟩ := h1.shape
  rw [length_u8s] at h1 ⊢
  obtain ⟨bo, bc, rfl⟩ := h2.shape
  rw [length_u8s] at h2 ⊢
  have HV := Lib.hid (And.intro h1 h2)
  have H256 := Lib.hid (And.intro ha hb)
  have HN := Lib.hid hn
  clear h1 h2 ha hb hn
  obtain ⟨n, hn⟩ : ∃ n, n = a.length := ⟨_, rfl⟩
  obtain ⟨m, hm⟩ : ∃ m, m = b.length := ⟨_, rfl⟩
  have HL := Lib.hid (And.intro hn hm)
  rw [← hn] at HV hal ⊢
  rw [← hm] at HV hbl ⊢
  clear hn hm
  by_cases c1 : n < 257
  · have k1 : (n : Int) < 257 := by omega
    clear c1
    go_enter Tryz.func117, Tryz.ntmps117
    go_wp2_with fail
    go_ret
    exact ⟨rfl, rfl⟩
  have k1 : ¬ (n : Int) < 257 := by omega
  by_cases c2 : 286 < n
  · have k2 : (286 : Int) < (n : Int) := by omega
    clear c1 c2
    go_enter Tryz.func117, Tryz.ntmps117
    go_wp2_with fail
    go_ret
    exact ⟨rfl, rfl⟩
  have k2 : ¬ (286 : Int) < (n : Int) := by omega
  by_cases c3 : m < 1
  · have k3 : (m : Int) < 1 := by omega
    clear c1 c2 c3
    go_enter Tryz.func117, Tryz.ntmps117
    go_wp2_with fail
    go_ret
    exact ⟨rfl, rfl⟩
  have k3 : ¬ (m : Int) < 1 := by omega
  by_cases c4 : 30 < m
  · have k4 : (30 : Int) < (m : Int) := by omega
    clear c1 c2 c3 c4
    go_enter Tryz.func117, Tryz.ntmps117
    go_wp2_with fail
    go_ret
    exact ⟨rfl, rfl⟩
  have k4 : ¬ (30 : Int) < (m : Int) := by omega
  obtain ⟨gb, go, gc, e, hc256⟩ := hdr_at HV.out.1 256 (by have := HL.out; omega)
  rw [← HL.out.1] at e
  cases e
  obtain ⟨x, hx⟩ : ∃ x, x = a.getD 256 0 := ⟨_, rfl⟩
  rw [← hx] at hc256
  have HX := Lib.hid hx
  have hn257 : (256 : Int) < (n : Int) := by omega
  clear hx
  by_cases c5 : x = 0
  · subst c5
    clear c1 c2 c3 c4
    go_enter Tryz.func117, Tryz.ntmps117
    go_wp2_with fail
    go_ret
    exact ⟨rfl, rfl⟩
  have k5 : ((x : Int) == 0) = false := by rw [beq_eq_false_iff_ne]; omega
  have HA := Lib.hid (hdr_contains (.slice (some ⟨gb, go, none⟩) n ac) a w HV.out.1 H256.out.1 (by have := HL.out; omega))
  cases c6 : okLens a with
  | false =>
    rw [c6] at HA
    clear c1 c2 c3 c4 c5 c6
    go_enter Tryz.func117, Tryz.ntmps117
    go_wp2_with fail
    refine HA.out.mono ?_
    rintro e w' ⟨rfl, rfl⟩
    go_wp2_with fail
    go_ret
    exact ⟨rfl, rfl⟩
  | true =>
    rw [c6] at HA
    have HB := Lib.hid (hdr_contains (.slice bo m bc) b w HV.out.2 H256.out.2 (by have := HL.out; omega))
    have c7 : okLens b = false := by
      have h := HN.out
      rw [mayH1, c6, ← HL.out.1, ← HL.out.2, ← HX.out] at h
      simpa [show 257 ≤ n by omega, show n ≤ 286 by omega, show 1 ≤ m by omega, show m ≤ 30 by omega, c5] using h
    rw [c7] at HB
    clear c1 c2 c3 c4 c5 c6 c7
    go_enter Tryz.func117, Tryz.ntmps117
    go_wp2_with fail
    refine HA.out.mono ?_
    rintro e w' ⟨rfl, rfl⟩
    go_wp2_with fail
    refine HB.out.mono ?_
    rintro e w' ⟨rfl, rfl⟩
    go_wp2_with fail
    go_ret
    exact ⟨rfl, rfl⟩
-- the ways
theorem hdr_mayK {a : List Nat} (h : okLens a = true) (hl : a.length ≤ 512) : MayK a := ⟨hl, fun b hb => by have := List.all_eq_true.1 h b hb; simp at this; omega⟩
theorem hdr_class (sv : Value) (bs : List Nat) (w : World) (hv : ViewL w sv (u8s bs)) (h : okLens bs = true) (hl : bs.length ≤ 512) :
    Calls Tryz.prog 112 #[sv] w fun e w' => e = .returned (.tuple #[.int .u8 (classL bs), .int .i64 0]) ∧ w = w' :=
  (kraft_classify sv bs w hv (by omega)).mono fun e w' ⟨h1, h2⟩ => by
    rcases h1 with ⟨_, h1⟩ | ⟨h1, _⟩
    · exact ⟨h1, h2⟩
    · exact absurd (hdr_mayK h hl) h1
set_option maxRecDepth 100000 in
set_option maxHeartbeats 8000000 in
theorem hdr_may_yes (v1 v2 : Value) (a b : List Nat) (w : World) (h1 : ViewL w v1 (u8s a)) (h2 : ViewL w v2 (u8s b)) (ha : ∀ x ∈ a, x < 256) (hb : ∀ x ∈ b, x < 256) (hy : mayH1 a b = true) :
    Calls Tryz.prog 117 #[v1, v2] w fun e w' => e = .returned (.bool (mayH a b)) ∧ w = w' := by
  have hp := mayH_parts a b
  rw [hy, Bool.true_and] at hp
  simp only [mayH1, Bool.and_eq_true, decide_eq_true_eq] at hy
  obtain ⟨⟨⟨⟨⟨⟨c1, c2⟩, c3⟩, c4⟩, c5⟩, c6⟩, c7⟩ := hy
  obtain ⟨gb, go, ac, rfl, hc256⟩ := hdr_at h1 256 (by omega)
  obtain ⟨bo, bc, rfl⟩ := h2.shape
  rw [length_u8s] at h2 ⊢
  have HA := Lib.hid (hdr_contains (.slice (some ⟨gb, go, none⟩) a.length ac) a w h1 ha (by omega))
  have HB := Lib.hid (hdr_contains (.slice bo b.length bc) b w h2 hb (by omega))
  have HCA := Lib.hid (hdr_class (.slice (some ⟨gb, go, none⟩) a.length ac) a w h1 c6 (by omega))
  have HCB := Lib.hid (hdr_class (.slice bo b.length bc) b w h2 c7 (by omega))
  have HSA := Lib.hid (hdr_single (.slice (some ⟨gb, go, none⟩) a.length ac) a w h1 ha (by omega))
  have HSB := Lib.hid (hdr_single (.slice bo b.length bc) b w h2 hb (by omega))
  rw [c6] at HA
  rw [c7] at HB
  obtain ⟨n, hn⟩ : ∃ n, n = a.length := ⟨_, rfl⟩
  obtain ⟨m, hm⟩ : ∃ m, m = b.length := ⟨_, rfl⟩
  obtain ⟨x, hx⟩ : ∃ x, x = a.getD 256 0 := ⟨_, rfl⟩
  obtain ⟨ca, hca⟩ : ∃ ca, ca = classL a := ⟨_, rfl⟩
  obtain ⟨cb, hcb⟩ : ∃ cb, cb = classL b := ⟨_, rfl⟩
  obtain ⟨sa, hsa⟩ : ∃ sa, sa = singleL a := ⟨_, rfl⟩
  obtain ⟨sb, hsb⟩ : ∃ sb, sb = singleL b := ⟨_, rfl⟩
  rw [← hca, ← hcb, ← hsa, ← hsb] at hp
  rw [← hn] at HA HCA HSA c1 c2 ⊢
  rw [← hm] at HB HCB HSB c3 c4 ⊢
  rw [← hx] at hc256 c5
  rw [← hca] at HCA
  rw [← hcb] at HCB
  rw [← hsa] at HSA
  rw [← hsb] at HSB
  obtain ⟨Q, hQ⟩ : ∃ Q : Bool, Q = ((decide (ca = 2) || sa) && (decide (cb = 2) || decide (cb = 0) || sb)) := ⟨_, rfl⟩
  rw [hp, ← hQ]
  have k1 : ¬ (n : Int) < 257 := by omega
  have k2 : ¬ (286 : Int) < (n : Int) := by omega
  have k3 : ¬ (m : Int) < 1 := by omega
  have k4 : ¬ (30 : Int) < (m : Int) := by omega
  have k5 : ((x : Int) == 0) = false := by rw [beq_eq_false_iff_ne]; omega
  have hn257 : (256 : Int) < (n : Int) := by omega
  clear hp c1 c2 c3 c4 c5 c6 c7 hn hm hx hca hcb hsa hsb h1 h2 ha hb
  by_cases a1 : ca = 2
  · have ka : ((ca : Int) == 2) = true := by rw [beq_iff_eq]; omega
    by_cases b1 : cb = 2
    · have kb : ((cb : Int) == 2) = true := by rw [beq_iff_eq]; omega
      have HQ := Lib.hid (show Ending.returned (.bool true) = Ending.returned (.bool Q) from by rw [hQ]; simp [*])
      clear hQ a1 b1
      go_enter Tryz.func117, Tryz.ntmps117
      go_wp2_with fail
      refine HA.out.mono ?_
      rintro e w' ⟨rfl, rfl⟩
      go_wp2_with fail
      refine HB.out.mono ?_
      rintro e w' ⟨rfl, rfl⟩
      go_wp2_with fail
      refine HCA.out.mono ?_
      rintro e w' ⟨rfl, rfl⟩
      go_wp2_with fail
      refine HCB.out.mono ?_
      rintro e w' ⟨rfl, rfl⟩
      go_wp2_with fail
      go_ret
      exact ⟨HQ.out, rfl⟩
    · have kb : ((cb : Int) == 2) = false := by rw [beq_eq_false_iff_ne]; omega
      by_cases b2 : cb = 0
      · have kb2 : ((cb : Int) == 0) = true := by rw [beq_iff_eq]; omega
        have HQ := Lib.hid (show Ending.returned (.bool true) = Ending.returned (.bool Q) from by rw [hQ]; simp [*])
        clear hQ a1 b1 b2
        go_enter Tryz.func117, Tryz.ntmps117
        go_wp2_with fail
        refine HA.out.mono ?_
        rintro e w' ⟨rfl, rfl⟩
        go_wp2_with fail
        refine HB.out.mono ?_
        rintro e w' ⟨rfl, rfl⟩
        go_wp2_with fail
        refine HCA.out.mono ?_
        rintro e w' ⟨rfl, rfl⟩
        go_wp2_with fail
        refine HCB.out.mono ?_
        rintro e w' ⟨rfl, rfl⟩
        go_wp2_with fail
        go_ret
        exact ⟨HQ.out, rfl⟩
      · have kb2 : ((cb : Int) == 0) = false := by rw [beq_eq_false_iff_ne]; omega
        cases b3 : sb with
        | true =>
          rw [b3] at HSB
          have HQ := Lib.hid (show Ending.returned (.bool true) = Ending.returned (.bool Q) from by rw [hQ]; simp [*])
          clear hQ a1 b1 b2 b3
          go_enter Tryz.func117, Tryz.ntmps117
          go_wp2_with fail
          refine HA.out.mono ?_
          rintro e w' ⟨rfl, rfl⟩
          go_wp2_with fail
          refine HB.out.mono ?_
          rintro e w' ⟨rfl, rfl⟩
          go_wp2_with fail
          refine HCA.out.mono ?_
          rintro e w' ⟨rfl, rfl⟩
          go_wp2_with fail
          refine HCB.out.mono ?_
          rintro e w' ⟨rfl, rfl⟩
          go_wp2_with fail
          refine HSB.out.mono ?_
          rintro e w' ⟨rfl, rfl⟩
          go_wp2_with fail
          go_ret
          exact ⟨HQ.out, rfl⟩
        | false =>
          rw [b3] at HSB
          have HQ := Lib.hid (show Ending.returned (.bool false) = Ending.returned (.bool Q) from by rw [hQ]; simp [*])
          clear hQ a1 b1 b2 b3
          go_enter Tryz.func117, Tryz.ntmps117
          go_wp2_with fail
          refine HA.out.mono ?_
          rintro e w' ⟨rfl, rfl⟩
          go_wp2_with fail
          refine HB.out.mono ?_
          rintro e w' ⟨rfl, rfl⟩
          go_wp2_with fail
          refine HCA.out.mono ?_
          rintro e w' ⟨rfl, rfl⟩
          go_wp2_with fail
          refine HCB.out.mono ?_
          rintro e w' ⟨rfl, rfl⟩
          go_wp2_with fail
          refine HSB.out.mono ?_
          rintro e w' ⟨rfl, rfl⟩
          go_wp2_with fail
          go_ret
          exact ⟨HQ.out, rfl⟩
  · have ka : ((ca : Int) == 2) = false := by rw [beq_eq_false_iff_ne]; omega
    cases a2 : sa with
    | true =>
      rw [a2] at HSA
      by_cases b1 : cb = 2
      · have kb : ((cb : Int) == 2) = true := by rw [beq_iff_eq]; omega
        have HQ := Lib.hid (show Ending.returned (.bool true) = Ending.returned (.bool Q) from by rw [hQ]; simp [*])
        clear hQ a1 a2 b1
        go_enter Tryz.func117, Tryz.ntmps117
        go_wp2_with fail
        refine HA.out.mono ?_
        rintro e w' ⟨rfl, rfl⟩
        go_wp2_with fail
        refine HB.out.mono ?_
        rintro e w' ⟨rfl, rfl⟩
        go_wp2_with fail
        refine HCA.out.mono ?_
        rintro e w' ⟨rfl, rfl⟩
        go_wp2_with fail
        refine HCB.out.mono ?_
        rintro e w' ⟨rfl, rfl⟩
        go_wp2_with fail
        refine HSA.out.mono ?_
        rintro e w' ⟨rfl, rfl⟩
        go_wp2_with fail
        go_ret
        exact ⟨HQ.out, rfl⟩
      · have kb : ((cb : Int) == 2) = false := by rw [beq_eq_false_iff_ne]; omega
        by_cases b2 : cb = 0
        · have kb2 : ((cb : Int) == 0) = true := by rw [beq_iff_eq]; omega
          have HQ := Lib.hid (show Ending.returned (.bool true) = Ending.returned (.bool Q) from by rw [hQ]; simp [*])
          clear hQ a1 a2 b1 b2
          go_enter Tryz.func117, Tryz.ntmps117
          go_wp2_with fail
          refine HA.out.mono ?_
          rintro e w' ⟨rfl, rfl⟩
          go_wp2_with fail
          refine HB.out.mono ?_
          rintro e w' ⟨rfl, rfl⟩
          go_wp2_with fail
          refine HCA.out.mono ?_
          rintro e w' ⟨rfl, rfl⟩
          go_wp2_with fail
          refine HCB.out.mono ?_
          rintro e w' ⟨rfl, rfl⟩
          go_wp2_with fail
          refine HSA.out.mono ?_
          rintro e w' ⟨rfl, rfl⟩
          go_wp2_with fail
          go_ret
          exact ⟨HQ.out, rfl⟩
        · have kb2 : ((cb : Int) == 0) = false := by rw [beq_eq_false_iff_ne]; omega
          cases b3 : sb with
          | true =>
            rw [b3] at HSB
            have HQ := Lib.hid (show Ending.returned (.bool true) = Ending.returned (.bool Q) from by rw [hQ]; simp [*])
            clear hQ a1 a2 b1 b2 b3
            go_enter Tryz.func117, Tryz.ntmps117
            go_wp2_with fail
            refine HA.out.mono ?_
            rintro e w' ⟨rfl, rfl⟩
            go_wp2_with fail
            refine HB.out.mono ?_
            rintro e w' ⟨rfl, rfl⟩
            go_wp2_with fail
            refine HCA.out.mono ?_
            rintro e w' ⟨rfl, rfl⟩
            go_wp2_with fail
            refine HCB.out.mono ?_
            rintro e w' ⟨rfl, rfl⟩
            go_wp2_with fail
            refine HSA.out.mono ?_
            rintro e w' ⟨rfl, rfl⟩
            go_wp2_with fail
            refine HSB.out.mono ?_
            rintro e w' ⟨rfl, rfl⟩
            go_wp2_with fail
            go_ret
            exact ⟨HQ.out, rfl⟩
          | false =>
            rw [b3] at HSB
            have HQ := Lib.hid (show Ending.returned (.bool false) = Ending.returned (.bool Q) from by rw [hQ]; simp [*])
            clear hQ a1 a2 b1 b2 b3
            go_enter Tryz.func117, Tryz.ntmps117
            go_wp2_with fail
            refine HA.out.mono ?_
            rintro e w' ⟨rfl, rfl⟩
            go_wp2_with fail
            refine HB.out.mono ?_
            rintro e w' ⟨rfl, rfl⟩
            go_wp2_with fail
            refine HCA.out.mono ?_
            rintro e w' ⟨rfl, rfl⟩
            go_wp2_with fail
            refine HCB.out.mono ?_
            rintro e w' ⟨rfl, rfl⟩
            go_wp2_with fail
            refine HSA.out.mono ?_
            rintro e w' ⟨rfl, rfl⟩
            go_wp2_with fail
            refine HSB.out.mono ?_
            rintro e w' ⟨rfl, rfl⟩
            go_wp2_with fail
            go_ret
            exact ⟨HQ.out, rfl⟩
    | false =>
      rw [a2] at HSA
      have HQ := Lib.hid (show Ending.returned (.bool false) = Ending.returned (.bool Q) from by rw [hQ]; simp [*])
      clear a1 a2 hQ
      go_enter Tryz.func117, Tryz.ntmps117
      go_wp2_with fail
      refine HA.out.mono ?_
      rintro e w' ⟨rfl, rfl⟩
      go_wp2_with fail
      refine HB.out.mono ?_
      rintro e w' ⟨rfl, rfl⟩
      go_wp2_with fail
      refine HCA.out.mono ?_
      rintro e w' ⟨rfl, rfl⟩
      go_wp2_with fail
      refine HCB.out.mono ?_
      rintro e w' ⟨rfl, rfl⟩
      go_wp2_with fail
      refine HSA.out.mono ?_
      rintro e w' ⟨rfl, rfl⟩
      go_wp2_with fail
      go_ret
      exact ⟨HQ.out, rfl⟩
end Go.Proofs.YtbbcphloafmldaaGreat
