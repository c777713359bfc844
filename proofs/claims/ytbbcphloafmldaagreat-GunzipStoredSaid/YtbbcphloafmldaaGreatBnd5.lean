/- kraft: may, weight, Classify; the reference's May, Weight: their walks. pressworkref04.Words: its walk. lsb.Writer.bit: its walk. lsb.Writer.Put: its walk. slices.Clone of bytes: its walk. lsb.Writer: Len, Align, Bytes, and Put with one contract. prefix.Table: Bits, PutLow: their walks. -/
import Derived.BigQuiet
import Derived.Test.YtbbcphloafmldaaGreatBnd4
import Derived.Test.YtbbcphloafmldaaGreatPreLaw
import Derived.Test.YtbbcphloafmldaaGreatBnd3
import Derived.Test.YtbbcphloafmldaaGreatBnd2
import Derived.Test.YtbbcphloafmldaaGreatRows
import Derived.StillTailTactics
import Derived.Outline
import Derived.Deep.DeepMust
/-! kraft: may, weight, Classify; the reference's May, Weight: their walks. -/
namespace Go.Proofs.YtbbcphloafmldaaGreat
open Go.RowKit
set_option linter.unusedVariables false

/-- may lengths be? -/
def MayK (L : List Nat) : Prop := L.length ≤ 512 ∧ ∀ b ∈ L, b ≤ 20
instance (L : List Nat) : Decidable (MayK L) := by unfold MayK; exact inferInstance
def errW (L : List Nat) : Int := if ¬ MayK L then 5 else if 2 ^ 20 < weightL L then 2 else 0
theorem good_iff (L : List Nat) : Good L ↔ errW L = 0 := by
  unfold errW Good MayK
  split <;> rename_i h
  · constructor
    · intro ⟨h1, h2, _⟩; exact (h ⟨h2, h1⟩).elim
    · intro h; cases h
  · have h := Classical.not_not.1 h
    split <;> rename_i h3
    · constructor
      · intro ⟨_, _, h4⟩; omega
      · intro h; cases h
    · exact ⟨fun _ => rfl, fun _ => ⟨h.2, h.1, by omega⟩⟩
set_option maxHeartbeats 1000000 in
theorem kraft_may (v : Value) (bs : List Nat) (w : World) (hv : ViewL w v (u8s bs)) (hl : bs.length ≤ 2 ^ 40) :
    Calls Tryz.prog 130 #[v] w fun e w' => e = .returned (.bool (decide (MayK bs))) ∧ w = w' := by
  obtain ⟨ao, cap, rfl⟩ := hv.shape
  rw [length_u8s] at *
  have HV := Lib.hid hv
  clear hv
  by_cases h5 : bs.length ≤ 512
  · have h5i : (bs.length : Int) ≤ 512 := by omega
    by_cases h0 : bs.length = 0
    · have h0i : (bs.length : Int) = 0 := by omega
      have hd : decide (MayK bs) = true := by
        obtain rfl := List.eq_nil_of_length_eq_zero h0
        simp [MayK]
      go_enter Tryz.func130, Tryz.ntmps130
      go_wp2_with fail
      go_ret
      exact ⟨by rw [hd]; rfl, rfl⟩
    · have h0i : ¬ (bs.length : Int) = 0 := by omega
      have h0b : ((bs.length : Int) == 0) = false := by simpa using h0i
      go_enter Tryz.func130, Tryz.ntmps130
      go_wp2_with fail
      refine (pre_max _ bs _ HV.out (by omega) hl).mono ?_
      rintro e w' ⟨m, rfl, hm, hall, rfl⟩
      have HM := Lib.hid (And.intro hm hall)
      clear hm hall
      go_wp2_with fail
      go_ret
      refine ⟨?_, rfl⟩
      show Ending.returned (.bool (decide ((m : Int) ≤ 20))) = _
      congr 2
      apply decide_eq_decide.2
      obtain ⟨hm, hall⟩ := HM.out
      constructor
      · intro h
        exact ⟨h5, fun b hb => by have := hall b hb; omega⟩
      · rintro ⟨_, h⟩
        have := h m hm; omega
  · have h5i : ¬ (bs.length : Int) ≤ 512 := by omega
    have hd : decide (MayK bs) = false := by
      rw [decide_eq_false_iff_not]; exact fun h => h5 h.1
    go_enter Tryz.func130, Tryz.ntmps130
    go_wp2_with fail
    go_ret
    exact ⟨rfl, rfl⟩
theorem pow_part (n : Nat) (hn : n ≤ 20) : 2 ^ (20 - n) ≤ 2 ^ 20 := Nat.pow_le_pow_right (by decide) (by omega)
theorem cast_pow (k : Nat) : (2 : Int) ^ k = ((2 ^ k : Nat) : Int) := by simp
theorem sum_part (W W' k : Nat) (hk : k ≤ 20) (hw : W ≤ 512 * 2 ^ 20) (h : W' = W + 2 ^ k) : wrap64 ((W : Int) + wrap64 (2 ^ k)) = (W' : Int) := by
  have hp : 2 ^ k ≤ 2 ^ 20 := Nat.pow_le_pow_right (by decide) hk
  rw [cast_pow]
  generalize 2 ^ k = P at *
  rw [IntWalk.wrap64_in (P : Int) (by omega), IntWalk.wrap64_in _ (by omega), h]
  omega
set_option maxHeartbeats 1000000 in
theorem kraft_weight (v : Value) (bs : List Nat) (w : World) (hv : ViewL w v (u8s bs)) (hm : MayK bs) :
    Calls Tryz.prog 131 #[v] w fun e w' => e = .returned (.int .i64 (weightL bs)) ∧ w = w' := by
  obtain ⟨ao, cap, rfl⟩ := hv.shape
  rw [length_u8s] at *
  have hl := hm.1
  have HV := Lib.hid hv
  have HM := Lib.hid hm
  clear hv hm
  go_enter Tryz.func131, Tryz.ntmps131
  go_wp2_with fail
  go_loopw [3, 5, 8] (fun nv bv iv wr => ∃ k : Nat, iv = .int .i64 k ∧ nv = .int .i64 (weightL (bs.take k)) ∧ k ≤ bs.length ∧ wr = w) (fun _ _ iv _ => bs.length - (intOf iv).toNat)
  case atStart => exact ⟨0, rfl, by simp [weightL], Nat.zero_le _, rfl⟩
  case round =>
    obtain ⟨k, rfl, rfl, hk, hwr⟩ := hrel
    obtain rfl : w = wr := hwr.symm
    have hwl := weightL_le (bs.take k)
    rw [List.length_take] at hwl
    have hw : weightL (bs.take k) ≤ 512 * 2 ^ 20 := Nat.le_trans hwl (Nat.mul_le_mul_right _ (by omega))
    clear hwl
    by_cases hlt : k < bs.length
    · have hlti : (k : Int) < (bs.length : Int) := by omega
      obtain ⟨b, o, rfl, _, hc⟩ := viewL_cells HV.out (by rw [length_u8s]; omega)
      obtain ⟨y, hy⟩ : ∃ y, bs.getD k 0 = y := ⟨_, rfl⟩
      have c1 := hc k (.int .u8 y) (by rw [getElem?_u8s _ _ hlt, hy])
      have hy20 : y ≤ 20 := by
        rw [← hy, List.getD, List.getElem?_eq_getElem hlt]; exact HM.out.2 _ (List.getElem_mem _)
      have HT := Lib.hid (weightL_take bs k hlt)
      rw [hy] at HT
      obtain ⟨W', hW'⟩ : ∃ W', weightL (bs.take (k + 1)) = W' := ⟨_, rfl⟩
      rw [hW'] at HT
      have HW' := Lib.hid hW'
      clear hW'
      generalize weightL (bs.take k) = W at *
      clear hc hy
      by_cases hy0 : y = 0
      · subst hy0
        go_wp2_with fail
        go_roundw
        case rel => exact ⟨k + 1, by go_num, by rw [HW'.out]; have := HT.out; simp at this; rw [this], by omega, trivial⟩
        case measure => simp [intOf]; omega
      · have hy0i : (0 : Int) < (y : Int) := by omega
        have hp := pow_part y hy20
        go_wp2_with fail
        go_roundw
        case rel => exact ⟨k + 1, by go_num, by rw [HW'.out]; have := HT.out; rw [if_neg hy0] at this; exact congrArg (Value.int .i64) (sum_part W W' (20 - y) (by omega) hw this), by omega, trivial⟩
        case measure => simp [intOf]; omega
    · obtain rfl : k = bs.length := by omega
      go_wp2_with fail
      go_ret
      exact ⟨rfl, rfl⟩
/-- what a code is. -/
def classL (L : List Nat) : Nat := if weightL L = 0 then 0 else if weightL L < 1048576 then 1 else if weightL L = 1048576 then 2 else 3
set_option maxRecDepth 100000 in
set_option maxHeartbeats 1000000 in
theorem kraft_classify (v : Value) (bs : List Nat) (w : World) (hv : ViewL w v (u8s bs)) (hl : bs.length ≤ 2 ^ 40) :
    Calls Tryz.prog 112 #[v] w fun e w' => ((MayK bs ∧ e = .returned (.tuple #[.int .u8 (classL bs), .int .i64 0])) ∨ (¬ MayK bs ∧ e = .returned (.tuple #[.int .u8 0, .int .i64 5]))) ∧ w = w' := by
  have HV := Lib.hid hv
  clear hv
  go_enter Tryz.func112, Tryz.ntmps112
  go_wp2_with fail
  refine (kraft_may v bs _ HV.out hl).mono ?_
  rintro e w' ⟨rfl, rfl⟩
  by_cases hm : MayK bs
  · have hd : decide (MayK bs) = true := by simpa using hm
    rw [hd]
    go_wp2_with fail
    refine (kraft_weight v bs _ HV.out hm).mono ?_
    rintro e w' ⟨rfl, rfl⟩
    obtain ⟨W, hW⟩ : ∃ W, weightL bs = W := ⟨_, rfl⟩
    have hc : classL bs = if W = 0 then 0 else if W < 1048576 then 1 else if W = 1048576 then 2 else 3 := by rw [← hW]; rfl
    have HC := Lib.hid hc
    rw [hW]
    clear hc hW
    by_cases h0 : W = 0
    · subst h0
      go_wp2_with fail
      go_ret2
      exact ⟨Or.inl ⟨hm, by rw [HC.out]; rfl⟩, rfl⟩
    · have h0i : ¬ (W : Int) = 0 := by omega
      have h0b : ((W : Int) == 0) = false := by simpa using h0i
      by_cases h1 : W < 1048576
      · have h1i : (W : Int) < 1048576 := by omega
        go_wp2_with fail
        go_ret2
        exact ⟨Or.inl ⟨hm, by rw [HC.out, if_neg h0, if_pos h1]; rfl⟩, rfl⟩
      · have h1i : ¬ (W : Int) < 1048576 := by omega
        by_cases h2 : W = 1048576
        · have h2i : (W : Int) = 1048576 := by omega
          have h2b : ((W : Int) == 1048576) = true := by simpa using h2i
          go_wp2_with fail
          go_ret2
          exact ⟨Or.inl ⟨hm, by rw [HC.out, if_neg h0, if_neg h1, if_pos h2]; rfl⟩, rfl⟩
        · have h2b : ((W : Int) == 1048576) = false := beq_eq_false_iff_ne.2 (by omega)
          have HC2 := Lib.hid (show classL bs = 3 by rw [HC.out, if_neg h0, if_neg h1, if_neg h2])
          clear h2 h1 h0
          generalize (W : Int) = V at *
          go_wp2_with fail
          go_ret2
          exact ⟨Or.inl ⟨hm, by rw [HC2.out]; rfl⟩, rfl⟩
  · have hd : decide (MayK bs) = false := by simpa using hm
    rw [hd]
    go_wp2_with fail
    go_ret2
    exact ⟨Or.inr ⟨hm, rfl⟩, rfl⟩
set_option maxHeartbeats 1000000 in
theorem ref_may (v : Value) (bs : List Nat) (w : World) (hv : ViewL w v (u8s bs)) (hl : bs.length ≤ 2 ^ 40) :
    Calls Tryz.prog 119 #[v] w fun e w' => e = .returned (.bool (decide (MayK bs))) ∧ w = w' := by
  obtain ⟨ao, cap, rfl⟩ := hv.shape
  rw [length_u8s] at *
  have HV := Lib.hid hv
  clear hv
  go_enter Tryz.func119, Tryz.ntmps119
  go_wp2_with fail
  go_loopw [3] (fun iv wr => ∃ k : Nat, iv = .int .i64 k ∧ k ≤ bs.length ∧ (∀ i b, i < k → bs[i]? = some b → b ≤ 20) ∧ wr = w) (fun iv _ => bs.length - (intOf iv).toNat)
  case atStart => exact ⟨0, rfl, Nat.zero_le _, fun i b hi => by omega, rfl⟩
  case round =>
    obtain ⟨k, rfl, hk, hall, hwr⟩ := hrel
    obtain rfl : w = wr := hwr.symm
    have HALL := Lib.hid hall
    clear hall
    by_cases hlt : k < bs.length
    · have hlti : (k : Int) < (bs.length : Int) := by omega
      obtain ⟨b, o, rfl, _, hc⟩ := viewL_cells HV.out (by rw [length_u8s]; omega)
      obtain ⟨y, hy⟩ : ∃ y, bs[k]? = some y := ⟨_, List.getElem?_eq_getElem hlt⟩
      have c1 := hc k (.int .u8 y) (by simp [u8s, hy])
      have HY := Lib.hid hy
      clear hc hy
      by_cases hy20 : y ≤ 20
      · have hyi : ¬ (20 : Int) < (y : Int) := by omega
        go_wp2_with fail
        go_roundw
        case rel => exact ⟨k + 1, by go_num, by omega, fun i b hi hb => by
          by_cases h : i < k
          · exact HALL.out i b h hb
          · rw [show i = k by omega, HY.out] at hb; cases hb; exact hy20, trivial⟩
        case measure => simp [intOf]; omega
      · have hyi : (20 : Int) < (y : Int) := by omega
        have hd : decide (MayK bs) = false := by
          rw [decide_eq_false_iff_not]; exact fun h => hy20 (h.2 y (List.mem_of_getElem? HY.out))
        have HD := Lib.hid hd
        clear hd
        go_wp2_with fail
        go_ret
        exact ⟨by rw [HD.out]; rfl, rfl⟩
    · obtain rfl : k = bs.length := by omega
      have hall : ∀ b ∈ bs, b ≤ 20 := fun b hb => by
        obtain ⟨i, hi, e⟩ := List.getElem_of_mem hb
        exact HALL.out i b hi (by rw [List.getElem?_eq_getElem hi, e])
      have hd : decide (MayK bs) = decide ((bs.length : Int) ≤ 512) := decide_eq_decide.2 ⟨fun h => by have := h.1; omega, fun h => ⟨by omega, hall⟩⟩
      have HD := Lib.hid hd
      clear hd hall
      go_wp2_with fail
      go_ret
      exact ⟨by rw [HD.out]; rfl, rfl⟩
theorem pow_half (k : Nat) (h : k < 20) : 2 ^ (20 - k) / 2 = 2 ^ (20 - (k + 1)) := by
  rw [show 20 - k = (20 - (k + 1)) + 1 by omega, Nat.pow_succ]
  omega
set_option maxHeartbeats 2000000 in
theorem ref_weight (v : Value) (bs : List Nat) (w : World) (hv : ViewL w v (u8s bs)) (hm : MayK bs) :
    Calls Tryz.prog 120 #[v] w fun e w' => e = .returned (.int .i64 (weightL bs)) ∧ w = w' := by
  obtain ⟨ao, cap, rfl⟩ := hv.shape
  rw [length_u8s] at *
  have hl := hm.1
  have HV := Lib.hid hv
  have HM := Lib.hid hm
  clear hv hm
  go_enter Tryz.func120, Tryz.ntmps120
  go_wp2_with fail
  go_loopw [3, 4, 5, 6] (fun nv iv pv jv wr => ∃ k : Nat, iv = .int .i64 k ∧ nv = .int .i64 (weightL (bs.take k)) ∧ k ≤ bs.length ∧ wr = w) (fun _ iv _ _ _ => bs.length - (intOf iv).toNat)
  case atStart => exact ⟨0, rfl, by simp [weightL], Nat.zero_le _, rfl⟩
  case round =>
    obtain ⟨k, rfl, rfl, hk, hwr⟩ := hrel
    obtain rfl : w = wr := hwr.symm
    have hwl := weightL_le (bs.take k)
    rw [List.length_take] at hwl
    have hw : weightL (bs.take k) ≤ 512 * 2 ^ 20 := Nat.le_trans hwl (Nat.mul_le_mul_right _ (by omega))
    clear hwl
    by_cases hlt : k < bs.length
    · have hlti : (k : Int) < (bs.length : Int) := by omega
      obtain ⟨b, o, rfl, _, hc⟩ := viewL_cells HV.out (by rw [length_u8s]; omega)
      obtain ⟨y, hy⟩ : ∃ y, bs.getD k 0 = y := ⟨_, rfl⟩
      have c1 := hc k (.int .u8 y) (by rw [getElem?_u8s _ _ hlt, hy])
      have hy20 : y ≤ 20 := by
        rw [← hy, List.getD, List.getElem?_eq_getElem hlt]; exact HM.out.2 _ (List.getElem_mem _)
      have HT := Lib.hid (weightL_take bs k hlt)
      rw [hy] at HT
      obtain ⟨W', hW'⟩ : ∃ W', weightL (bs.take (k + 1)) = W' := ⟨_, rfl⟩
      rw [hW'] at HT
      have HW' := Lib.hid hW'
      clear hW'
      generalize weightL (bs.take k) = W at *
      clear hc hy
      by_cases hy0 : y = 0
      · subst hy0
        go_wp2_with fail
        go_roundw
        case rel => exact ⟨k + 1, by go_num, by rw [HW'.out]; have := HT.out; simp at this; rw [this], by omega, trivial⟩
        case measure => simp [intOf]; omega
      · have hy0i : (0 : Int) < (y : Int) := by omega
        go_wp2_with fail
        go_loopw [5, 6] (fun pv jv wi => ∃ j : Nat, jv = .int .i64 j ∧ pv = .int .i64 ((2 ^ (20 - j) : Nat) : Int) ∧ j ≤ y ∧ wi = w) (fun _ jv _ => y - (intOf jv).toNat)
        case atStart => exact ⟨0, rfl, rfl, Nat.zero_le _, rfl⟩
        case round =>
          obtain ⟨j, rfl, rfl, hj, hwi⟩ := hrel
          obtain rfl : w = wr := hwi.symm
          obtain ⟨Pj, hPj⟩ : ∃ Pj, 2 ^ (20 - j) = Pj := ⟨_, rfl⟩
          have hp := pow_part j (by omega)
          rw [hPj] at hp ⊢
          by_cases hjy : j < y
          · have hjyi : (j : Int) < (y : Int) := by omega
            have HH := Lib.hid (pow_half j (by omega))
            rw [hPj] at HH
            clear hPj
            go_wp2_with fail
            go_roundw
            case rel => exact ⟨j + 1, by go_num, by rw [← HH.out]; rfl, by omega, trivial⟩
            case measure => simp [intOf]; omega
          · obtain rfl : j = y := by omega
            have HP := Lib.hid hPj
            clear hPj
            go_wp2_with fail
            go_roundw
            case rel => exact ⟨k + 1, by go_num, by rw [HW'.out]; have := HT.out; rw [if_neg hy0, HP.out] at this; rw [this]; first | rfl | exact congrArg (Value.int .i64) (Int.natCast_add W Pj).symm, by omega, trivial⟩
            case measure => simp [intOf]; omega
    · obtain rfl : k = bs.length := by omega
      go_wp2_with fail
      go_ret
      exact ⟨rfl, rfl⟩
end Go.Proofs.YtbbcphloafmldaaGreat

/-! pressworkref04.Words: its walk. -/
namespace Go.Proofs.YtbbcphloafmldaaGreat
open Go.RowKit
set_option linter.unusedVariables false

/-- the row g of words, so far. -/
structure WR (w : World) (g N : Nat) (s : List Nat × Nat) (wr : World) : Prop where
  own : Owns wr 32 1 (.slice (some ⟨g, 0, none⟩) N N) (some g) N (u32s s.1)
  ext : Ext w wr
  new : w.heap.size ≤ g
theorem WR.set {w wr : World} {g N : Nat} {s : List Nat × Nat} (h : WR w g N s wr) (i : Nat) (hi : i < N) (x a : Nat) : WR w g N (s.1.set i x, a) (wr.setCell ⟨g, i, none⟩ (.int .u32 x)) :=
  ⟨by rw [u32s_set]; exact h.own.set i _ hi, h.ext.touch ((Touch.refl (fun k => k = g) wr).setCell (Or.inl rfl) _) (fun k hk e => by have := h.new; omega), h.new⟩
theorem at_part (a k : Nat) (hk : k ≤ 20) (ha : a ≤ 2 ^ 20) : ((a : Int) + 2 ^ k % 4294967296) % 4294967296 = ((a + 2 ^ k : Nat) : Int) := by
  have hp : 2 ^ k ≤ 2 ^ 20 := Nat.pow_le_pow_right (by decide) hk
  rw [cast_pow]
  generalize 2 ^ k = P at *
  omega
theorem div_part (a k : Nat) : (a : Int) / 2 ^ k = ((a / 2 ^ k : Nat) : Int) := by simp
/-- what Words leaves. -/
def WordsP (w : World) (L : List Nat) (e : Ending) (w' : World) : Prop :=
  (errW L ≠ 0 ∧ e = .returned (.tuple #[.slice none 0 0, .int .i64 (errW L)]) ∧ w = w') ∨ (errW L = 0 ∧ ∃ v, e = .returned (.tuple #[v, .int .i64 0]) ∧ NewU w (wordsL L) v w')
set_option maxHeartbeats 4000000 in
set_option maxRecDepth 100000 in
theorem ref_words (v : Value) (bs : List Nat) (w : World) (hv : ViewL w v (u8s bs)) (hl : bs.length ≤ 2 ^ 40) :
    Calls Tryz.prog 91 #[v] w (WordsP w bs) := by
  obtain ⟨ao, cap, rfl⟩ := hv.shape
  rw [length_u8s] at *
  have HV := Lib.hid hv
  clear hv
  go_enter Tryz.func91, Tryz.ntmps91
  go_wp2_with fail
  refine (ref_may _ bs _ HV.out hl).mono ?_
  rintro e w' ⟨rfl, rfl⟩
  by_cases hm : MayK bs
  · have hd : decide (MayK bs) = true := by simpa using hm
    rw [hd]
    clear hd
    go_wp2_with fail
    refine (ref_weight _ bs _ HV.out hm).mono ?_
    rintro e w' ⟨rfl, rfl⟩
    by_cases hw : 2 ^ 20 < weightL bs
    · have HE := Lib.hid (show errW bs = 2 by rw [errW, if_neg (not_not_intro hm), if_pos hw])
      have hwi : (1048576 : Int) < (weightL bs : Int) := by omega
      clear hw
      generalize weightL bs = W at *
      go_wp2_with fail
      go_ret2
      exact Or.inl ⟨by rw [HE.out]; decide, by rw [HE.out]; rfl, rfl⟩
    · have he : errW bs = 0 := by rw [errW, if_neg (not_not_intro hm), if_neg hw]
      have HG := Lib.hid ((good_iff bs).2 he)
      have HE := Lib.hid he
      have hwi : ¬ (1048576 : Int) < (weightL bs : Int) := by omega
      have hwn : weightL bs ≤ 1048576 := by omega
      have HW := Lib.hid hwn
      clear hw he
      obtain ⟨w1, hmk, o1, x1⟩ := make_u32 w bs.length (by have := hm.1; omega)
      have HR0 := Lib.hid (show WR w w.heap.size bs.length (wRun bs.length (prs bs 1 0)) w1 from ⟨o1, x1, Nat.le_refl _⟩)
      obtain ⟨g, hg⟩ : ∃ g, g = w.heap.size := ⟨_, rfl⟩
      rw [← hg] at hmk HR0
      clear o1 x1 hg hm
      generalize weightL bs = W at *
      go_wp2_with fail
      clear hmk
      go_loopw [5, 6, 7] (fun av nv iv wr => ∃ n : Nat, nv = .int .i64 n ∧ av = .int .u32 (wRun bs.length (prs bs n 0)).2 ∧ 1 ≤ n ∧ n ≤ 21 ∧ WR w g bs.length (wRun bs.length (prs bs n 0)) wr) (fun _ nv _ _ => 21 - (intOf nv).toNat)
      case atStart => exact ⟨1, rfl, rfl, Nat.le_refl _, by omega, HR0.out⟩
      case round =>
        obtain ⟨n, rfl, rfl, hn1, hn, hr⟩ := hrel
        have HR := Lib.hid hr
        clear hr
        by_cases hn20 : n ≤ 20
        · have hni : (n : Int) ≤ 20 := by omega
          go_wp2_with fail
          go_loopw [5, 7] (fun av iv wi => ∃ i : Nat, iv = .int .i64 i ∧ av = .int .u32 (wRun bs.length (prs bs n i)).2 ∧ i ≤ bs.length ∧ WR w g bs.length (wRun bs.length (prs bs n i)) wi) (fun _ iv _ => bs.length - (intOf iv).toNat)
          case atStart => exact ⟨0, rfl, rfl, Nat.zero_le _, HR.out⟩
          case round =>
            obtain ⟨i, rfl, rfl, hi, hr2⟩ := hrel
            have hat := at_le HG.out.1 n i hn1 hn20 hi
            have hln := wRun_len bs.length (prs bs n i)
            have HAT := Lib.hid (Nat.le_trans hat HG.out.2.2)
            have HR2 := Lib.hid hr2
            clear hat hr2
            by_cases hlt : i < bs.length
            · have hlti : (i : Int) < (bs.length : Int) := by omega
              obtain ⟨b, o, rfl, _, hc⟩ := viewL_cells (HV.out.ext HR2.out.ext) (by rw [length_u8s]; omega)
              obtain ⟨y, hy⟩ : ∃ y, bs.getD i 0 = y := ⟨_, rfl⟩
              have c1 := hc i (.int .u8 y) (by rw [getElem?_u8s _ _ hlt, hy])
              have hy20 : y ≤ 20 := by
                rw [← hy, List.getD, List.getElem?_eq_getElem hlt]; exact HG.out.1 _ (List.getElem_mem _)
              clear hc
              by_cases hyn : y = n
              · have hst := prs_hit bs n i (by rw [hy, hyn])
                have HS := Lib.hid (show wRun bs.length (prs bs n (i + 1)) = _ by rw [hst, wRun_snoc])
                have c2 := HR2.out.own.cell i _ (getElem?_u32s _ i (by omega))
                have f2 := HR2.out.own.free i
                generalize wRun bs.length (prs bs n i) = s at *
                obtain ⟨out, at_⟩ := s
                simp only at *
                have hatn := HAT.out
                have hyb : ((y : Int) == (n : Int)) = true := by rw [hyn]; simp
                have hyi : (y : Int) = (n : Int) := by rw [hyn]
                have hp := pow_part n hn20
                clear hyn hst
                go_wp2_with fail
                go_roundw
                case rel => exact ⟨i + 1, by go_num, by rw [HS.out]; exact congrArg (Value.int .u32) (at_part at_ (20 - n) (by omega) HAT.out), by omega, by rw [HS.out, div_part]; exact HR2.out.set i hlt _ _⟩
                case measure => simp [intOf]; omega
              · have hst := prs_miss bs n i (by rw [hy]; exact hyn)
                have HS := Lib.hid hst
                have hyb : ((y : Int) == (n : Int)) = false := by rw [beq_eq_false_iff_ne]; omega
                have hyi : ¬ (y : Int) = (n : Int) := by omega
                clear hst
                go_wp2_with fail
                go_roundw
                case rel => exact ⟨i + 1, by go_num, by rw [HS.out], by omega, by rw [HS.out]; exact HR2.out⟩
                case measure => simp [intOf]; omega
            · obtain rfl : i = bs.length := by omega
              have HS := Lib.hid (prs_next bs n hn1)
              go_wp2_with fail
              go_roundw
              case rel => exact ⟨n + 1, by go_num, by rw [HS.out], by omega, by omega, by rw [HS.out]; exact HR2.out⟩
              case measure => simp [intOf]; omega
        · obtain rfl : n = 21 := by omega
          have HS := Lib.hid (show wRun bs.length (prs bs 21 0) = wRun bs.length (prs bs 20 bs.length) by rw [prs_next bs 20 (by decide)])
          go_wp2_with fail
          go_ret2
          refine Or.inr ⟨HE.out, _, rfl, some g, ?_, fun g' e => by cases e; exact HR.out.new, HR.out.ext⟩
          have := HR.out.own
          rw [HS.out] at this
          rw [length_wordsL]
          exact this
  · have hd : decide (MayK bs) = false := by simpa using hm
    have HE := Lib.hid (show errW bs = 5 by rw [errW, if_pos hm])
    rw [hd]
    clear hd
    go_wp2_with fail
    go_ret2
    exact Or.inl ⟨by rw [HE.out]; decide, by rw [HE.out]; rfl, rfl⟩
end Go.Proofs.YtbbcphloafmldaaGreat

/-! lsb.Writer.bit: its walk. -/
namespace Go.Proofs.YtbbcphloafmldaaGreat
open Go.RowKit

theorem lsb_info5 : (Tryz.prog.info? 5).map (fun i => (i.zero, i.size, i.bytes)) = some (some (.int .u8 0), 1, 1) := by kernel_rfl

end Go.Proofs.YtbbcphloafmldaaGreat
-- pruned by prune.py for gunzipz

/-! lsb.Writer.Put: its walk. -/
namespace Go.Proofs.YtbbcphloafmldaaGreat
open Go.RowKit

end Go.Proofs.YtbbcphloafmldaaGreat
-- pruned by prune.py for gunzipz

/-! slices.Clone of bytes: its walk. -/
namespace Go.Proofs.YtbbcphloafmldaaGreat
open Go.RowKit

set_option maxHeartbeats 400000 in
theorem clone_some (a : Addr) (cap n : Nat) (bs : List Nat) (w : World) (hn : bs.length = n) (hl : n ≤ 2 ^ 46) (hc : ∀ j u, (u8s bs)[j]? = some u → w.cell? (a.add j) = some u) :
    Calls Tryz.prog 79 #[.slice (some a) n cap] w (CloneOf w bs) := by
  obtain ⟨i0, hi, hz0, hz1, hz2⟩ := info_parts info_u8
  have HC := Lib.hid hc; clear hc
  have HN := Lib.hid hn; clear hn
  have he := run_eql_slice_nil_any (P := Tryz.prog) w 22 5 (some a) n cap Tryz.underlying22
  go_enter Tryz.func79, Tryz.ntmps79
  go_wp2_with (at_builtin; go_must (refine wpList_append_own_at _ rfl (.tmp 5) (.tmp 6) 22 rfl w.heap.size 5 i0 (.int .u8 0) 1 1 Tryz.underlying22 hi hz0 hz1 hz2 rfl (by decide) (.slice (some ⟨w.heap.size, 0, none⟩) 0 0) 0 [] rfl (World.ownsRow_made w #[] 0 (Nat.le_refl _) (by decide) rfl) a n cap (u8s bs) rfl (by simp [u8s, HN.out]) (fun j u hu => cell_alloc _ (HC.out j u hu)) (u8s_one bs) (by unfold maxLen; omega) (by omega) (by simp) ?_))
  intro v' w1 hown' hgrow _ hat
  have ho : Owns w1 5 1 v' v'.ownBlock bs.length (u8s bs) := ⟨by rw [HN.out]; simpa using ownsRow_zero hown', rfl⟩
  have hg : ∀ g, v'.ownBlock = some g → w.heap.size ≤ g := fun g h => (hown'.lt g h).1
  have ht : Touch (fun _ => False) w w1 := ((Touch.refl _ w).alloc _).grown hgrow (fun k h => Or.inr (by cases h; exact Nat.le_refl _))
  clear hown' hgrow hat he HC HN hi hz0 hz1 hz2
  go_wp2_with fail
  go_ret
  exact ⟨v', _, rfl, ho, hg, ht⟩
theorem clone_nil (w : World) : Calls Tryz.prog 79 #[.slice none 0 0] w (CloneOf w []) := by
  have he := run_eql_slice_nil_any (P := Tryz.prog) w 22 5 none 0 0 Tryz.underlying22
  go_enter Tryz.func79, Tryz.ntmps79
  go_wp2_with fail
  go_ret
  exact ⟨_, none, rfl, Owns.nil _ _ _, fun _ h => (by cases h), Touch.refl _ _⟩
/-- bytes are cloned. -/
theorem clone (v : Value) (bs : List Nat) (w : World) (hv : View w v bs) (hl : bs.length ≤ 2 ^ 46) : Calls Tryz.prog 79 #[v] w (CloneOf w bs) := by
  rcases hv with ⟨rfl, rfl⟩ | ⟨a, cap, rfl, hc⟩
  · exact clone_nil w
  · exact clone_some a cap bs.length bs w rfl hl hc
end Go.Proofs.YtbbcphloafmldaaGreat

/-! lsb.Writer: Len, Align, Bytes, and Put with one contract. -/
namespace Go.Proofs.YtbbcphloafmldaaGreat
open Go.RowKit

end Go.Proofs.YtbbcphloafmldaaGreat
-- pruned by prune.py for gunzipz

/-! prefix.Table: Bits, PutLow: their walks. -/
namespace Go.Proofs.YtbbcphloafmldaaGreat
open Go.RowKit
set_option linter.unusedVariables false

/-- how many bits a symbol's word has. -/
def bitsL (L : List Nat) (s : Int) : Nat := if 0 ≤ s ∧ s < L.length then L.getD s.toNat 0 else 0
theorem bitsOf_one (hi : Bool) (b : Bool) : bitsOf hi b.toNat 1 = [b] := by cases b <;> cases hi <;> rfl
theorem bitsL_pos {L : List Nat} {s : Int} (h : 0 < bitsL L s) : ∃ k : Nat, s = k ∧ k < L.length ∧ bitsL L s = L.getD k 0 := by
  by_cases hs : 0 ≤ s ∧ s < L.length
  · exact ⟨s.toNat, by omega, by omega, by rw [bitsL, if_pos hs]⟩
  · rw [bitsL, if_neg hs] at h; omega
theorem bitsL_le {L : List Nat} (hg : Good L) (s : Int) : bitsL L s ≤ 20 := by
  rcases Nat.eq_zero_or_pos (bitsL L s) with h | h
  · omega
  · obtain ⟨k, rfl, hk, e⟩ := bitsL_pos h
    rw [e, List.getD, List.getElem?_eq_getElem hk]; exact hg.1 _ (List.getElem_mem _)
/-- what a put answers. -/
def putErr (L : List Nat) (s : Int) : Int := if 0 < bitsL L s then 0 else 5
/-- what a put lays. -/
def rowZ (L : List Nat) (s : Int) : List Bool := if 0 < bitsL L s then rowOf L s.toNat else []

end Go.Proofs.YtbbcphloafmldaaGreat
-- pruned by prune.py for gunzipz
