/- pressworkref07.Pack: its walk; repeat.Pack whatever the lengths. -/
import Derived.Test.YtclnmddlcjgfbaaRepPack
namespace Go.Proofs.Ytclnmddlcjgfbaa
open Go.RowKit
set_option linter.unusedVariables false

/-- a slice of signs in new memory. -/
def RO (e : TypeId) (w : World) (l : List (Nat × Nat)) (ov : Value) (wr : World) : Prop :=
  ∃ og, Owns wr e 2 ov og l.length (scells l) ∧ (∀ g, og = some g → w.heap.size ≤ g) ∧ Ext w wr
theorem RO.ext {e : TypeId} {w wr w' : World} {l : List (Nat × Nat)} {ov : Value} (h : RO e w l ov wr) (hx : Ext wr w') : RO e w l ov w' := by
  obtain ⟨og, h1, h2, h3⟩ := h
  exact ⟨og, h1.ext' hx, h2, h3.trans hx⟩
theorem ro_step {e : TypeId} {w wr w1 : World} {l : List (Nat × Nat)} {s : Nat × Nat} {ov v' : Value} {o : Obj} {cs : List Value} (h : RO e w l ov wr) (hown' : w1.ownsRow 0 e 2 v' (l.length + 1) (scells l ++ cs)) (hcs : cs = [.int .u8 s.1, .int .u8 s.2])
    (hgrow : (wr.alloc o).grownBy w1 ov.ownBlock) (hat : v'.ownBlock = ov.ownBlock ∨ v'.ownBlock = some (wr.heap.size + 1)) : RO e w (l ++ [s]) v' w1 := by
  subst hcs
  obtain ⟨og, h1, h2, h3⟩ := h
  refine ⟨v'.ownBlock, ⟨by rw [scells_append, List.length_append]; exact hown', rfl⟩, fun g e => ?_, Touch.grown (h3.alloc _) hgrow (fun i e => Or.inr (h2 i (by rw [← h1.2]; exact e)))⟩
  rcases hat with hat | hat
  · rw [hat, h1.2] at e; exact h2 g e
  · rw [hat] at e; cases e; have := h3.size; omega
theorem rep_infoR : (Try.prog.info? 32).map (fun i => (i.zero, i.size, i.bytes)) = some (some (.agg #[.int .u8 0, .int .u8 0]), 2, 2) := by kernel_rfl

theorem rest_small {k m : Nat} (hk : k ≤ 15) (hm : m < 3) : restOf k m = List.replicate m (k, 0) := by
  have hs : ∀ j, 0 < j → j < 3 → restOf k j = (k, 0) :: restOf k (j - 1) := by
    intro j h1 h2
    have e : signAt k j = (k, 0) := by unfold signAt; rw [if_neg (by omega), if_neg (by omega), if_neg (by omega)]
    rw [restOf_step hk h1, e, show timesOf (k, 0) = 1 by simp [timesOf]; omega]
  match m, hm with
  | 0, _ => exact restOf_zero k
  | 1, _ => rw [hs 1 (by omega) (by omega), restOf_zero]; rfl
  | 2, _ => rw [hs 2 (by omega) (by omega), hs 1 (by omega) (by omega), restOf_zero]; rfl
set_option maxRecDepth 100000 in
set_option maxHeartbeats 4000000 in
theorem rep_ref_pack (sv : Value) (bs : List Nat) (w : World) (hv : ViewL w sv (u8s bs)) (h256 : ∀ b ∈ bs, b < 256) (hlen : bs.length ≤ 10000) :
    Calls Try.prog 10 #[sv] w fun e w' => ∃ v, e = .returned (.tuple #[v, .int .i64 (packR bs).2]) ∧ RO 32 w (packR bs).1 v w' := by
  obtain ⟨ao, cap, rfl⟩ := hv.shape
  rw [length_u8s] at *
  obtain ⟨i0, hi, hz0, hz1, hz2⟩ := info_parts rep_infoR
  have HV := Lib.hid hv
  have H256 := Lib.hid h256
  clear hv h256
  go_enter Try.func10, Try.ntmps10
  go_wp2_with fail
  go_loopw [4] (fun i wr => ∃ k : Nat, i = .int .i64 k ∧ k ≤ bs.length ∧ (∀ j x, j < k → bs[j]? = some x → x ≤ 15) ∧ wr = w) (fun i _ => bs.length - (intOf i).toNat)
  case atStart => exact ⟨0, rfl, Nat.zero_le _, fun j x hj => absurd hj (Nat.not_lt_zero _), rfl⟩
  case round =>
    obtain ⟨k, rfl, hk, hall, hwr⟩ := hrel
    obtain rfl : w = wr := hwr.symm
    have HALL := Lib.hid hall
    clear hall
    by_cases hlt : k < bs.length
    · have hlti : (k : Int) < (bs.length : Int) := by omega
      obtain ⟨b, o, rfl, hc⟩ := viewL_cells HV.out (by rw [length_u8s]; omega)
      obtain ⟨x, hxk⟩ : ∃ x, bs[k]? = some x := ⟨_, List.getElem?_eq_getElem hlt⟩
      have hcx := hc k (.int .u8 x) (by simp [u8s, hxk])
      have HXK := Lib.hid hxk
      clear hc hxk
      by_cases hx : 15 < x
      · have hxi : (15 : Int) < (x : Int) := by omega
        have hno : okLens bs = false := by
          cases ho : okLens bs with
          | false => rfl
          | true =>
            have := List.all_eq_true.1 ho x (List.mem_of_getElem? HXK.out)
            simp at this; omega
        have HNO := Lib.hid hno
        clear hno
        go_wp2_with fail
        go_ret2
        exact ⟨_, by rw [packR, HNO.out]; rfl, by rw [packR, HNO.out]; exact ⟨none, Owns.nil _ _ _, fun g e => (by cases e), Ext.refl _⟩⟩
      · have hxi : ¬ (15 : Int) < (x : Int) := by omega
        have hf : ∀ j y, j < k + 1 → bs[j]? = some y → y ≤ 15 := fun j y hj hy => by
          by_cases h : j < k
          · exact HALL.out j y h hy
          · rw [show j = k by omega, HXK.out] at hy
            cases hy; omega
        have HF := Lib.hid hf
        clear hf
        go_wp2_with fail
        go_roundw
        case rel => exact ⟨k + 1, by go_num, by omega, HF.out, trivial⟩
        case measure => simp [intOf]; omega
    · obtain rfl : k = bs.length := by omega
      have hok : okLens bs = true := by
        rw [okLens, List.all_eq_true]
        intro x hx
        obtain ⟨j, hj, rfl⟩ := List.getElem_of_mem hx
        have := HALL.out j _ hj (List.getElem?_eq_getElem hj)
        simpa using this
      have HOK := Lib.hid hok
      have hpl := len_pack _ bs (Nat.le_refl _) hok
      clear hok
      go_wp2_with fail
      go_loopw [5, 6, 7, 8, 9] (fun ov iv _ _ _ wr => ∃ (i : Nat) (l' : List (Nat × Nat)), iv = .int .i64 i ∧ i ≤ bs.length ∧ l' ++ packL (bs.drop i) = packL bs ∧ RO 32 w l' ov wr) (fun _ iv _ _ _ _ => bs.length - (intOf iv).toNat)
      case atStart => exact ⟨0, [], rfl, Nat.zero_le _, by simp, none, Owns.nil _ _ _, fun g e => (by cases e), Ext.refl _⟩
      case round =>
        obtain ⟨i, l', rfl, hib, hT0, hro⟩ := hrel
        have HR := Lib.hid hro
        clear hro
        by_cases hlt : i < bs.length
        · have hlti : (i : Int) < (bs.length : Int) := by omega
          obtain ⟨b, o, rfl, hc⟩ := viewL_cells HV.out (by rw [length_u8s]; omega)
          obtain ⟨k, hxk⟩ : ∃ k, bs[i]? = some k := ⟨_, List.getElem?_eq_getElem hlt⟩
          have hk15 : k ≤ 15 := by
            have := List.all_eq_true.1 HOK.out k (List.mem_of_getElem? hxk)
            simpa using this
          have hcells : ∀ (j x : Nat), bs[j]? = some x → wr.cell? ⟨b, o + j, none⟩ = some (.int .u8 x) := fun j x hj => cell_touch HR.out.choose_spec.2.2 (hc j (.int .u8 x) (by simp [u8s, hj])) (fun f => f)
          have hcx := hcells i k hxk
          have HC := Lib.hid hcells
          have HXK := Lib.hid hxk
          have HT0 := Lib.hid hT0
          clear hc hxk hcells hT0
          go_wp2_with fail
          go_loopw [6, 8] (fun iv nv wi => ∃ m : Nat, nv = .int .i64 m ∧ iv = .int .i64 (i + m : Nat) ∧ i + m ≤ bs.length ∧ (∀ j, j < m → bs[i + j]? = some k) ∧ wi = wr) (fun iv _ _ => bs.length - (intOf iv).toNat)
          case atStart => exact ⟨0, rfl, by go_num, by omega, fun j hj => absurd hj (Nat.not_lt_zero _), rfl⟩
          case round =>
            obtain ⟨n, rfl, rfl, hin, hall, rfl⟩ := hrel
            have HALLN := Lib.hid hall
            clear hall
            -- the run ends here
            have endRun : bs[i + n]? ≠ some k → 0 < n ∧ packL (bs.drop i) = signsOf k n ++ packL (bs.drop (i + n)) := by
              intro hne
              have h0 : 0 < n := by
                rcases Nat.eq_zero_or_pos n with h | h
                · subst h; exact absurd HXK.out hne
                · exact h
              exact ⟨h0, packL_at bs i n k HXK.out h0 HALLN.out hne⟩
            have ENDRUN := Lib.hid endRun
            clear endRun
            have k1 : ((i + n : Nat) : Int).toNat = i + n := Int.toNat_natCast _
            by_cases hlt2 : i + n < bs.length
            · have k6 : ((i + n : Nat) : Int) < (bs.length : Int) := by omega
              obtain ⟨y, hyk⟩ : ∃ y, bs[i + n]? = some y := ⟨_, List.getElem?_eq_getElem hlt2⟩
              have hcy := HC.out (i + n) y hyk
              have HYK := Lib.hid hyk
              clear hyk
              by_cases hxy : y = k
              · have hf : ∀ j, j < n + 1 → bs[i + j]? = some k := fun j hj => by
                  by_cases h : j < n
                  · exact HALLN.out j h
                  · rw [show j = n by omega, HYK.out, hxy]
                have HF := Lib.hid hf
                have hb : (y : Int) = (k : Int) := by rw [hxy]
                have hb2 : ((y : Int) == (k : Int)) = true := by rw [hb]; simp
                clear hf
                go_wp2_with fail
                go_roundw
                case rel => exact ⟨n + 1, by go_num, by go_num, by omega, HF.out, trivial⟩
                case measure => simp [intOf]; omega
              · have hb : ((y : Int) == (k : Int)) = false := by rw [beq_eq_false_iff_ne]; omega
                have hb2 : ¬ (y : Int) = (k : Int) := by omega
                obtain ⟨hn0, hend⟩ := ENDRUN.out (by rw [HYK.out]; simpa using hxy)
-- ENDA
                obtain ⟨TT, hTT⟩ : ∃ TT, TT = l' ++ signsOf k n := ⟨_, rfl⟩
                have hend2 : TT ++ packL (bs.drop (i + n)) = packL bs := by rw [hTT, List.append_assoc, ← hend]; exact HT0.out
                have hTTl : TT.length ≤ 10000 := by
                  have h1 := congrArg List.length hend2
                  rw [List.length_append] at h1; omega
                have hl'l : l'.length ≤ 10000 := by rw [hTT, List.length_append] at hTTl; omega
                have HEND := Lib.hid hend2
                clear hend2 hend
                by_cases hk0 : k = 0
                · have HTS : Hid (l' ++ restOf 0 n = TT) := Lib.hid (by rw [hTT, hk0]; rfl)
                  obtain rfl : k = 0 := hk0
                  clear hTT
                  have hbz : ((y : Int) == 0) = false := hb
                  have hbz2 : ¬ (y : Int) = 0 := hb2
                  go_wp2_with fail
                  have HRS := Lib.hid HR.out
                  go_loopw [5, 8] (fun o2 nv w2 => ∃ (m : Nat) (l2 : List (Nat × Nat)), nv = .int .i64 m ∧ m ≤ 10000 ∧ l2 ++ restOf 0 m = TT ∧ RO 32 w l2 o2 w2) (fun _ nv _ => (intOf nv).toNat)
                  case atStart => exact ⟨n, l', by go_num, by omega, HTS.out, HRS.out⟩
                  case round =>
                    obtain ⟨m, l2, rfl, hm, htt, hro⟩ := hrel
                    have hl2l : l2.length ≤ 10000 := by rw [← htt, List.length_append] at hTTl; omega
                    have HR2 := Lib.hid hro
                    have HTT := Lib.hid htt
                    clear hro htt
                    by_cases hb : 138 ≤ m
                    · have hbi : (138 : Int) ≤ (m : Int) := by omega
                      have hs : signAt 0 m = (18, 127) := by unfold signAt; rw [if_pos ⟨rfl, by omega⟩, show min m 138 = 138 by omega]
                      have ht3 := HTT.out
                      rw [restOf_step hk15 (by omega), hs, show m - timesOf (18, 127) = m - 138 by simp [timesOf]] at ht3
                      have HT3 : Hid ((l2 ++ [(18, 127)]) ++ restOf 0 (m - 138) = TT) := Lib.hid (by rw [← ht3]; simp)
                      have hsub : (m : Int) - 138 = ((m - 138 : Nat) : Int) := by omega
                      clear hs ht3
                      go_wp2_with (at_builtin; go_must (refine wpList_append_own_at _ rfl (.tmp 49) (.tmp 51) 27 rfl 0 32 i0 (.agg #[.int .u8 0, .int .u8 0]) 2 2 Try.underlying27 hi hz0 hz1 hz2 rfl (by decide) _ l2.length (scells l2) rfl (HR2.out.choose_spec.1.1.alloc _) ⟨wr.heap.size, 0, none⟩ 1 1 [.int .u8 18, .int .u8 127] rfl rfl (rep_news _ _ _ _) (by simp [Value.oneCell']) (by unfold maxLen; omega) (by omega) (Nat.zero_le _) ?_))
                      intro v' w1 hown' hgrow _ hat
                      have HR1 := Lib.hid (ro_step (s := (18, 127)) HR2.out hown' rfl hgrow hat)
                      clear hown' hgrow hat
                      go_wp2_with fail
                      go_roundw
                      case rel => exact ⟨m - 138, _, by go_num, by omega, HT3.out, HR1.out⟩
                      case measure => simp [intOf]; omega
                    · have hbi : ¬ (138 : Int) ≤ (m : Int) := by omega
                      by_cases hc11 : 11 ≤ m
                      · have hc11i : (11 : Int) ≤ (m : Int) := by omega
                        obtain ⟨X, hX⟩ : ∃ X, X = m - 11 := ⟨_, rfl⟩
                        have hXi : (m : Int) - 11 = (X : Int) := by omega
                        have hXb : X < 256 := by omega
                        have hX8 : IntKind.u8.wrap (X : Int) = (X : Int) := IntWalk.u8_in _ (by omega)
                        have hs : signAt 0 m = (18, X) := by unfold signAt; rw [if_pos ⟨rfl, hc11⟩, show min m 138 = m by omega, hX]
                        have ht3 := HTT.out
                        rw [restOf_step hk15 (by omega), hs, show m - timesOf (18, X) = 0 by simp [timesOf]; omega] at ht3
                        have HT3 : Hid ((l2 ++ [(18, X)]) ++ restOf 0 0 = TT) := Lib.hid (by rw [← ht3]; simp)
                        clear hs hX ht3
                        go_wp2_with (at_builtin; go_must (refine wpList_append_own_at _ rfl (.tmp 57) (.tmp 62) 27 rfl 0 32 i0 (.agg #[.int .u8 0, .int .u8 0]) 2 2 Try.underlying27 hi hz0 hz1 hz2 rfl (by decide) _ l2.length (scells l2) rfl (HR2.out.choose_spec.1.1.alloc _) ⟨wr.heap.size, 0, none⟩ 1 1 [.int .u8 18, .int .u8 X] rfl rfl (rep_news _ _ _ _) (by simp [Value.oneCell']) (by unfold maxLen; omega) (by omega) (Nat.zero_le _) ?_))
                        intro v' w1 hown' hgrow _ hat
                        have HR1 := Lib.hid (ro_step (s := (18, X)) HR2.out hown' rfl hgrow hat)
                        clear hown' hgrow hat
                        go_wp2_with fail
                        go_loopw [5, 9] (fun o2 jv w2 => jv = .int .i64 0 ∧ RO 32 w (l2 ++ [(18, X)]) o2 w2) (fun _ _ _ => 0)
                        case atStart => exact ⟨rfl, HR1.out⟩
                        case round =>
                          obtain ⟨rfl, hro⟩ := hrel
                          have HRO := Lib.hid hro
                          clear hro
                          go_wp2_with fail
                          go_roundw
                          case rel => exact ⟨i + n, _, rfl, by omega, by have := HT3.out; rw [restOf_zero, List.append_nil] at this; rw [this]; exact HEND.out, HRO.out⟩
                          case measure => simp [intOf]; omega
                      · have hc11i : ¬ (11 : Int) ≤ (m : Int) := by omega
                        by_cases hc3 : 3 ≤ m
                        · have hc3i : (3 : Int) ≤ (m : Int) := by omega
                          obtain ⟨X, hX⟩ : ∃ X, X = m - 3 := ⟨_, rfl⟩
                          have hXi : (m : Int) - 3 = (X : Int) := by omega
                          have hXb : X < 256 := by omega
                          have hX8 : IntKind.u8.wrap (X : Int) = (X : Int) := IntWalk.u8_in _ (by omega)
                          have hs : signAt 0 m = (17, X) := by unfold signAt; rw [if_neg (by omega), if_pos ⟨rfl, hc3⟩, hX]
                          have ht3 := HTT.out
                          rw [restOf_step hk15 (by omega), hs, show m - timesOf (17, X) = 0 by simp [timesOf]; omega] at ht3
                          have HT3 : Hid ((l2 ++ [(17, X)]) ++ restOf 0 0 = TT) := Lib.hid (by rw [← ht3]; simp)
                          clear hs hX ht3
                          go_wp2_with (at_builtin; go_must (refine wpList_append_own_at _ rfl (.tmp 66) (.tmp 71) 27 rfl 0 32 i0 (.agg #[.int .u8 0, .int .u8 0]) 2 2 Try.underlying27 hi hz0 hz1 hz2 rfl (by decide) _ l2.length (scells l2) rfl (HR2.out.choose_spec.1.1.alloc _) ⟨wr.heap.size, 0, none⟩ 1 1 [.int .u8 17, .int .u8 X] rfl rfl (rep_news _ _ _ _) (by simp [Value.oneCell']) (by unfold maxLen; omega) (by omega) (Nat.zero_le _) ?_))
                          intro v' w1 hown' hgrow _ hat
                          have HR1 := Lib.hid (ro_step (s := (17, X)) HR2.out hown' rfl hgrow hat)
                          clear hown' hgrow hat
                          go_wp2_with fail
                          go_loopw [5, 9] (fun o2 jv w2 => jv = .int .i64 0 ∧ RO 32 w (l2 ++ [(17, X)]) o2 w2) (fun _ _ _ => 0)
                          case atStart => exact ⟨rfl, HR1.out⟩
                          case round =>
                            obtain ⟨rfl, hro⟩ := hrel
                            have HRO := Lib.hid hro
                            clear hro
                            go_wp2_with fail
                            go_roundw
                            case rel => exact ⟨i + n, _, rfl, by omega, by have := HT3.out; rw [restOf_zero, List.append_nil] at this; rw [this]; exact HEND.out, HRO.out⟩
                            case measure => simp [intOf]; omega
                        · have hc3i : ¬ (3 : Int) ≤ (m : Int) := by omega
                          go_wp2_with fail
                          go_loopw [5, 9] (fun o2 jv w2 => ∃ d : Nat, d ≤ m ∧ jv = .int .i64 d ∧ RO 32 w (l2 ++ List.replicate d (0, 0)) o2 w2) (fun _ jv _ => m - (intOf jv).toNat)
                          case atStart => exact ⟨0, Nat.zero_le _, rfl, by simpa using HR2.out⟩
                          case round =>
                            obtain ⟨d, hd, rfl, hro⟩ := hrel
                            have HRO := Lib.hid hro
                            clear hro
                            by_cases hdm : d < m
                            · have hdi : (d : Int) < (m : Int) := by omega
                              obtain ⟨l3, hl3⟩ : ∃ l3, l3 = l2 ++ List.replicate d (0, 0) := ⟨_, rfl⟩
                              have hl3l : l3.length ≤ 20100 := by rw [hl3, List.length_append, List.length_replicate]; omega
                              rw [← hl3] at HRO
                              have HL3 := Lib.hid hl3
                              clear hl3
                              go_wp2_with (at_builtin; go_must (refine wpList_append_own_at _ rfl (.tmp 102) (.tmp 105) 27 rfl 0 32 i0 (.agg #[.int .u8 0, .int .u8 0]) 2 2 Try.underlying27 hi hz0 hz1 hz2 rfl (by decide) _ l3.length (scells l3) rfl (HRO.out.choose_spec.1.1.alloc _) ⟨wr.heap.size, 0, none⟩ 1 1 [.int .u8 0, .int .u8 0] rfl rfl (rep_news _ _ _ _) (by simp [Value.oneCell']) (by unfold maxLen; omega) (by omega) (Nat.zero_le _) ?_))
                              intro v' w1 hown' hgrow _ hat
                              have HR1 := Lib.hid (ro_step (s := (0, 0)) HRO.out hown' rfl hgrow hat)
                              clear hown' hgrow hat
                              have hr1 := HR1.out
                              rw [HL3.out, List.append_assoc, ← List.replicate_succ'] at hr1
                              have HR2 := Lib.hid hr1
                              clear hr1
                              go_wp2_with fail
                              go_roundw
                              case rel => exact ⟨d + 1, by omega, by go_num, HR2.out⟩
                              case measure => simp [intOf]; omega
                            · obtain rfl : d = m := by omega
                              go_wp2_with fail
                              go_roundw
                              case rel => exact ⟨i + n, _, rfl, by omega, by rw [← rest_small hk15 (by omega)]; rw [HTT.out]; exact HEND.out, HRO.out⟩
                              case measure => simp [intOf]; omega
                · have hkz : ((k : Int) == 0) = false := by rw [beq_eq_false_iff_ne]; omega
                  have hkz2 : ¬ (k : Int) = 0 := by omega
                  go_wp2_with (at_builtin; go_must (refine wpList_append_own_at _ rfl (.tmp 73) (.tmp 76) 27 rfl 0 32 i0 (.agg #[.int .u8 0, .int .u8 0]) 2 2 Try.underlying27 hi hz0 hz1 hz2 rfl (by decide) _ l'.length (scells l') rfl (HR.out.choose_spec.1.1.alloc _) ⟨wr.heap.size, 0, none⟩ 1 1 [.int .u8 k, .int .u8 0] rfl rfl (rep_news _ _ _ _) (by simp [Value.oneCell']) (by unfold maxLen; omega) (by omega) (Nat.zero_le _) ?_))
                  intro v' w1 hown' hgrow _ hat
                  have HR1 := Lib.hid (ro_step (s := (k, 0)) HR.out hown' rfl hgrow hat)
                  clear hown' hgrow hat
                  have HRS := Lib.hid HR1.out
                  obtain ⟨N0, hN0⟩ : ∃ N0, N0 = n - 1 := ⟨_, rfl⟩
                  have HTS : Hid ((l' ++ [(k, 0)]) ++ restOf k N0 = TT) := Lib.hid (by rw [hTT, hN0, signsOf, if_neg hk0]; simp)
                  have hsub : (n : Int) - 1 = (N0 : Int) := by omega
                  clear hTT
                  go_wp2_with fail
                  go_loopw [5, 8] (fun o2 nv w2 => ∃ (m : Nat) (l2 : List (Nat × Nat)), nv = .int .i64 m ∧ m ≤ 10000 ∧ l2 ++ restOf k m = TT ∧ RO 32 w l2 o2 w2) (fun _ nv _ => (intOf nv).toNat)
                  case atStart => exact ⟨N0, _, by go_num, by omega, HTS.out, HRS.out⟩
                  case round =>
                    obtain ⟨m, l2, rfl, hm, htt, hro⟩ := hrel
                    have hl2l : l2.length ≤ 10000 := by rw [← htt, List.length_append] at hTTl; omega
                    have HR2 := Lib.hid hro
                    have HTT := Lib.hid htt
                    clear hro htt
                    by_cases hb : 6 ≤ m
                    · have hbi : (6 : Int) ≤ (m : Int) := by omega
                      have hs : signAt k m = (16, 3) := by unfold signAt; rw [if_neg (by omega), if_neg (by omega), if_pos (by omega), show min m 6 = 6 by omega]
                      have ht3 := HTT.out
                      rw [restOf_step hk15 (by omega), hs, show m - timesOf (16, 3) = m - 6 by simp [timesOf]] at ht3
                      have HT3 : Hid ((l2 ++ [(16, 3)]) ++ restOf k (m - 6) = TT) := Lib.hid (by rw [← ht3]; simp)
                      have hsub : (m : Int) - 6 = ((m - 6 : Nat) : Int) := by omega
                      clear hs ht3
                      go_wp2_with (at_builtin; go_must (refine wpList_append_own_at _ rfl (.tmp 82) (.tmp 84) 27 rfl 0 32 i0 (.agg #[.int .u8 0, .int .u8 0]) 2 2 Try.underlying27 hi hz0 hz1 hz2 rfl (by decide) _ l2.length (scells l2) rfl (HR2.out.choose_spec.1.1.alloc _) ⟨wr.heap.size, 0, none⟩ 1 1 [.int .u8 16, .int .u8 3] rfl rfl (rep_news _ _ _ _) (by simp [Value.oneCell']) (by unfold maxLen; omega) (by omega) (Nat.zero_le _) ?_))
                      intro v' w1 hown' hgrow _ hat
                      have HR1 := Lib.hid (ro_step (s := (16, 3)) HR2.out hown' rfl hgrow hat)
                      clear hown' hgrow hat
                      go_wp2_with fail
                      go_roundw
                      case rel => exact ⟨m - 6, _, by go_num, by omega, HT3.out, HR1.out⟩
                      case measure => simp [intOf]; omega
                    · have hbi : ¬ (6 : Int) ≤ (m : Int) := by omega
                      by_cases hc3 : 3 ≤ m
                      · have hc3i : (3 : Int) ≤ (m : Int) := by omega
                        obtain ⟨X, hX⟩ : ∃ X, X = m - 3 := ⟨_, rfl⟩
                        have hXi : (m : Int) - 3 = (X : Int) := by omega
                        have hXb : X < 256 := by omega
                        have hX8 : IntKind.u8.wrap (X : Int) = (X : Int) := IntWalk.u8_in _ (by omega)
                        have hs : signAt k m = (16, X) := by unfold signAt; rw [if_neg (by omega), if_neg (by omega), if_pos hc3, show min m 6 = m by omega, hX]
                        have ht3 := HTT.out
                        rw [restOf_step hk15 (by omega), hs, show m - timesOf (16, X) = 0 by simp [timesOf]; omega] at ht3
                        have HT3 : Hid ((l2 ++ [(16, X)]) ++ restOf k 0 = TT) := Lib.hid (by rw [← ht3]; simp)
                        clear hs hX ht3
                        go_wp2_with (at_builtin; go_must (refine wpList_append_own_at _ rfl (.tmp 90) (.tmp 95) 27 rfl 0 32 i0 (.agg #[.int .u8 0, .int .u8 0]) 2 2 Try.underlying27 hi hz0 hz1 hz2 rfl (by decide) _ l2.length (scells l2) rfl (HR2.out.choose_spec.1.1.alloc _) ⟨wr.heap.size, 0, none⟩ 1 1 [.int .u8 16, .int .u8 X] rfl rfl (rep_news _ _ _ _) (by simp [Value.oneCell']) (by unfold maxLen; omega) (by omega) (Nat.zero_le _) ?_))
                        intro v' w1 hown' hgrow _ hat
                        have HR1 := Lib.hid (ro_step (s := (16, X)) HR2.out hown' rfl hgrow hat)
                        clear hown' hgrow hat
                        go_wp2_with fail
                        go_loopw [5, 9] (fun o2 jv w2 => jv = .int .i64 0 ∧ RO 32 w (l2 ++ [(16, X)]) o2 w2) (fun _ _ _ => 0)
                        case atStart => exact ⟨rfl, HR1.out⟩
                        case round =>
                          obtain ⟨rfl, hro⟩ := hrel
                          have HRO := Lib.hid hro
                          clear hro
                          go_wp2_with fail
                          go_roundw
                          case rel => exact ⟨i + n, _, rfl, by omega, by have := HT3.out; rw [restOf_zero, List.append_nil] at this; rw [this]; exact HEND.out, HRO.out⟩
                          case measure => simp [intOf]; omega
                      · have hc3i : ¬ (3 : Int) ≤ (m : Int) := by omega
                        go_wp2_with fail
                        go_loopw [5, 9] (fun o2 jv w2 => ∃ d : Nat, d ≤ m ∧ jv = .int .i64 d ∧ RO 32 w (l2 ++ List.replicate d (k, 0)) o2 w2) (fun _ jv _ => m - (intOf jv).toNat)
                        case atStart => exact ⟨0, Nat.zero_le _, rfl, by simpa using HR2.out⟩
                        case round =>
                          obtain ⟨d, hd, rfl, hro⟩ := hrel
                          have HRO := Lib.hid hro
                          clear hro
                          by_cases hdm : d < m
                          · have hdi : (d : Int) < (m : Int) := by omega
                            obtain ⟨l3, hl3⟩ : ∃ l3, l3 = l2 ++ List.replicate d (k, 0) := ⟨_, rfl⟩
                            have hl3l : l3.length ≤ 20100 := by rw [hl3, List.length_append, List.length_replicate]; omega
                            rw [← hl3] at HRO
                            have HL3 := Lib.hid hl3
                            clear hl3
                            go_wp2_with (at_builtin; go_must (refine wpList_append_own_at _ rfl (.tmp 102) (.tmp 105) 27 rfl 0 32 i0 (.agg #[.int .u8 0, .int .u8 0]) 2 2 Try.underlying27 hi hz0 hz1 hz2 rfl (by decide) _ l3.length (scells l3) rfl (HRO.out.choose_spec.1.1.alloc _) ⟨wr.heap.size, 0, none⟩ 1 1 [.int .u8 k, .int .u8 0] rfl rfl (rep_news _ _ _ _) (by simp [Value.oneCell']) (by unfold maxLen; omega) (by omega) (Nat.zero_le _) ?_))
                            intro v' w1 hown' hgrow _ hat
                            have HR1 := Lib.hid (ro_step (s := (k, 0)) HRO.out hown' rfl hgrow hat)
                            clear hown' hgrow hat
                            have hr1 := HR1.out
                            rw [HL3.out, List.append_assoc, ← List.replicate_succ'] at hr1
                            have HR2 := Lib.hid hr1
                            clear hr1
                            go_wp2_with fail
                            go_roundw
                            case rel => exact ⟨d + 1, by omega, by go_num, HR2.out⟩
                            case measure => simp [intOf]; omega
                          · obtain rfl : d = m := by omega
                            go_wp2_with fail
                            go_roundw
                            case rel => exact ⟨i + n, _, rfl, by omega, by rw [← rest_small hk15 (by omega)]; rw [HTT.out]; exact HEND.out, HRO.out⟩
                            case measure => simp [intOf]; omega
-- STOPA
            · obtain ⟨hn0, hend⟩ := ENDRUN.out (by rw [List.getElem?_eq_none (by omega)]; simp)
              have k6 : ¬ ((i + n : Nat) : Int) < (bs.length : Int) := by omega
-- ENDB
              obtain ⟨TT, hTT⟩ : ∃ TT, TT = l' ++ signsOf k n := ⟨_, rfl⟩
              have hend2 : TT ++ packL (bs.drop (i + n)) = packL bs := by rw [hTT, List.append_assoc, ← hend]; exact HT0.out
              have hTTl : TT.length ≤ 10000 := by
                have h1 := congrArg List.length hend2
                rw [List.length_append] at h1; omega
              have hl'l : l'.length ≤ 10000 := by rw [hTT, List.length_append] at hTTl; omega
              have HEND := Lib.hid hend2
              clear hend2 hend
              by_cases hk0 : k = 0
              · have HTS : Hid (l' ++ restOf 0 n = TT) := Lib.hid (by rw [hTT, hk0]; rfl)
                obtain rfl : k = 0 := hk0
                clear hTT
                skip
                go_wp2_with fail
                have HRS := Lib.hid HR.out
                go_loopw [5, 8] (fun o2 nv w2 => ∃ (m : Nat) (l2 : List (Nat × Nat)), nv = .int .i64 m ∧ m ≤ 10000 ∧ l2 ++ restOf 0 m = TT ∧ RO 32 w l2 o2 w2) (fun _ nv _ => (intOf nv).toNat)
                case atStart => exact ⟨n, l', by go_num, by omega, HTS.out, HRS.out⟩
                case round =>
                  obtain ⟨m, l2, rfl, hm, htt, hro⟩ := hrel
                  have hl2l : l2.length ≤ 10000 := by rw [← htt, List.length_append] at hTTl; omega
                  have HR2 := Lib.hid hro
                  have HTT := Lib.hid htt
                  clear hro htt
                  by_cases hb : 138 ≤ m
                  · have hbi : (138 : Int) ≤ (m : Int) := by omega
                    have hs : signAt 0 m = (18, 127) := by unfold signAt; rw [if_pos ⟨rfl, by omega⟩, show min m 138 = 138 by omega]
                    have ht3 := HTT.out
                    rw [restOf_step hk15 (by omega), hs, show m - timesOf (18, 127) = m - 138 by simp [timesOf]] at ht3
                    have HT3 : Hid ((l2 ++ [(18, 127)]) ++ restOf 0 (m - 138) = TT) := Lib.hid (by rw [← ht3]; simp)
                    have hsub : (m : Int) - 138 = ((m - 138 : Nat) : Int) := by omega
                    clear hs ht3
                    go_wp2_with (at_builtin; go_must (refine wpList_append_own_at _ rfl (.tmp 49) (.tmp 51) 27 rfl 0 32 i0 (.agg #[.int .u8 0, .int .u8 0]) 2 2 Try.underlying27 hi hz0 hz1 hz2 rfl (by decide) _ l2.length (scells l2) rfl (HR2.out.choose_spec.1.1.alloc _) ⟨wr.heap.size, 0, none⟩ 1 1 [.int .u8 18, .int .u8 127] rfl rfl (rep_news _ _ _ _) (by simp [Value.oneCell']) (by unfold maxLen; omega) (by omega) (Nat.zero_le _) ?_))
                    intro v' w1 hown' hgrow _ hat
                    have HR1 := Lib.hid (ro_step (s := (18, 127)) HR2.out hown' rfl hgrow hat)
                    clear hown' hgrow hat
                    go_wp2_with fail
                    go_roundw
                    case rel => exact ⟨m - 138, _, by go_num, by omega, HT3.out, HR1.out⟩
                    case measure => simp [intOf]; omega
                  · have hbi : ¬ (138 : Int) ≤ (m : Int) := by omega
                    by_cases hc11 : 11 ≤ m
                    · have hc11i : (11 : Int) ≤ (m : Int) := by omega
                      obtain ⟨X, hX⟩ : ∃ X, X = m - 11 := ⟨_, rfl⟩
                      have hXi : (m : Int) - 11 = (X : Int) := by omega
                      have hXb : X < 256 := by omega
                      have hX8 : IntKind.u8.wrap (X : Int) = (X : Int) := IntWalk.u8_in _ (by omega)
                      have hs : signAt 0 m = (18, X) := by unfold signAt; rw [if_pos ⟨rfl, hc11⟩, show min m 138 = m by omega, hX]
                      have ht3 := HTT.out
                      rw [restOf_step hk15 (by omega), hs, show m - timesOf (18, X) = 0 by simp [timesOf]; omega] at ht3
                      have HT3 : Hid ((l2 ++ [(18, X)]) ++ restOf 0 0 = TT) := Lib.hid (by rw [← ht3]; simp)
                      clear hs hX ht3
                      go_wp2_with (at_builtin; go_must (refine wpList_append_own_at _ rfl (.tmp 57) (.tmp 62) 27 rfl 0 32 i0 (.agg #[.int .u8 0, .int .u8 0]) 2 2 Try.underlying27 hi hz0 hz1 hz2 rfl (by decide) _ l2.length (scells l2) rfl (HR2.out.choose_spec.1.1.alloc _) ⟨wr.heap.size, 0, none⟩ 1 1 [.int .u8 18, .int .u8 X] rfl rfl (rep_news _ _ _ _) (by simp [Value.oneCell']) (by unfold maxLen; omega) (by omega) (Nat.zero_le _) ?_))
                      intro v' w1 hown' hgrow _ hat
                      have HR1 := Lib.hid (ro_step (s := (18, X)) HR2.out hown' rfl hgrow hat)
                      clear hown' hgrow hat
                      go_wp2_with fail
                      go_loopw [5, 9] (fun o2 jv w2 => jv = .int .i64 0 ∧ RO 32 w (l2 ++ [(18, X)]) o2 w2) (fun _ _ _ => 0)
                      case atStart => exact ⟨rfl, HR1.out⟩
                      case round =>
                        obtain ⟨rfl, hro⟩ := hrel
                        have HRO := Lib.hid hro
                        clear hro
                        go_wp2_with fail
                        go_roundw
                        case rel => exact ⟨i + n, _, rfl, by omega, by have := HT3.out; rw [restOf_zero, List.append_nil] at this; rw [this]; exact HEND.out, HRO.out⟩
                        case measure => simp [intOf]; omega
                    · have hc11i : ¬ (11 : Int) ≤ (m : Int) := by omega
                      by_cases hc3 : 3 ≤ m
                      · have hc3i : (3 : Int) ≤ (m : Int) := by omega
                        obtain ⟨X, hX⟩ : ∃ X, X = m - 3 := ⟨_, rfl⟩
                        have hXi : (m : Int) - 3 = (X : Int) := by omega
                        have hXb : X < 256 := by omega
                        have hX8 : IntKind.u8.wrap (X : Int) = (X : Int) := IntWalk.u8_in _ (by omega)
                        have hs : signAt 0 m = (17, X) := by unfold signAt; rw [if_neg (by omega), if_pos ⟨rfl, hc3⟩, hX]
                        have ht3 := HTT.out
                        rw [restOf_step hk15 (by omega), hs, show m - timesOf (17, X) = 0 by simp [timesOf]; omega] at ht3
                        have HT3 : Hid ((l2 ++ [(17, X)]) ++ restOf 0 0 = TT) := Lib.hid (by rw [← ht3]; simp)
                        clear hs hX ht3
                        go_wp2_with (at_builtin; go_must (refine wpList_append_own_at _ rfl (.tmp 66) (.tmp 71) 27 rfl 0 32 i0 (.agg #[.int .u8 0, .int .u8 0]) 2 2 Try.underlying27 hi hz0 hz1 hz2 rfl (by decide) _ l2.length (scells l2) rfl (HR2.out.choose_spec.1.1.alloc _) ⟨wr.heap.size, 0, none⟩ 1 1 [.int .u8 17, .int .u8 X] rfl rfl (rep_news _ _ _ _) (by simp [Value.oneCell']) (by unfold maxLen; omega) (by omega) (Nat.zero_le _) ?_))
                        intro v' w1 hown' hgrow _ hat
                        have HR1 := Lib.hid (ro_step (s := (17, X)) HR2.out hown' rfl hgrow hat)
                        clear hown' hgrow hat
                        go_wp2_with fail
                        go_loopw [5, 9] (fun o2 jv w2 => jv = .int .i64 0 ∧ RO 32 w (l2 ++ [(17, X)]) o2 w2) (fun _ _ _ => 0)
                        case atStart => exact ⟨rfl, HR1.out⟩
                        case round =>
                          obtain ⟨rfl, hro⟩ := hrel
                          have HRO := Lib.hid hro
                          clear hro
                          go_wp2_with fail
                          go_roundw
                          case rel => exact ⟨i + n, _, rfl, by omega, by have := HT3.out; rw [restOf_zero, List.append_nil] at this; rw [this]; exact HEND.out, HRO.out⟩
                          case measure => simp [intOf]; omega
                      · have hc3i : ¬ (3 : Int) ≤ (m : Int) := by omega
                        go_wp2_with fail
                        go_loopw [5, 9] (fun o2 jv w2 => ∃ d : Nat, d ≤ m ∧ jv = .int .i64 d ∧ RO 32 w (l2 ++ List.replicate d (0, 0)) o2 w2) (fun _ jv _ => m - (intOf jv).toNat)
                        case atStart => exact ⟨0, Nat.zero_le _, rfl, by simpa using HR2.out⟩
                        case round =>
                          obtain ⟨d, hd, rfl, hro⟩ := hrel
                          have HRO := Lib.hid hro
                          clear hro
                          by_cases hdm : d < m
                          · have hdi : (d : Int) < (m : Int) := by omega
                            obtain ⟨l3, hl3⟩ : ∃ l3, l3 = l2 ++ List.replicate d (0, 0) := ⟨_, rfl⟩
                            have hl3l : l3.length ≤ 20100 := by rw [hl3, List.length_append, List.length_replicate]; omega
                            rw [← hl3] at HRO
                            have HL3 := Lib.hid hl3
                            clear hl3
                            go_wp2_with (at_builtin; go_must (refine wpList_append_own_at _ rfl (.tmp 102) (.tmp 105) 27 rfl 0 32 i0 (.agg #[.int .u8 0, .int .u8 0]) 2 2 Try.underlying27 hi hz0 hz1 hz2 rfl (by decide) _ l3.length (scells l3) rfl (HRO.out.choose_spec.1.1.alloc _) ⟨wr.heap.size, 0, none⟩ 1 1 [.int .u8 0, .int .u8 0] rfl rfl (rep_news _ _ _ _) (by simp [Value.oneCell']) (by unfold maxLen; omega) (by omega) (Nat.zero_le _) ?_))
                            intro v' w1 hown' hgrow _ hat
                            have HR1 := Lib.hid (ro_step (s := (0, 0)) HRO.out hown' rfl hgrow hat)
                            clear hown' hgrow hat
                            have hr1 := HR1.out
                            rw [HL3.out, List.append_assoc, ← List.replicate_succ'] at hr1
                            have HR2 := Lib.hid hr1
                            clear hr1
                            go_wp2_with fail
                            go_roundw
                            case rel => exact ⟨d + 1, by omega, by go_num, HR2.out⟩
                            case measure => simp [intOf]; omega
                          · obtain rfl : d = m := by omega
                            go_wp2_with fail
                            go_roundw
                            case rel => exact ⟨i + n, _, rfl, by omega, by rw [← rest_small hk15 (by omega)]; rw [HTT.out]; exact HEND.out, HRO.out⟩
                            case measure => simp [intOf]; omega
              · have hkz : ((k : Int) == 0) = false := by rw [beq_eq_false_iff_ne]; omega
                have hkz2 : ¬ (k : Int) = 0 := by omega
                go_wp2_with (at_builtin; go_must (refine wpList_append_own_at _ rfl (.tmp 73) (.tmp 76) 27 rfl 0 32 i0 (.agg #[.int .u8 0, .int .u8 0]) 2 2 Try.underlying27 hi hz0 hz1 hz2 rfl (by decide) _ l'.length (scells l') rfl (HR.out.choose_spec.1.1.alloc _) ⟨wr.heap.size, 0, none⟩ 1 1 [.int .u8 k, .int .u8 0] rfl rfl (rep_news _ _ _ _) (by simp [Value.oneCell']) (by unfold maxLen; omega) (by omega) (Nat.zero_le _) ?_))
                intro v' w1 hown' hgrow _ hat
                have HR1 := Lib.hid (ro_step (s := (k, 0)) HR.out hown' rfl hgrow hat)
                clear hown' hgrow hat
                have HRS := Lib.hid HR1.out
                obtain ⟨N0, hN0⟩ : ∃ N0, N0 = n - 1 := ⟨_, rfl⟩
                have HTS : Hid ((l' ++ [(k, 0)]) ++ restOf k N0 = TT) := Lib.hid (by rw [hTT, hN0, signsOf, if_neg hk0]; simp)
                have hsub : (n : Int) - 1 = (N0 : Int) := by omega
                clear hTT
                go_wp2_with fail
                go_loopw [5, 8] (fun o2 nv w2 => ∃ (m : Nat) (l2 : List (Nat × Nat)), nv = .int .i64 m ∧ m ≤ 10000 ∧ l2 ++ restOf k m = TT ∧ RO 32 w l2 o2 w2) (fun _ nv _ => (intOf nv).toNat)
                case atStart => exact ⟨N0, _, by go_num, by omega, HTS.out, HRS.out⟩
                case round =>
                  obtain ⟨m, l2, rfl, hm, htt, hro⟩ := hrel
                  have hl2l : l2.length ≤ 10000 := by rw [← htt, List.length_append] at hTTl; omega
                  have HR2 := Lib.hid hro
                  have HTT := Lib.hid htt
                  clear hro htt
                  by_cases hb : 6 ≤ m
                  · have hbi : (6 : Int) ≤ (m : Int) := by omega
                    have hs : signAt k m = (16, 3) := by unfold signAt; rw [if_neg (by omega), if_neg (by omega), if_pos (by omega), show min m 6 = 6 by omega]
                    have ht3 := HTT.out
                    rw [restOf_step hk15 (by omega), hs, show m - timesOf (16, 3) = m - 6 by simp [timesOf]] at ht3
                    have HT3 : Hid ((l2 ++ [(16, 3)]) ++ restOf k (m - 6) = TT) := Lib.hid (by rw [← ht3]; simp)
                    have hsub : (m : Int) - 6 = ((m - 6 : Nat) : Int) := by omega
                    clear hs ht3
                    go_wp2_with (at_builtin; go_must (refine wpList_append_own_at _ rfl (.tmp 82) (.tmp 84) 27 rfl 0 32 i0 (.agg #[.int .u8 0, .int .u8 0]) 2 2 Try.underlying27 hi hz0 hz1 hz2 rfl (by decide) _ l2.length (scells l2) rfl (HR2.out.choose_spec.1.1.alloc _) ⟨wr.heap.size, 0, none⟩ 1 1 [.int .u8 16, .int .u8 3] rfl rfl (rep_news _ _ _ _) (by simp [Value.oneCell']) (by unfold maxLen; omega) (by omega) (Nat.zero_le _) ?_))
                    intro v' w1 hown' hgrow _ hat
                    have HR1 := Lib.hid (ro_step (s := (16, 3)) HR2.out hown' rfl hgrow hat)
                    clear hown' hgrow hat
                    go_wp2_with fail
                    go_roundw
                    case rel => exact ⟨m - 6, _, by go_num, by omega, HT3.out, HR1.out⟩
                    case measure => simp [intOf]; omega
                  · have hbi : ¬ (6 : Int) ≤ (m : Int) := by omega
                    by_cases hc3 : 3 ≤ m
                    · have hc3i : (3 : Int) ≤ (m : Int) := by omega
                      obtain ⟨X, hX⟩ : ∃ X, X = m - 3 := ⟨_, rfl⟩
                      have hXi : (m : Int) - 3 = (X : Int) := by omega
                      have hXb : X < 256 := by omega
                      have hX8 : IntKind.u8.wrap (X : Int) = (X : Int) := IntWalk.u8_in _ (by omega)
                      have hs : signAt k m = (16, X) := by unfold signAt; rw [if_neg (by omega), if_neg (by omega), if_pos hc3, show min m 6 = m by omega, hX]
                      have ht3 := HTT.out
                      rw [restOf_step hk15 (by omega), hs, show m - timesOf (16, X) = 0 by simp [timesOf]; omega] at ht3
                      have HT3 : Hid ((l2 ++ [(16, X)]) ++ restOf k 0 = TT) := Lib.hid (by rw [← ht3]; simp)
                      clear hs hX ht3
                      go_wp2_with (at_builtin; go_must (refine wpList_append_own_at _ rfl (.tmp 90) (.tmp 95) 27 rfl 0 32 i0 (.agg #[.int .u8 0, .int .u8 0]) 2 2 Try.underlying27 hi hz0 hz1 hz2 rfl (by decide) _ l2.length (scells l2) rfl (HR2.out.choose_spec.1.1.alloc _) ⟨wr.heap.size, 0, none⟩ 1 1 [.int .u8 16, .int .u8 X] rfl rfl (rep_news _ _ _ _) (by simp [Value.oneCell']) (by unfold maxLen; omega) (by omega) (Nat.zero_le _) ?_))
                      intro v' w1 hown' hgrow _ hat
                      have HR1 := Lib.hid (ro_step (s := (16, X)) HR2.out hown' rfl hgrow hat)
                      clear hown' hgrow hat
                      go_wp2_with fail
                      go_loopw [5, 9] (fun o2 jv w2 => jv = .int .i64 0 ∧ RO 32 w (l2 ++ [(16, X)]) o2 w2) (fun _ _ _ => 0)
                      case atStart => exact ⟨rfl, HR1.out⟩
                      case round =>
                        obtain ⟨rfl, hro⟩ := hrel
                        have HRO := Lib.hid hro
                        clear hro
                        go_wp2_with fail
                        go_roundw
                        case rel => exact ⟨i + n, _, rfl, by omega, by have := HT3.out; rw [restOf_zero, List.append_nil] at this; rw [this]; exact HEND.out, HRO.out⟩
                        case measure => simp [intOf]; omega
                    · have hc3i : ¬ (3 : Int) ≤ (m : Int) := by omega
                      go_wp2_with fail
                      go_loopw [5, 9] (fun o2 jv w2 => ∃ d : Nat, d ≤ m ∧ jv = .int .i64 d ∧ RO 32 w (l2 ++ List.replicate d (k, 0)) o2 w2) (fun _ jv _ => m - (intOf jv).toNat)
                      case atStart => exact ⟨0, Nat.zero_le _, rfl, by simpa using HR2.out⟩
                      case round =>
                        obtain ⟨d, hd, rfl, hro⟩ := hrel
                        have HRO := Lib.hid hro
                        clear hro
                        by_cases hdm : d < m
                        · have hdi : (d : Int) < (m : Int) := by omega
                          obtain ⟨l3, hl3⟩ : ∃ l3, l3 = l2 ++ List.replicate d (k, 0) := ⟨_, rfl⟩
                          have hl3l : l3.length ≤ 20100 := by rw [hl3, List.length_append, List.length_replicate]; omega
                          rw [← hl3] at HRO
                          have HL3 := Lib.hid hl3
                          clear hl3
                          go_wp2_with (at_builtin; go_must (refine wpList_append_own_at _ rfl (.tmp 102) (.tmp 105) 27 rfl 0 32 i0 (.agg #[.int .u8 0, .int .u8 0]) 2 2 Try.underlying27 hi hz0 hz1 hz2 rfl (by decide) _ l3.length (scells l3) rfl (HRO.out.choose_spec.1.1.alloc _) ⟨wr.heap.size, 0, none⟩ 1 1 [.int .u8 k, .int .u8 0] rfl rfl (rep_news _ _ _ _) (by simp [Value.oneCell']) (by unfold maxLen; omega) (by omega) (Nat.zero_le _) ?_))
                          intro v' w1 hown' hgrow _ hat
                          have HR1 := Lib.hid (ro_step (s := (k, 0)) HRO.out hown' rfl hgrow hat)
                          clear hown' hgrow hat
                          have hr1 := HR1.out
                          rw [HL3.out, List.append_assoc, ← List.replicate_succ'] at hr1
                          have HR2 := Lib.hid hr1
                          clear hr1
                          go_wp2_with fail
                          go_roundw
                          case rel => exact ⟨d + 1, by omega, by go_num, HR2.out⟩
                          case measure => simp [intOf]; omega
                        · obtain rfl : d = m := by omega
                          go_wp2_with fail
                          go_roundw
                          case rel => exact ⟨i + n, _, rfl, by omega, by rw [← rest_small hk15 (by omega)]; rw [HTT.out]; exact HEND.out, HRO.out⟩
                          case measure => simp [intOf]; omega
-- STOPB
        · obtain rfl : i = bs.length := by omega
          rw [List.drop_length, packL_nil, List.append_nil] at hT0
          have HT0 := Lib.hid hT0
          clear hT0
          go_wp2_with fail
          go_ret2
          exact ⟨_, by rw [packR, HOK.out]; rfl, by rw [packR, HOK.out]; rw [← HT0.out]; exact HR.out⟩
end Go.Proofs.Ytclnmddlcjgfbaa
