/- frame.low, frame.value, pressworkref11.Number, Value: their walks. -/
import Derived.Lib.SmallJoins
import Derived.Test.YtmhkjcoidjpocaaCrcLow
import Derived.Test.YtmhkjcoidjpocaaFrmLaw
import Derived.Test.YtmhkjcoidjpocaaMem
namespace Go.Proofs.Ytmhkjcoidjpocaa
open Go.RowKit
set_option linter.unusedVariables false

/-- a row that was handed over, grown. -/
def Regrown (w : World) (og : Option Nat) (l : List Nat) (v : Value) (w' : World) : Prop := ∃ og', Owns w' 5 1 v og' l.length (u8s l) ∧ Near og og' w ∧ Touch (fun k => og = some k) w w'
theorem Regrown.app {w w1 w2 : World} {og : Option Nat} {l xs : List Nat} {ov v' : Value} {o : Obj} {n : Nat} (h : Regrown w og l ov w1) (hn : l.length = n) (hown' : w2.ownsRow 0 5 1 v' (n + xs.length) (u8s l ++ u8s xs))
    (hgrow : (w1.alloc o).grownBy w2 ov.ownBlock) (hat : v'.ownBlock = ov.ownBlock ∨ v'.ownBlock = some (w1.heap.size + 1)) : Regrown w og (l ++ xs) v' w2 := by
  subst hn
  obtain ⟨og1, h1, h2, h3⟩ := h
  have hs := h3.size
  refine ⟨v'.ownBlock, ⟨by rw [u8s_append, List.length_append]; exact hown', rfl⟩, ?_, Touch.grown (h3.alloc _) hgrow (fun k e => ?_)⟩
  · rcases hat with e | e
    · rw [e, h1.2]; exact h2
    · exact Or.inr ⟨_, e, by omega⟩
  · rw [h1.2] at e
    rcases h2 with rfl | ⟨g, rfl, hg⟩
    · exact Or.inl e
    · cases e; exact Or.inr hg
theorem Regrown.own {w wr : World} {og : Option Nat} {l : List Nat} {v : Value} {n : Nat} (h : Regrown w og l v wr) (hn : l.length = n) : wr.ownsRow 0 5 1 v n (u8s l) := by subst hn; exact h.choose_spec.1.1
theorem Regrown.refl {w : World} {og : Option Nat} {l : List Nat} {v : Value} (h : Owns w 5 1 v og l.length (u8s l)) : Regrown w og l v w := ⟨og, h, Near.refl _ _, Touch.refl _ _⟩
set_option maxHeartbeats 4000000 in
theorem frm_low (v : Value) (og : Option Nat) (bs : List Nat) (x n : Nat) (w : World) (hv : Owns w 5 1 v og bs.length (u8s bs)) (hl : bs.length ≤ 2 ^ 42) (hx : x < 4294967296) (hn : n ≤ 4) :
    Calls Try.prog 22 #[v, .int .u32 x, .int .i64 n] w fun e w' => ∃ v', e = .returned v' ∧ Regrown w og (bs ++ leN n x) v' w' := by
  obtain ⟨i0, hi, hz0, hz1, hz2⟩ := info_parts info_u8
  have HV := Lib.hid hv
  clear hv
  go_enter Try.func22, Try.ntmps22
  go_wp2_with fail
  go_loopw [0, 9] (fun bv kv wr => ∃ k : Nat, kv = .int .i64 k ∧ k ≤ n ∧ Regrown w og (bs ++ leN k x) bv wr) (fun _ kv _ => n - (intOf kv).toNat)
  case atStart => exact ⟨0, rfl, Nat.zero_le _, by rw [leN_zero, List.append_nil]; exact Regrown.refl HV.out⟩
  case round =>
    obtain ⟨k, rfl, hk, hp⟩ := hrel
    have HP := Lib.hid hp
    clear hp
    by_cases hkn : k < n
    · have hkni : (k : Int) < (n : Int) := by omega
      have HL := Lib.hid (show (bs ++ leN k x).length = bs.length + k by rw [List.length_append, length_leN])
      have hk0 : (0 : Int) ≤ 8 * (k : Int) := by omega
      go_wp2_with (at_builtin; go_must (refine wpList_append_own_at _ rfl (.tmp 12) (.tmp 18) 23 rfl 0 5 i0 (.int .u8 0) 1 1 Try.underlying23 hi hz0 hz1 hz2 rfl (by decide) _ (bs.length + k) (u8s (bs ++ leN k x)) rfl ((HP.out.own HL.out).alloc _) ⟨wr.heap.size, 0, none⟩ 1 1 [_] rfl rfl (cell_one_new _ _ _) (by simp [Value.oneCell']) (by unfold maxLen; omega) (by omega) (Nat.zero_le _) ?_))
      intro v' w3 hown' hgrow _ hat
      have e1 : (x : Int) / 2 ^ (8 * k) % 256 = ((x / 256 ^ k % 256 : Nat) : Int) := by
        rw [pow256]; simp
      rw [e1] at hown' hgrow
      have HF := Lib.hid (HP.out.app (xs := [x / 256 ^ k % 256]) HL.out hown' hgrow hat)
      clear hown' hgrow hat e1
      go_wp2_with fail
      go_roundw
      case rel => exact ⟨k + 1, by go_num, by omega, by rw [leN_snoc, ← List.append_assoc]; exact HF.out⟩
      case measure => simp [intOf]; omega
    · obtain rfl : k = n := by omega
      go_wp2_with fail
      go_ret
      exact ⟨_, rfl, HP.out⟩
/-- bytes in new memory that grow. -/
theorem clone_app {w w1 w2 : World} {l xs : List Nat} {ov v' : Value} {o : Obj} {n : Nat} (h : CloneOf w l (.returned ov) w1) (hn : l.length = n) (hown' : w2.ownsRow 0 5 1 v' (n + xs.length) (u8s l ++ u8s xs))
    (hgrow : (w1.alloc o).grownBy w2 ov.ownBlock) (hat : v'.ownBlock = ov.ownBlock ∨ v'.ownBlock = some (w1.heap.size + 1)) : CloneOf w (l ++ xs) (.returned v') w2 := by
  subst hn
  obtain ⟨u, og, e, h1, h2, h3⟩ := h
  cases e
  have h3 : Ext w w1 := h3
  have hs := h3.size
  refine ⟨v', v'.ownBlock, rfl, ⟨by rw [u8s_append, List.length_append]; exact hown', rfl⟩, fun g e => ?_, Touch.grown (h3.alloc _) hgrow (fun i e => Or.inr (h2 i (by rw [← h1.2]; exact e)))⟩
  rcases hat with hat | hat
  · rw [hat, h1.2] at e; exact h2 g e
  · rw [hat] at e; cases e; omega
theorem CloneOf.own {w wr : World} {l : List Nat} {v : Value} {n : Nat} (h : CloneOf w l (.returned v) wr) (hn : l.length = n) : wr.ownsRow 0 5 1 v n (u8s l) := by
  subst hn; obtain ⟨u, og, e, h1, _⟩ := h; cases e; exact h1.1
theorem clone_nil0 (w : World) : CloneOf w [] (.returned (.slice none 0 0)) w := ⟨_, none, rfl, Owns.nil _ _ _, (fun g e => by cases e), Touch.refl _ _⟩
set_option maxHeartbeats 4000000 in
theorem frm_number (x n : Nat) (w : World) (hx : x < 4294967296) (hn : n ≤ 4) :
    Calls Try.prog 24 #[.int .u32 x, .int .i64 n] w (CloneOf w (leN n x)) := by
  obtain ⟨i0, hi, hz0, hz1, hz2⟩ := info_parts info_u8
  go_enter Try.func24, Try.ntmps24
  go_wp2_with fail
  go_loopw [0, 5, 6] (fun xv bv kv wr => ∃ k : Nat, kv = .int .i64 k ∧ xv = .int .u32 (x / 256 ^ k : Nat) ∧ k ≤ n ∧ CloneOf w (leN k x) (.returned bv) wr) (fun _ _ kv _ => n - (intOf kv).toNat)
  case atStart => exact ⟨0, rfl, by simp, Nat.zero_le _, clone_nil0 w⟩
  case round =>
    obtain ⟨k, rfl, rfl, hk, hp⟩ := hrel
    have HP := Lib.hid hp
    clear hp
    by_cases hkn : k < n
    · have hkni : (k : Int) < (n : Int) := by omega
      have HY := Lib.hid (show x / 256 ^ (k + 1) = x / 256 ^ k / 256 by rw [Nat.pow_succ, Nat.div_div_eq_div_mul])
      have HS := Lib.hid (leN_snoc k x)
      have hy := Nat.div_le_self x (256 ^ k)
      generalize x / 256 ^ k = y at *
      have hm : (y : Int).tmod 256 = ((y % 256 : Nat) : Int) := by rw [Int.tmod_eq_emod_of_nonneg (by omega)]; omega
      have hd : (y : Int).tdiv 256 = ((y / 256 : Nat) : Int) := by rw [Int.tdiv_eq_ediv_of_nonneg (by omega)]; omega
      go_wp2_with (at_builtin; go_must (refine wpList_append_own_at _ rfl (.tmp 12) (.tmp 16) 23 rfl 0 5 i0 (.int .u8 0) 1 1 Try.underlying23 hi hz0 hz1 hz2 rfl (by decide) _ k (u8s (leN k x)) rfl ((HP.out.own (length_leN k x)).alloc _) ⟨wr.heap.size, 0, none⟩ 1 1 [_] rfl rfl (cell_one_new _ _ _) (by simp [Value.oneCell']) (by unfold maxLen; omega) (by omega) (Nat.zero_le _) ?_))
      intro v' w3 hown' hgrow _ hat
      have e1 : (y : Int) % 256 = ((y % 256 : Nat) : Int) := by omega
      rw [e1] at hown' hgrow
      have HF := Lib.hid (clone_app (xs := [y % 256]) HP.out (length_leN k x) hown' hgrow hat)
      clear hown' hgrow hat e1
      go_wp2_with fail
      go_roundw
      case rel => exact ⟨k + 1, by go_num, by rw [HY.out]; go_num, by omega, by rw [HS.out]; exact HF.out⟩
      case measure => simp [intOf]; omega
    · obtain rfl : k = n := by omega
      go_wp2_with fail
      go_ret
      exact HP.out
set_option maxHeartbeats 4000000 in
theorem frm_value (v : Value) (bs : List Nat) (w : World) (hv : ViewL w v (u8s bs)) (hb : ∀ b ∈ bs, b < 256) (hl : bs.length ≤ 4) :
    Calls Try.prog 29 #[v] w fun e w' => e = .returned (.int .u32 (valL bs)) ∧ w = w' := by
  obtain ⟨ao, cap, rfl⟩ := hv.shape
  rw [length_u8s] at *
  have HV := Lib.hid hv
  have HB := Lib.hid hb
  clear hv hb
  go_enter Try.func29, Try.ntmps29
  go_wp2_with fail
  go_loopw [3, 8] (fun vv kv wr => ∃ k : Nat, kv = .int .i64 k ∧ k ≤ bs.length ∧ vv = .int .u32 (valL (bs.take k)) ∧ wr = w) (fun _ kv _ => bs.length - (intOf kv).toNat)
  case atStart => exact ⟨0, rfl, Nat.zero_le _, rfl, rfl⟩
  case round =>
    obtain ⟨k, rfl, hk, rfl, rfl⟩ := hrel
    by_cases hkn : k < bs.length
    · have hkni : (k : Int) < (bs.length : Int) := by omega
      obtain ⟨b, o, rfl, _, hc⟩ := viewL_cells HV.out (by rw [length_u8s]; omega)
      obtain ⟨c, hcc⟩ : ∃ c, bs[k]? = some c := ⟨_, List.getElem?_eq_getElem hkn⟩
      have cB := hc k (.int .u8 c) (by simp [u8s, hcc])
      have hc256 := HB.out c (List.mem_of_getElem? hcc)
      have htl : (bs.take k).length = k := by rw [List.length_take]; omega
      have hlt := valL_lt (bs.take k) (fun x hx => HB.out x (List.mem_of_mem_take hx))
      rw [htl, pow256] at hlt
      have hst : valL (bs.take (k + 1)) = valL (bs.take k) + c * 2 ^ (8 * k) := by rw [List.take_add_one, hcc, Option.toList_some, valL_snoc, htl, pow256]
      generalize valL (bs.take k) = V at *
      have hp32 : c * 2 ^ (8 * k) < 4294967296 := by
        have : 2 ^ (8 * k) ≤ 2 ^ 24 := Nat.pow_le_pow_right (by decide) (by omega)
        have h2 : c * 2 ^ (8 * k) ≤ 255 * 2 ^ 24 := Nat.mul_le_mul (by omega) this
        omega
      have hV32 : V < 4294967296 := Nat.lt_of_lt_of_le hlt (by
        have : 2 ^ (8 * k) ≤ 2 ^ 24 := Nat.pow_le_pow_right (by decide) (by omega)
        omega)
      have e1 : bits .or .u32 (V : Int) ((c : Int) * 2 ^ (8 * k) % 4294967296) = ((V + c * 2 ^ (8 * k) : Nat) : Int) := by
        have e2 : ((c : Int) * 2 ^ (8 * k) % 4294967296) = ((c * 2 ^ (8 * k) : Nat) : Int) := by
          have : ((c : Int) * 2 ^ (8 * k)) = ((c * 2 ^ (8 * k) : Nat) : Int) := by simp
          rw [this]; omega
        rw [e2, u32_or_nat _ _ hV32 hp32, or_low _ _ _ hlt]
      rw [← hst] at e1
      have HE := Lib.hid e1
      have hk0 : (0 : Int) ≤ 8 * (k : Int) := by omega
      clear hst e1 hc hcc hp32 hV32 hlt htl
      go_wp2_with fail
      rw [HE.out]
      exact ⟨⟨k + 1, by go_num, by omega, rfl, trivial⟩, by simp [intOf]; omega⟩
    · obtain rfl : k = bs.length := by omega
      rw [List.take_length]
      go_wp2_with fail
      go_ret
      exact ⟨rfl, rfl⟩
theorem valL_drop (bs : List Nat) (i c : Nat) (h : bs[i]? = some c) : valL (bs.drop i) = c + 256 * valL (bs.drop (i + 1)) := by
  have hl := (List.getElem?_eq_some_iff.1 h).1
  have e : bs.drop i = bs[i] :: bs.drop (i + 1) := by rw [List.getElem_cons_drop]
  rw [e, valL, (List.getElem?_eq_some_iff.1 h).2]
set_option maxHeartbeats 4000000 in
theorem frm_ref_value (v : Value) (bs : List Nat) (w : World) (hv : ViewL w v (u8s bs)) (hb : ∀ b ∈ bs, b < 256) (hl : bs.length ≤ 4) :
    Calls Try.prog 34 #[v] w fun e w' => e = .returned (.int .u32 (valL bs)) ∧ w = w' := by
  obtain ⟨ao, cap, rfl⟩ := hv.shape
  rw [length_u8s] at *
  have HV := Lib.hid hv
  have HB := Lib.hid hb
  clear hv hb
  go_enter Try.func34, Try.ntmps34
  go_wp2_with fail
  go_loopw [3, 4] (fun vv kv wr => ∃ j : Nat, kv = .int .i64 ((bs.length : Int) - 1 - j) ∧ j ≤ bs.length ∧ vv = .int .u32 (valL (bs.drop (bs.length - j))) ∧ wr = w) (fun _ kv _ => (intOf kv + 1).toNat)
  case atStart => exact ⟨0, by simp, Nat.zero_le _, by simp [valL], rfl⟩
  case round =>
    obtain ⟨j, rfl, hj, rfl, rfl⟩ := hrel
    by_cases hjn : j < bs.length
    · obtain ⟨q, hq⟩ : ∃ q : Nat, (q : Int) = (bs.length : Int) - 1 - j := ⟨bs.length - 1 - j, by omega⟩
      have hqn : q < bs.length := by omega
      have hqi : (q : Int) < (bs.length : Int) := by omega
      have hq0 : (0 : Int) ≤ (q : Int) := by omega
      obtain ⟨b, o, rfl, _, hc⟩ := viewL_cells HV.out (by rw [length_u8s]; omega)
      obtain ⟨c, hcc⟩ : ∃ c, bs[q]? = some c := ⟨_, List.getElem?_eq_getElem hqn⟩
      have cB := hc q (.int .u8 c) (by simp [u8s, hcc])
      have hc256 := HB.out c (List.mem_of_getElem? hcc)
      have hst := valL_drop bs q c hcc
      have hlt := valL_lt (bs.drop (q + 1)) (fun x hx => HB.out x (List.mem_of_mem_drop hx))
      have h3 : (bs.drop (q + 1)).length ≤ 3 := by rw [List.length_drop]; omega
      have hlt2 : valL (bs.drop (q + 1)) < 2 ^ 24 := Nat.lt_of_lt_of_le hlt (by rw [pow256]; exact Nat.pow_le_pow_right (by decide) (by omega))
      rw [show bs.length - j = q + 1 by omega]
      have HST := Lib.hid (show valL (bs.drop (bs.length - (j + 1))) = c + 256 * valL (bs.drop (q + 1)) by rw [show bs.length - (j + 1) = q by omega, hst])
      generalize valL (bs.drop (q + 1)) = V at *
      rw [← hq]
      have HQ := Lib.hid hq
      clear hst hc hcc hlt h3 hq
      go_wp2_with fail
      exact ⟨⟨j + 1, by congr 1; have := HQ.out; omega, by omega, by rw [HST.out]; congr 1; omega, trivial⟩, by simp only [intOf]; omega⟩
    · obtain rfl : j = bs.length := by omega
      have e1 : ((bs.length : Int) - 1 - bs.length) = -1 := by omega
      rw [e1, Nat.sub_self, List.drop_zero]
      go_wp2_with fail
      go_ret
      exact ⟨rfl, rfl⟩
end Go.Proofs.Ytmhkjcoidjpocaa
