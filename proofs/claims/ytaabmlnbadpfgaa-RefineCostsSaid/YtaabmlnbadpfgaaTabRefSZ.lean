/- pressworkref24.Selectors: its walk. -/
import Derived.Test.YtaabmlnbadpfgaaTabFrontZ
import Derived.Test.YtaabmlnbadpfgaaTabRefLZ
namespace Go.Proofs.Ytaabmlnbadpfgaa
open Go.RowKit
set_option linter.unusedVariables false

/-- a row of bits and a list, in new memory, apart. -/
def RL (w : World) (L : List Bool) (lst : List Nat) (rv lv : Value) (wr : World) : Prop :=
  ∃ og oh, Owns wr 4 1 rv og L.length (bls L) ∧ Owns wr 3 1 lv oh lst.length (i64s lst) ∧ (∀ g, og = some g → w.heap.size ≤ g) ∧ (∀ g, oh = some g → w.heap.size ≤ g) ∧ (∀ g, og = some g → oh ≠ some g) ∧ Ext w wr
theorem RL.row {w : World} {L : List Bool} {lst : List Nat} {rv lv : Value} {wr : World} (h : RL w L lst rv lv wr) : wr.ownsRow 0 4 1 rv L.length (bls L) := by
  obtain ⟨og, oh, h1, _⟩ := h; exact h1.1
theorem RL.viewL {w : World} {L : List Bool} {lst : List Nat} {rv lv : Value} {wr : World} (h : RL w L lst rv lv wr) : ViewL wr lv (i64s lst) := by
  obtain ⟨og, oh, h1, h2, _⟩ := h; exact h2.viewL
theorem RL.toExt {w : World} {L : List Bool} {lst : List Nat} {rv lv : Value} {wr : World} (h : RL w L lst rv lv wr) : Ext w wr := by
  obtain ⟨og, oh, h1, h2, h3, h4, h5, h6⟩ := h; exact h6
theorem RL.shape {w : World} {L : List Bool} {lst : List Nat} {rv lv : Value} {wr : World} (h : RL w L lst rv lv wr) : (∃ ao cap, rv = .slice ao L.length cap) ∧ ∃ ao cap, lv = .slice ao lst.length cap := by
  obtain ⟨og, oh, h1, h2, _⟩ := h; exact ⟨h1.shape, h2.shape⟩
theorem RL.drewN {w : World} {L : List Bool} {lst : List Nat} {rv lv : Value} {wr : World} (h : RL w L lst rv lv wr) (n : Nat) : RL w L lst rv lv (wr.drewN n) := by
  obtain ⟨og, oh, h1, h2, h3, h4, h5, h6⟩ := h
  exact ⟨og, oh, h1.ext' ((Ext.refl _).drewN n), h2.ext' ((Ext.refl _).drewN n), h3, h4, h5, h6.drewN n⟩
theorem RL.app {w w1 w2 : World} {L xs : List Bool} {lst : List Nat} {ov v' lv : Value} {o : Obj} (h : RL w L lst ov lv w1) (hown' : w2.ownsRow 0 4 1 v' (L.length + xs.length) (bls L ++ bls xs))
    (hgrow : (w1.alloc o).grownBy w2 ov.ownBlock) (hat : v'.ownBlock = ov.ownBlock ∨ v'.ownBlock = some (w1.heap.size + 1)) : RL w (L ++ xs) lst v' lv w2 := by
  obtain ⟨og, oh, h1, h2, h3, h4, h5, h6⟩ := h
  have t : Touch (fun k => ov.ownBlock = some k) w1 w2 := (((Ext.refl w1).alloc _).mono (fun _ _ f => f.elim)).grown hgrow (fun k e => Or.inl e)
  refine ⟨v'.ownBlock, oh, ⟨by rw [bls_append, List.length_append]; exact hown', rfl⟩, h2.keep t (fun g e e2 => h5 g (by rw [← h1.2]; exact e2) e), fun g e => ?_, h4, fun g e e2 => ?_, Touch.grown (h6.alloc _) hgrow (fun i e => Or.inr (h3 i (by rw [← h1.2]; exact e)))⟩
  · rcases hat with hat | hat
    · rw [hat, h1.2] at e; exact h3 g e
    · rw [hat] at e; cases e; have := h6.size; omega
  · rcases hat with hat | hat
    · rw [hat, h1.2] at e; exact h5 g e e2
    · rw [hat] at e; cases e; have := h2.lt _ e2; omega
theorem RL.front {w w1 w2 : World} {L : List Bool} {lst lst' : List Nat} {rv lv lv' : Value} (h : RL w L lst rv lv w1) (hf : IOt w1 lst' lv' w2) : RL w L lst' rv lv' w2 := by
  obtain ⟨og, oh, h1, h2, h3, h4, h5, h6⟩ := h
  obtain ⟨oi, k1, k2, k3⟩ := hf
  exact ⟨og, oi, h1.ext' k3, k1, h3, fun g e => Nat.le_trans h6.size (k2 g e), fun g e e2 => by have := h1.lt g e; have := k2 g e2; omega, h6.trans k3⟩
set_option maxHeartbeats 4000000 in
set_option maxRecDepth 100000 in
theorem tab_ref_sel (v : Value) (vs : List Nat) (t : Nat) (w : World) (hv : ViewL w v (i64s vs)) (hm : MayN vs t) :
    Calls Try.prog 26 #[v] w (NewRow w (selBits vs)) := by
  obtain ⟨i0, hi, hz0, hz1, hz2⟩ := info_parts msb_infoB
  obtain ⟨ao, cap, rfl⟩ := hv.shape
  rw [length_i64s] at *
  obtain ⟨m1, m2, m3, m4, m5⟩ := hm
  have HC := Lib.hid (show ∀ (wr : World), Ext w wr → ∀ (k x : Nat), vs[k]? = some x → ∃ b o, ao = some ⟨b, o, none⟩ ∧ wr.cell? ⟨b, o + k, none⟩ = some (.int .i64 x) from fun wr ht k x hx => by
    obtain ⟨b, o, rfl, _, hc⟩ := viewL_cells hv (by rw [length_i64s]; omega)
    exact ⟨b, o, rfl, cell_touch ht (hc k (.int .i64 x) (by simp [i64s, hx])) (fun f => f)⟩)
  have HM5 := Lib.hid m5
  have k32 : IntKind.u32.wrap (vs.length : Int) = (vs.length : Int) := IntWalk.u32_in _ (by omega)
  clear hv m5
  go_enter Try.func26, Try.ntmps26
  go_wp2_with fail
  refine (msb_ref_bits vs.length 15 _ (by omega) (by decide)).mono ?_
  rintro e w1 ⟨v1, og1, rfl, o1, g1, x1⟩
  clear k32
  have hio := io_new w1 lst0 [.int .i64 0, .int .i64 1, .int .i64 2, .int .i64 3, .int .i64 4, .int .i64 5] rfl 6 rfl (by decide) (by decide)
  have HRL := Lib.hid (show RL w (bitsOf true vs.length 15) lst0 v1 (.slice (some ⟨w1.heap.size, 0, none⟩) 6 6) (w1.alloc (.cells #[.int .i64 0, .int .i64 1, .int .i64 2, .int .i64 3, .int .i64 4, .int .i64 5] 3)) from by
    obtain ⟨oi, k1, k2, k3⟩ := hio
    exact ⟨og1, oi, o1.ext' k3, k1, g1, fun g e => Nat.le_trans x1.size (k2 g e), fun g e e2 => by have := o1.lt g e; have := k2 g e2; omega, x1.trans k3⟩)
  have HL15 := Lib.hid (show selBits vs = bitsOf true vs.length 15 ++ selFrom lst0 vs from rfl)
  clear hio o1 g1 x1
  go_wp2_with fail
  go_loopw [3, 4, 5, 6] (fun rv lv iv _ wr => ∃ (k : Nat) (lst : List Nat) (acc : List Bool), iv = .int .i64 k ∧ k ≤ vs.length ∧ acc.length ≤ 6 * k ∧ RL w (bitsOf true vs.length 15 ++ acc) lst rv lv wr ∧ Good t lst ∧ Hid (selFrom lst0 vs = acc ++ selFrom lst (vs.drop k))) (fun _ _ iv _ _ => vs.length - (intOf iv).toNat)
  case atStart => exact ⟨0, lst0, [], rfl, Nat.zero_le _, Nat.le_refl _, by simpa using HRL.out, good0 t m1 m2, Lib.hid rfl⟩
  case round =>
    clear HRL
    obtain ⟨k, lst, acc, rfl, hk, hal6, hsi, hgood, HE⟩ := hrel
    obtain ⟨⟨ra, rcap, rfl⟩, la, lcap, rfl⟩ := hsi.shape
    have HSI := Lib.hid hsi
    have HGD := Lib.hid hgood
    have hl6 := hgood.len
    rw [hl6] at HSI ⊢
    have HL6 := Lib.hid hl6
    clear hsi hgood hl6
    by_cases hlt : k < vs.length
    · have hlti : (k : Int) < (vs.length : Int) := by omega
      obtain ⟨x, hx⟩ : ∃ x, vs[k]? = some x := ⟨_, List.getElem?_eq_getElem hlt⟩
      have hxn := HM5.out x (List.mem_of_getElem? hx)
      have hdrop : vs.drop k = x :: vs.drop (k + 1) := by
        rw [List.drop_eq_getElem_cons hlt]; congr 1
        have := List.getElem?_eq_getElem hlt; rw [hx] at this; cases this; rfl
      have HEX := Lib.hid (show selFrom lst (vs.drop k) = List.replicate (idx lst x) true ++ false :: selFrom (mtf lst (idx lst x)) (vs.drop (k + 1)) by rw [hdrop, selFrom])
      have hidx := HGD.out.idx m2 hxn
      have HBF := Lib.hid (idx_before lst x)
      have HGX := Lib.hid (show lst[idx lst x]? = some x by have h6 := HL6.out; have := hidx.2; simpa [List.getD, List.getElem?_eq_getElem (show idx lst x < lst.length by omega)] using this)
      have HG2 := Lib.hid (HGD.out.mtf m2 hidx.1)
      have hi6 := hidx.1
      have HX := Lib.hid hx
      obtain ⟨K, hK⟩ : ∃ K, K = idx lst x := ⟨_, rfl⟩
      rw [← hK] at HEX HBF HGX HG2 hi6
      clear hx hdrop hidx hK
      go_wp2_with fail
      go_loopw [3, 6] (fun rv kv wr => ∃ j : Nat, kv = .int .i64 j ∧ j ≤ K ∧ RL w (bitsOf true vs.length 15 ++ (acc ++ List.replicate j true)) lst rv (.slice la 6 lcap) wr) (fun _ kv _ => K - (intOf kv).toNat)
      case atStart => exact ⟨0, rfl, Nat.zero_le _, by simpa using HSI.out⟩
      case round =>
        clear HSI
        obtain ⟨j, rfl, hj, hsj⟩ := hrel
        obtain ⟨⟨ra2, rcap2, rfl⟩, _⟩ := hsj.shape
        obtain ⟨y, hy⟩ : ∃ y, lst[j]? = some y := ⟨_, List.getElem?_eq_getElem (by have := HL6.out; omega)⟩
        obtain ⟨b1, o1, rfl, _, hc1⟩ := viewL_cells hsj.viewL (by rw [length_i64s]; have := HL6.out; omega)
        have c1 := hc1 j (.int .i64 y) (by simp [i64s, hy])
        obtain ⟨b2, o2, e0, c2⟩ := HC.out _ hsj.toExt k x HX.out
        cases e0
        have hji : (j : Int) < 6 := by omega
        have hll : (bitsOf true vs.length 15 ++ (acc ++ List.replicate j true)).length ≤ 2 ^ 30 := by simp only [List.length_append, length_bitsOf, List.length_replicate]; omega
        have HSJ := Lib.hid hsj
        have HY := Lib.hid hy
        obtain ⟨M, hM⟩ : ∃ M, M = bitsOf true vs.length 15 ++ (acc ++ List.replicate j true) := ⟨_, rfl⟩
        rw [← hM] at HSJ hll ⊢
        have HM := Lib.hid hM
        clear hsj hy hc1 hM
        by_cases hjk : j = K
        · have hxy : ((y : Int) != (x : Int)) = false := by have := HY.out; rw [hjk, HGX.out] at this; cases this; simp
          have hxy2 : (y : Int) = (x : Int) := by have := HY.out; rw [hjk, HGX.out] at this; cases this; rfl
          have HJK := Lib.hid hjk
          clear hjk
          go_wp2_with fail
          go_quiet (fail)
          go_wp2_with (at_builtin; go_must (refine wpList_append_own_at _ rfl (.tmp 32) (.tmp 33) 56 rfl 0 4 i0 (.bool false) 1 1 Try.underlying56 hi hz0 hz1 hz2 rfl (by decide) _ M.length (bls M) rfl ((HSJ.out.drewN _).row.alloc _) ⟨wr.heap.size, 0, none⟩ 1 1 [.bool false] rfl rfl (news _ _ _ _) (by simp [Value.oneCell']) (by unfold maxLen; omega) (by omega) (Nat.zero_le _) ?_))
          intro v' w5 hown' hgrow _ hat
          have HR5 := Lib.hid (RL.app (xs := [false]) (HSJ.out.drewN _) hown' hgrow hat)
          clear hown' hgrow hat c1 c2 hxy hxy2
          go_wp2_with fail
          have hl5 := HL6.out
          refine (tab_front _ lst j _ HR5.out.viewL HL6.out (by omega)).mono ?_
          rintro e w6 ⟨v6, rfl, i6⟩
          have HR6 := Lib.hid (HR5.out.front i6)
          clear i6
          go_wp2_with fail
          go_roundw
          case rel => exact ⟨k + 1, mtf lst j, acc ++ (List.replicate j true ++ [false]), by go_num, by omega, by simp only [List.length_append, List.length_replicate, List.length_cons, List.length_nil]; omega, by have := HR6.out; rw [HM.out] at this; simpa [List.append_assoc] using this, by rw [HJK.out]; exact HG2.out, Lib.hid (by rw [HE.out, HEX.out, HJK.out]; simp)⟩
          case measure => simp [intOf]; omega
        · have hne : y ≠ x := fun e => HBF.out j (by omega) (by rw [HY.out, e])
          have hxy : ((y : Int) != (x : Int)) = true := by rw [bne_iff_ne]; omega
          have hxy2 : ¬ (y : Int) = (x : Int) := by omega
          go_wp2_with fail
          go_quiet (fail)
          go_wp2_with (at_builtin; go_must (refine wpList_append_own_at _ rfl (.tmp 27) (.tmp 28) 56 rfl 0 4 i0 (.bool false) 1 1 Try.underlying56 hi hz0 hz1 hz2 rfl (by decide) _ M.length (bls M) rfl ((HSJ.out.drewN _).row.alloc _) ⟨wr.heap.size, 0, none⟩ 1 1 [.bool true] rfl rfl (news _ _ _ _) (by simp [Value.oneCell']) (by unfold maxLen; omega) (by omega) (Nat.zero_le _) ?_))
          intro v' w5 hown' hgrow _ hat
          have HR5 := Lib.hid (RL.app (xs := [true]) (HSJ.out.drewN _) hown' hgrow hat)
          clear hown' hgrow hat c1 c2 hxy hxy2 hne
          go_wp2_with fail
          go_roundw
          case rel => exact ⟨j + 1, by go_num, by omega, by have := HR5.out; rw [HM.out] at this; rw [List.replicate_succ']; simpa [List.append_assoc] using this⟩
          case measure => simp [intOf]; omega
    · obtain rfl : k = vs.length := by omega
      have hfin : acc = selFrom lst0 vs := by rw [HE.out, List.drop_length, selFrom, List.append_nil]
      have HF := Lib.hid (show NewRow w (selBits vs) (.returned (.slice ra (bitsOf true vs.length 15 ++ acc).length rcap)) wr by
        rw [HL15.out, ← hfin]
        obtain ⟨og, oh, h1, h2, h3, h4, h5, h6⟩ := HSI.out
        exact ⟨_, og, rfl, h1, h3, h6⟩)
      clear hfin
      go_wp2_with fail
      go_ret
      exact HF.out
end Go.Proofs.Ytaabmlnbadpfgaa
