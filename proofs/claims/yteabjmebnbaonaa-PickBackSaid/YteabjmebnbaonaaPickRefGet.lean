/- pressworkref23.Get: its walk. -/
import Derived.Test.YteabjmebnbaonaaPickGet
import Derived.Test.YteabjmebnbaonaaAppend
namespace Go.Proofs.Yteabjmebnbaonaa
open Go.RowKit
set_option linter.unusedVariables false

/-- bytes in new memory. -/
def BO (w : World) (acc : List Nat) (ov : Value) (wr : World) : Prop := ∃ og, Owns wr 5 1 ov og acc.length (u8s acc) ∧ (∀ g, og = some g → w.heap.size ≤ g) ∧ Ext w wr
theorem BO.ext {w wr w' : World} {acc : List Nat} {ov : Value} (h : BO w acc ov wr) (hx : Ext wr w') : BO w acc ov w' := by
  obtain ⟨og, h1, h2, h3⟩ := h
  exact ⟨og, h1.ext' hx, h2, h3.trans hx⟩
theorem BO.toExt {w wr : World} {l : List Nat} {v : Value} (h : BO w l v wr) : Ext w wr := h.choose_spec.2.2
theorem BO.view {w wr : World} {l : List Nat} {v : Value} (h : BO w l v wr) : View wr v l := h.choose_spec.1.view
theorem BO.viewL {w wr : World} {l : List Nat} {v : Value} (h : BO w l v wr) : ViewL wr v (u8s l) := h.choose_spec.1.viewL
theorem bo_snoc {w w1 w2 : World} {acc : List Nat} {ov v' : Value} {y : Nat} {o : Obj} (h : BO w acc ov w1) (hown' : w2.ownsRow 0 5 1 v' (acc.length + 1) (u8s acc ++ [.int .u8 y]))
    (hgrow : (w1.alloc o).grownBy w2 ov.ownBlock) (hat : v'.ownBlock = ov.ownBlock ∨ v'.ownBlock = some (w1.heap.size + 1)) : BO w (acc ++ [y]) v' w2 := by
  obtain ⟨og, h1, h2, h3⟩ := h
  refine ⟨v'.ownBlock, ⟨by rw [u8s_append, List.length_append]; exact hown', rfl⟩, fun g e => ?_, Touch.grown (h3.alloc _) hgrow (fun i e => Or.inr (h2 i (by rw [← h1.2]; exact e)))⟩
  rcases hat with hat | hat
  · rw [hat, h1.2] at e; exact h2 g e
  · rw [hat] at e; cases e; have := h3.size; omega
theorem viewL_cells {w : World} {ao : Option Addr} {n cap : Nat} {xs : List Value} (h : ViewL w (.slice ao n cap) xs) (h0 : 0 < xs.length) : ∃ b o, ao = some ⟨b, o, none⟩ ∧ xs.length ≤ cap ∧ ∀ j u, xs[j]? = some u → w.cell? ⟨b, o + j, none⟩ = some u := by
  obtain ⟨ao', cap', e, hc, _, h3⟩ := h
  injection e with e1 e2 e3
  subst e1
  subst e3
  obtain ⟨b, o, h4, h5⟩ := h3 h0
  exact ⟨b, o, h4, hc, h5⟩
set_option maxHeartbeats 2000000 in
set_option maxRecDepth 100000 in
theorem pick_ref_get (rv : Value) (L : List Bool) (i : Nat) (w : World) (hr : ViewL w rv (bls L)) (hl : L.length ≤ 2 ^ 40) (hi : i ≤ 2 ^ 40) :
    Calls Try.prog 26 #[rv, .int .i64 i] w fun e w' => ∃ v, e = .returned (.tuple #[v, .int .i64 (pickGet (fun j => L.getD j false) L.length i).2.1, .int .i64 (pickGet (fun j => L.getD j false) L.length i).2.2]) ∧ BO w (pickGet (fun j => L.getD j false) L.length i).1 v w' := by
  obtain ⟨i0, hi1, hz0, hz1, hz2⟩ := info_parts info_u8
  obtain ⟨ao, cap, rfl⟩ := hr.shape
  rw [length_bls] at *
  have HR := Lib.hid hr
  obtain ⟨f, hf⟩ : ∃ f, f = fun j => L.getD j false := ⟨_, rfl⟩
  obtain ⟨N, hN⟩ : ∃ N, N = L.length := ⟨_, rfl⟩
  have HF := Lib.hid hf
  have HN := Lib.hid hN
  rw [← hf, ← hN]
  clear hr hf
  by_cases h16 : N < i + 16
  · have hp : pickGet f N i = ([], i, 2) := by rw [pickGet, if_pos h16]
    have HP := Lib.hid hp
    have k1 : (N : Int) - (i : Int) < 16 := by omega
    have k2 : wrap64 ((N : Int) - (i : Int)) = (N : Int) - (i : Int) := by (rw [wrap64]; omega)
    clear hp hN
    go_enter Try.func26, Try.ntmps26
    go_wp2_with fail
    go_ret3
    exact ⟨.slice none 0 0, by rw [HP.out]; rfl, by rw [HP.out]; exact ⟨none, Owns.nil _ _ _, fun g e => (by cases e), Ext.refl _⟩⟩
  · obtain ⟨b, o, rfl, hcap, hcells0⟩ := viewL_cells HR.out (by rw [length_bls]; omega)
    have hcells : ∀ j, j < N → w.cell? ⟨b, o + j, none⟩ = some (.bool (f j)) := fun j hj => by
      rw [hcells0 j (.bool (f j)) (by rw [getElem?_bls L j (by omega), HF.out]; simp [List.getD, List.getElem?_eq_getElem (show j < L.length by omega)])]
    rw [length_bls, ← hN] at hcap
    have HC := Lib.hid hcells
    have k1 : ¬ (N : Int) - (i : Int) < 16 := by omega
    have k2 : wrap64 ((N : Int) - (i : Int)) = (N : Int) - (i : Int) := by (rw [wrap64]; omega)
    have k3 : ((i : Int) + 16).toNat = i + 16 := by omega
    have k4 : (i : Int).toNat = i := by omega
    have k5 : ¬ cap = i := by omega
    have k6 : wrap64 ((i : Int) + 16) = (i : Int) + 16 := by (rw [wrap64]; omega)
    have hN40 : N ≤ 1099511627776 := by omega
    clear hcells hcells0 hN
    go_enter Try.func26, Try.ntmps26
    go_wp2_with fail
    clear k1 k2 k3 k4 k5 k6
    go_loopw [1, 8, 9] (fun pv ov gv wr => ∃ (g : Nat), g ≤ 16 ∧ gv = .int .i64 g ∧ (pgLoop f N i g).2.2 = true ∧ pv = .int .i64 (pgLoop f N i g).2.1 ∧ BO w (pgLoop f N i g).1 ov wr) (fun _ _ gv _ => 16 - (intOf gv).toNat)
    case atStart => exact ⟨0, Nat.zero_le _, rfl, rfl, by simp [pgLoop], none, Owns.nil _ _ _, fun g e => (by cases e), Ext.refl _⟩
    case round =>
      obtain ⟨g, hg, rfl, hok, rfl, hpg⟩ := hrel
      have hplace := pg_place f N i (by omega) g
      have hlen := pg_len f N i g
      by_cases hlt : g < 16
      · have hlti : (g : Int) < 16 := by omega
        have hstep : pgLoop f N i (g + 1) = if f (i + g) then (if N < (pgLoop f N i g).2.1 + 16 then ((pgLoop f N i g).1, (pgLoop f N i g).2.1, false) else ((pgLoop f N i g).1 ++ selN f (pgLoop f N i g).2.1 g 16, (pgLoop f N i g).2.1 + 16, true)) else pgLoop f N i g := by rw [pgLoop, if_pos hok]
        have hstuck := pg_stuck f N i (15 - g) (g + 1)
        rw [show g + 1 + (15 - g) = 16 by omega] at hstuck
        obtain ⟨t3, hpo⟩ : ∃ t3, t3 = pgLoop f N i g := ⟨_, rfl⟩
        rw [← hpo] at hplace hlen hstep hpg hok ⊢
        obtain ⟨o3, p, q⟩ := t3
        simp only at hplace hlen hstep hpg hok ⊢
        subst hok
        have HSTEP := Lib.hid hstep
        have HSTUCK := Lib.hid hstuck
        have HPG := Lib.hid hpg
        have HPO := Lib.hid hpo.symm
        have hcg := cell_touch hpg.toExt (HC.out (i + g) (by omega)) (fun f => f)
        rw [← Nat.add_assoc] at hcg
        have k1 : (g : Int).toNat = g := by omega
        clear hstep hstuck hpg hpo
        cases hbit : f (i + g) with
        | false =>
          rw [hbit] at hcg
          have hs : pgLoop f N i (g + 1) = (o3, p, true) := by rw [HSTEP.out, hbit]; rfl
          have HS := Lib.hid hs
          clear hs hbit
          go_wp2_with fail
          go_roundw
          case rel => exact ⟨g + 1, by omega, by go_num, by rw [HS.out], by rw [HS.out], by rw [HS.out]; exact HPG.out⟩
          case measure => simp [intOf]; omega
        | true =>
          rw [hbit] at hcg
          have HBIT := Lib.hid hbit
          clear hbit
          have k2 : wrap64 ((N : Int) - (p : Int)) = (N : Int) - (p : Int) := by (rw [wrap64]; omega)
          by_cases hN16 : N < p + 16
          · have k3 : (N : Int) - (p : Int) < 16 := by omega
            have hs : pgLoop f N i 16 = (o3, p, false) := by
              have h1 : pgLoop f N i (g + 1) = (o3, p, false) := by rw [HSTEP.out, HBIT.out, if_pos rfl, if_pos hN16]
              rw [HSTUCK.out (by rw [h1]), h1]
            have hp : pickGet f N i = ([], p, 2) := by rw [pickGet, if_neg h16, hs]; rfl
            have HP := Lib.hid hp
            clear hs hp
            go_wp2_with fail
            go_ret3
            exact ⟨.slice none 0 0, by rw [HP.out]; rfl, by rw [HP.out]; exact ⟨none, Owns.nil _ _ _, fun g e => (by cases e), HPG.out.toExt⟩⟩
          · have k3 : ¬ (N : Int) - (p : Int) < 16 := by omega
            have hs : pgLoop f N i (g + 1) = (o3 ++ selN f p g 16, p + 16, true) := by rw [HSTEP.out, HBIT.out, if_pos rfl, if_neg hN16]
            have HS := Lib.hid hs
            have HS21 := Lib.hid (show (pgLoop f N i (g + 1)).2.1 = p + 16 by rw [hs])
            clear hs
            go_wp2_with fail
            clear k2 k3 hcg
            go_loopw [8, 10] (fun ov cv wr => ∃ k : Nat, k ≤ 16 ∧ cv = .int .i64 k ∧ BO w (o3 ++ selN f p g k) ov wr) (fun _ cv _ => 16 - (intOf cv).toNat)
            case atStart => exact ⟨0, Nat.zero_le _, rfl, by simpa [selN] using HPG.out⟩
            case round =>
              obtain ⟨k, hk, rfl, hpk⟩ := hrel
              by_cases hk16 : k < 16
              · have hki : (k : Int) < 16 := by omega
                have hsl := selN_len f p g k
                have hck := cell_touch hpk.toExt (HC.out (p + k) (by omega)) (fun f => f)
                have HPK := Lib.hid hpk
                have k2 : ((p : Int) + (k : Int)).toNat = p + k := by omega
                have k3 : (0 : Int) ≤ (p : Int) + (k : Int) := by omega
                have k4 : (p : Int) + (k : Int) < (N : Int) := by omega
                clear hpk
                have hor : f (p + k) = false ∨ f (p + k) = true := by cases f (p + k) <;> simp
                rcases hor with hbit | hbit
                · skip
                  rw [hbit] at hck
                  have hs2 : selN f p g (k + 1) = selN f p g k := by rw [selN, hbit]; simp
                  have HS2 := Lib.hid hs2
                  clear hs2 hbit
                  go_wp2_with fail
                  clear k2 k3 k4 hck
                  go_roundw
                  case rel => exact ⟨k + 1, by omega, by go_num, by rw [HS2.out]; exact HPK.out⟩
                  case measure => simp [intOf]; omega
                · skip
                  rw [hbit] at hck
                  have hs2 : selN f p g (k + 1) = selN f p g k ++ [16 * g + k] := by rw [selN, hbit]; rfl
                  obtain ⟨y, hy⟩ : ∃ y, y = 16 * g + k := ⟨_, rfl⟩
                  have hyi : (16 : Int) * (g : Int) + (k : Int) = (y : Int) := by omega
                  have hy8 : IntKind.u8.wrap (y : Int) = (y : Int) := IntWalk.u8_in _ (by omega)
                  have hyb : y < 256 := by omega
                  rw [← hy] at hs2
                  obtain ⟨o2, ho2⟩ : ∃ o2, o2 = o3 ++ selN f p g k := ⟨_, rfl⟩
                  have ho2l : o2.length ≤ 300 := by rw [ho2, List.length_append]; omega
                  rw [← ho2] at HPK
                  have HO2 := Lib.hid ho2
                  have HS2 := Lib.hid hs2
                  clear hs2 hy hbit ho2
                  go_wp2_with (at_builtin; go_must (refine wpList_append_own_at _ rfl (.tmp 49) (.tmp 55) 22 rfl 0 5 i0 (.int .u8 0) 1 1 Try.underlying22 hi1 hz0 hz1 hz2 rfl (by decide) _ o2.length (u8s o2) rfl (HPK.out.choose_spec.1.1.alloc _) ⟨wr.heap.size, 0, none⟩ 1 1 [.int .u8 y] rfl rfl (cell_one_new _ _ _) (by simp [Value.oneCell']) (by unfold maxLen; omega) (by omega) (Nat.zero_le _) ?_))
                  intro v' w3 hown' hgrow _ hat
                  have hf := bo_snoc HPK.out hown' hgrow hat
                  rw [HO2.out, List.append_assoc, ← HS2.out] at hf
                  have HF3 := Lib.hid hf
                  clear hf hown' hgrow hat k2 k3 k4 hck
                  go_wp2_with fail
                  go_roundw
                  case rel => exact ⟨k + 1, by omega, by go_num, HF3.out⟩
                  case measure => simp [intOf]; omega
              · obtain rfl : k = 16 := by omega
                have HPK := Lib.hid hpk
                clear hpk
                go_wp2_with fail
                go_roundw
                case rel => exact ⟨g + 1, by omega, by go_num, by rw [HS.out], (by rw [HS21.out]; go_num), by rw [HS.out]; exact HPK.out⟩
                case measure => simp [intOf]; omega
      · obtain rfl : g = 16 := by omega
        obtain ⟨t3, hpo⟩ : ∃ t3, t3 = pgLoop f N i 16 := ⟨_, rfl⟩
        rw [← hpo] at hplace hlen hpg hok ⊢
        have hpk : pickGet f N i = if t3.2.2 then (if t3.1 = [] then ([], t3.2.1, 2) else (t3.1, t3.2.1, 0)) else ([], t3.2.1, 2) := by rw [pickGet, if_neg h16, hpo]
        obtain ⟨o3, p, q⟩ := t3
        simp only at hplace hlen hpg hok hpk ⊢
        subst hok
        rw [if_pos rfl] at hpk
        obtain ⟨oa, ocap, rfl⟩ := hpg.view.shape
        clear hpo
        by_cases hnil : o3 = []
        · rw [if_pos hnil] at hpk
          have HP := Lib.hid hpk
          have hl0 : (o3.length : Int) = 0 := by rw [hnil]; rfl
          have HX := Lib.hid hpg.toExt
          clear hpk hpg hnil
          go_wp2_with fail
          go_ret3
          exact ⟨.slice none 0 0, by rw [HP.out]; rfl, by rw [HP.out]; exact ⟨none, Owns.nil _ _ _, fun g e => (by cases e), HX.out⟩⟩
        · rw [if_neg hnil] at hpk
          have hpos : 0 < o3.length := List.length_pos_iff.2 hnil
          have hl0 : ¬ (o3.length : Int) = 0 := by omega
          have hl1 : ((o3.length : Int) == 0) = false := by rw [beq_eq_false_iff_ne]; exact hl0
          have HP := Lib.hid hpk
          have HO := Lib.hid hpg
          clear hpk hpg hnil
          go_wp2_with fail
          go_ret3
          exact ⟨_, by rw [HP.out]; rfl, by rw [HP.out]; exact HO.out⟩
end Go.Proofs.Yteabjmebnbaonaa
