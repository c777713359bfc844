/- pressworklaw12.stored: its walk. Gunzip, plain: a bit of a head's sum, or of a tail, that turned. No program is named here. Gunzip, plain: members of stored bytes, one behind the other. No program is named here. -/
import Derived.Test.YtbbcphloafmldaaGreatBnd23
import Derived.Test.YtbbcphloafmldaaGreatFrmPutZ
import Derived.Test.YtbbcphloafmldaaGreatBnd22
import Derived.Test.YtbbcphloafmldaaGreatBnd3
import Derived.Test.YtbbcphloafmldaaGreatGunMemZ
/-! pressworklaw12.stored: its walk. -/
namespace Go.Proofs.YtbbcphloafmldaaGreat
open Go.RowKit
set_option linter.unusedVariables false
set_option linter.unusedSimpArgs false

theorem sto_cells (n : Nat) (hl : n ≤ 3000) : u8s [1, n % 256, n / 256, 255 - n % 256, 255 - n / 256] = [.int .u8 1, .int .u8 ((n : Int) % 256), .int .u8 ((n : Int) / 256), .int .u8 (255 - (n : Int) % 256), .int .u8 (255 - (n : Int) / 256)] := by
  have e1 : ((n % 256 : Nat) : Int) = (n : Int) % 256 := by omega
  have e2 : ((n / 256 : Nat) : Int) = (n : Int) / 256 := by omega
  have e3 : ((255 - n % 256 : Nat) : Int) = 255 - (n : Int) % 256 := by omega
  have e4 : ((255 - n / 256 : Nat) : Int) = 255 - (n : Int) / 256 := by omega
  simp only [u8s, List.map_cons, List.map_nil, e1, e2, e3, e4]
  rfl
theorem putH_len (h : Hd) (may : MayH h) (hsz : h.name.size ≤ 1000 ∧ h.comment.size ≤ 1000 ∧ h.extra.length ≤ 1000) : (putH h).length ≤ 10000 := by
  have h1 := px_len h
  have h2 := pn_len h
  have h3 := pc_len h
  have h4 : (putH h).length ≤ (pc h).length + 2 := by
    unfold putH; split
    · rw [List.length_append, length_leN]; exact Nat.le_refl _
    · omega
  omega
set_option maxHeartbeats 8000000 in
set_option maxRecDepth 100000 in
theorem gun_stored (h : Hd) (eo : Option Addr) (ec : Nat) (v : Value) (b : List Nat) (w : World) (ok : HOk h) (may : MayH h) (hv : ViewL w (.slice eo h.extra.length ec) (u8s h.extra)) (hvb : ViewL w v (u8s b)) (hb : ∀ x ∈ b, x < 256) (hl : b.length ≤ 3000) (hsz : h.extra.length ≤ 1000 ∧ h.name.size ≤ 1000 ∧ h.comment.size ≤ 1000) :
    Calls Tryz.prog 11 #[.agg (hcells h (.slice eo h.extra.length ec)), v] w (CloneOf w (memL h b)) := by
  obtain ⟨i0, hi, hz0, hz1, hz2⟩ := info_parts info_u8
  obtain ⟨bo, bc, rfl⟩ := hvb.shape
  rw [length_u8s] at hvb ⊢
  obtain ⟨n, hn⟩ : ∃ n, n = b.length := ⟨_, rfl⟩
  obtain ⟨xl, hxl⟩ : ∃ xl, xl = h.extra.length := ⟨_, rfl⟩
  rw [← hn] at hvb hl ⊢
  rw [← hxl] at hv ⊢
  obtain ⟨wb, hwb⟩ : ∃ wb, wb = w.alloc (.cells (hcells h (.slice eo xl ec)) 34) := ⟨_, rfl⟩
  have hxb : Ext w wb := by rw [hwb]; exact (Ext.refl _).alloc _
  have hnc := viewL_cap hvb
  have HP := Lib.hid (show Calls Tryz.prog 10 #[.agg (hcells h (.slice eo xl ec))] wb fun e w' => ∃ v, e = .returned (.tuple #[v, .int .i64 0]) ∧ CloneOf wb (putH h) (.returned v) w' from by
    have hq := frm_put h eo ec wb ok (by rw [← hxl]; exact hv.ext hxb) (by omega)
    simp only [if_pos may] at hq
    rw [← hxl] at hq
    exact hq)
  have HVW := Lib.hid hvb
  have HB := Lib.hid (And.intro hb (And.intro hn (And.intro hl hxb)))
  have HW := Lib.hid hwb
  have HPB := Lib.hid (putH_len h may (by omega))
  simp only [hcells] at HP hwb ⊢
  clear hv hvb hb hn hsz hxl
  go_enter Tryz.func11, Tryz.ntmps11
  go_wp2_with fail
  rw [← hwb]
  refine HP.out.mono ?_
  rintro e w1 ⟨v1, rfl, hc1⟩
  obtain ⟨v1', og1, e1, ho1, hg1, hx1⟩ := hc1
  cases e1
  obtain ⟨po, pc', rfl⟩ := ho1.shape
  have HO := Lib.hid (show Owns w1 5 1 (.slice po (putH h).length pc') og1 (putH h).length (u8s (putH h)) ∧ (∀ g, og1 = some g → w.heap.size ≤ g) ∧ Ext w w1 from ⟨ho1, fun g e => Nat.le_trans HB.out.2.2.2.size (hg1 g e), HB.out.2.2.2.trans hx1⟩)
  clear ho1 hg1 hx1 hwb HP
  obtain ⟨pl, hpl⟩ : ∃ pl, pl = (putH h).length := ⟨_, rfl⟩
  rw [← hpl] at HO ⊢
  have HPL := Lib.hid hpl
  clear hpl
  have hli : (n : Int) ≤ 3000 := by omega
  go_wp2_with fail
  go_loopw [5, 7, 8, 9] (fun ov rv nv lv wr => ov = .slice po pl pc' ∧ rv = .slice bo n bc ∧ wr = w1) (fun _ _ _ _ _ => 0)
  case atStart => exact ⟨rfl, rfl, rfl⟩
  case round =>
    obtain ⟨rfl, rfl, rfl⟩ := hrel
    have HN := Lib.hid (show pl = (putH h).length ∧ pl ≤ 10000 ∧ n = b.length ∧ n ≤ 3000 from ⟨HPL.out, by rw [HPL.out]; exact HPB.out, HB.out.2.1, HB.out.2.2.1⟩)
    have HOW := Lib.hid (show (wr.alloc (.cells #[.int .u8 1, .int .u8 ((n : Int) % 256), .int .u8 ((n : Int) / 256), .int .u8 (255 - (n : Int) % 256), .int .u8 (255 - (n : Int) / 256)] 5)).ownsRow 0 5 1 (.slice po pl pc') pl (u8s (putH h)) from by
      have q := (HO.out.1.ext' ((Ext.refl wr).alloc (.cells #[.int .u8 1, .int .u8 ((n : Int) % 256), .int .u8 ((n : Int) / 256), .int .u8 (255 - (n : Int) % 256), .int .u8 (255 - (n : Int) / 256)] 5))).1
      exact q)
    have HVL := Lib.hid (show ViewL (wr.alloc (.cells #[.int .u8 1, .int .u8 ((n : Int) % 256), .int .u8 ((n : Int) / 256), .int .u8 (255 - (n : Int) % 256), .int .u8 (255 - (n : Int) / 256)] 5)) (.slice (some ⟨wr.heap.size, 0, none⟩) 5 5) (u8s [1, n % 256, n / 256, 255 - n % 256, 255 - n / 256]) from by
      have q := (view_new wr [1, n % 256, n / 256, 255 - n % 256, 255 - n / 256] 5 (0, 0)).viewL (fun a n c e => by cases e; exact Nat.le_refl _)
      have e : u8s [1, n % 256, n / 256, 255 - n % 256, 255 - n / 256] = [.int .u8 1, .int .u8 ((n : Int) % 256), .int .u8 ((n : Int) / 256), .int .u8 (255 - (n : Int) % 256), .int .u8 (255 - (n : Int) / 256)] := sto_cells n hl
      rw [e] at q ⊢
      exact q)
    go_wp2_with (at_builtin; go_must (refine wpList_append_view _ rfl (.tmp 23) (.tmp 38) 22 rfl 0 5 i0 (.int .u8 0) 1 Tryz.underlying22 hi hz0 hz1 hz2 rfl _ pl (u8s (putH h)) rfl HOW.out _ (u8s [1, n % 256, n / 256, 255 - n % 256, 255 - n / 256]) rfl HVL.out (u8s_one _) (by rw [length_u8s]; have := HN.out; unfold maxLen; simp; omega) (by rw [length_u8s]; have := HN.out; simp; omega) (Nat.zero_le _) ?_))
    intro v2 w2 hown2 hgrow2 hat2
    have hx2 : Ext w w2 := Touch.grown (HO.out.2.2.alloc _) hgrow2 (fun k e => Or.inr (HO.out.2.1 k (by rw [← HO.out.1.2]; exact e)))
    have hn2 : ∀ k, v2.ownBlock = some k → w.heap.size ≤ k := fun k e => by
      rcases hat2 with h | h
      · rw [h] at e; exact HO.out.2.1 k (by rw [← HO.out.1.2]; exact e)
      · rw [h] at e; cases e; have := HO.out.2.2.size; omega
    have HO2 := Lib.hid (show w2.ownsRow 0 5 1 v2 (pl + 5) (u8s (putH h ++ [1, n % 256, n / 256, 255 - n % 256, 255 - n / 256])) ∧ (∀ k, v2.ownBlock = some k → w.heap.size ≤ k) ∧ Ext w w2 from ⟨by rw [u8s_append]; exact hown2, hn2, hx2⟩)
    have HVB2 := Lib.hid (HVW.out.ext hx2)
    clear hown2 hgrow2 hat2 hx2 hn2 HOW HVL
    obtain ⟨P2, hP2⟩ : ∃ P2, P2 = putH h ++ [1, n % 256, n / 256, 255 - n % 256, 255 - n / 256] := ⟨_, rfl⟩
    rw [← hP2] at HO2
    have HP2 := Lib.hid hP2
    clear hP2
    go_wp2_with (at_builtin; go_must (refine wpList_append_view _ rfl (.tmp 40) (.tmp 43) 22 rfl 0 5 i0 (.int .u8 0) 1 Tryz.underlying22 hi hz0 hz1 hz2 rfl _ (pl + 5) (u8s P2) rfl HO2.out.1 _ (u8s b) rfl HVB2.out (u8s_one _) (by rw [length_u8s]; have := HN.out; unfold maxLen; omega) (by rw [length_u8s]; have := HN.out; omega) (Nat.zero_le _) ?_))
    intro v3 w3 hown3 hgrow3 hat3
    have hx3 : Ext w w3 := Touch.grown HO2.out.2.2 hgrow3 (fun k e => Or.inr (HO2.out.2.1 k e))
    have hn3 : ∀ k, v3.ownBlock = some k → w.heap.size ≤ k := fun k e => by
      rcases hat3 with h | h
      · rw [h] at e; exact HO2.out.2.1 k e
      · rw [h] at e; cases e; exact HO2.out.2.2.size
    rw [length_u8s] at hown3
    have HO3 := Lib.hid (show w3.ownsRow 0 5 1 v3 (pl + 5 + b.length) (u8s (P2 ++ b)) ∧ (∀ k, v3.ownBlock = some k → w.heap.size ≤ k) ∧ Ext w w3 from ⟨by rw [u8s_append]; exact hown3, hn3, hx3⟩)
    have HVB3 := Lib.hid (HVW.out.ext hx3)
    clear hown3 hgrow3 hat3 hx3 hn3 HO2 HVB2
    have HEND := Lib.hid (show ∀ (v4 : Value) (w4 : World), w4.ownsRow 0 5 1 v4 (pl + 5 + b.length + 8) (u8s (P2 ++ b) ++ u8s (tailL b)) → (∀ k, v4.ownBlock = some k → w.heap.size ≤ k) → Ext w w4 → CloneOf w (memL h b) (.returned v4) w4 from fun v4 w4 k1 k2 k3 => by
      have e : memL h b = (P2 ++ b) ++ tailL b := by rw [HP2.out, memL, stoL, HN.out.2.2.1]; simp
      have el : (memL h b).length = pl + 5 + b.length + 8 := by rw [len_memL, HPL.out]
      exact ⟨v4, v4.ownBlock, rfl, ⟨by rw [el, e, u8s_append]; exact k1, rfl⟩, k2, k3⟩)
    have HTL := Lib.hid (show ∀ bc', ViewL w3 (.slice bo n bc') (u8s b) → Calls Tryz.prog 21 #[.slice bo n bc'] w3 (CloneOf w3 (tailL b)) from fun bc' hq => frm_tail _ b w3 hq HB.out.1 (by have := HN.out; omega))
    clear HP2
    by_cases hbn : bc = n
    · subst hbn
      go_wp2_with fail
      refine (HTL.out _ HVB3.out).mono ?_
      rintro e w4 ⟨v4, og4, rfl, ho4, hg4, hx4⟩
      have HV4 := Lib.hid ho4.viewL
      have HO4 := Lib.hid (show w4.ownsRow 0 5 1 v3 (pl + 5 + b.length) (u8s (P2 ++ b)) ∧ (∀ k, v3.ownBlock = some k → w.heap.size ≤ k) ∧ Ext w w4 from ⟨((show Owns w3 5 1 v3 v3.ownBlock _ _ from ⟨HO3.out.1, rfl⟩).ext' hx4).1, HO3.out.2.1, HO3.out.2.2.trans hx4⟩)
      clear ho4 hg4 hx4
      go_wp2_with (at_builtin; go_must (refine wpList_append_view _ rfl (.tmp 50) (.tmp 52) 22 rfl 0 5 i0 (.int .u8 0) 1 Tryz.underlying22 hi hz0 hz1 hz2 rfl _ (pl + 5 + b.length) (u8s (P2 ++ b)) rfl HO4.out.1 _ (u8s (tailL b)) rfl HV4.out (u8s_one _) (by rw [length_u8s, len_tailL]; have := HN.out; unfold maxLen; omega) (by rw [length_u8s, len_tailL]; have := HN.out; omega) (Nat.zero_le _) ?_))
      intro v5 w5 hown5 hgrow5 hat5
      have hx5 : Ext w w5 := Touch.grown HO4.out.2.2 hgrow5 (fun k e => Or.inr (HO4.out.2.1 k e))
      have hn5 : ∀ k, v5.ownBlock = some k → w.heap.size ≤ k := fun k e => by
        rcases hat5 with h | h
        · rw [h] at e; exact HO4.out.2.1 k e
        · rw [h] at e; cases e; exact HO4.out.2.2.size
      rw [length_u8s, len_tailL] at hown5
      have HF := Lib.hid (HEND.out v5 w5 hown5 hn5 hx5)
      clear hown5 hgrow5 hat5 hx5 hn5
      go_wp2_with fail
      go_ret
      exact HF.out
    · have hbn2 : ¬ n = bc := fun e => hbn e.symm
      go_wp2_with fail
      refine (HTL.out _ HVB3.out).mono ?_
      rintro e w4 ⟨v4, og4, rfl, ho4, hg4, hx4⟩
      have HV4 := Lib.hid ho4.viewL
      have HO4 := Lib.hid (show w4.ownsRow 0 5 1 v3 (pl + 5 + b.length) (u8s (P2 ++ b)) ∧ (∀ k, v3.ownBlock = some k → w.heap.size ≤ k) ∧ Ext w w4 from ⟨((show Owns w3 5 1 v3 v3.ownBlock _ _ from ⟨HO3.out.1, rfl⟩).ext' hx4).1, HO3.out.2.1, HO3.out.2.2.trans hx4⟩)
      clear ho4 hg4 hx4
      go_wp2_with (at_builtin; go_must (refine wpList_append_view _ rfl (.tmp 50) (.tmp 52) 22 rfl 0 5 i0 (.int .u8 0) 1 Tryz.underlying22 hi hz0 hz1 hz2 rfl _ (pl + 5 + b.length) (u8s (P2 ++ b)) rfl HO4.out.1 _ (u8s (tailL b)) rfl HV4.out (u8s_one _) (by rw [length_u8s, len_tailL]; have := HN.out; unfold maxLen; omega) (by rw [length_u8s, len_tailL]; have := HN.out; omega) (Nat.zero_le _) ?_))
      intro v5 w5 hown5 hgrow5 hat5
      have hx5 : Ext w w5 := Touch.grown HO4.out.2.2 hgrow5 (fun k e => Or.inr (HO4.out.2.1 k e))
      have hn5 : ∀ k, v5.ownBlock = some k → w.heap.size ≤ k := fun k e => by
        rcases hat5 with h | h
        · rw [h] at e; exact HO4.out.2.1 k e
        · rw [h] at e; cases e; exact HO4.out.2.2.size
      rw [length_u8s, len_tailL] at hown5
      have HF := Lib.hid (HEND.out v5 w5 hown5 hn5 hx5)
      clear hown5 hgrow5 hat5 hx5 hn5
      go_wp2_with fail
      go_ret
      exact HF.out
end Go.Proofs.YtbbcphloafmldaaGreat

/-! Gunzip, plain: a bit of a head's sum, or of a tail, that turned. No program is named here. -/
namespace Go.Proofs.YtbbcphloafmldaaGreat
open Go.RowKit
set_option linter.unusedVariables false

theorem xor_ne (x k : Nat) : x ^^^ 2 ^ k ≠ x := fun h => by
  have h2 : x ^^^ (x ^^^ 2 ^ k) = 0 := by rw [h, Nat.xor_self]
  rw [← Nat.xor_assoc, Nat.xor_self, Nat.zero_xor] at h2
  exact absurd h2 (Nat.ne_of_gt (Nat.two_pow_pos k))
theorem xor_lt {x k : Nat} (hx : x < 256) (hk : k < 8) : x ^^^ 2 ^ k < 256 := Nat.xor_lt_two_pow (n := 8) hx (Nat.pow_lt_pow_right (by decide) hk)
theorem set_ne {l : List Nat} {i u : Nat} (h : i < l.length) (hu : u ≠ l.getD i 0) : l.set i u ≠ l := fun e => hu (by
  have : (l.set i u).getD i 0 = u := by simp [List.getD, h]
  rw [← this, e])
theorem set_app_r (l m : List Nat) (i u : Nat) : (l ++ m).set (l.length + i) u = l ++ m.set i u := by
  rw [List.set_append_right _ _ (by omega), Nat.add_sub_cancel_left]
/-- the last byte of a head's sum, turned. -/
theorem mem_sum (h : Hd) (ok : HOk h) (may : MayH h) (hs : h.sum = true) (b : List Nat) (hl : b.length < 65536) (hb : ∀ x ∈ b, x < 256) (k : Nat) (u : Nat) (hu : u ≠ (memL h b).getD ((putH h).length - 1) 0) (hu2 : u < 256) :
    gunF ((memL h b).set ((putH h).length - 1) u) k = some (b, true) := by
  have hp : putH h = pc h ++ [crcL (pc h) % 256, crcL (pc h) / 256 % 256] := by rw [putH, if_pos hs, leN2_form]
  have hlen : (putH h).length - 1 = (pc h).length + 1 := by rw [hp]; simp
  have hg0 : (memL h b).getD ((putH h).length - 1) 0 = crcL (pc h) / 256 % 256 := by
    rw [hlen, memL, hp, List.append_assoc]; exact (getD_app_r (pc h) _ 1).trans rfl
  rw [hg0] at hu
  have hset : (memL h b).set ((putH h).length - 1) u = (pc h ++ [crcL (pc h) % 256, u]) ++ (stoL b ++ tailL b) := by
    rw [hlen, memL, hp, List.append_assoc, List.append_assoc, set_app_r]; rfl
  have hget : getH ((pc h ++ [crcL (pc h) % 256, u]) ++ (stoL b ++ tailL b)) = some (h, (pc h).length + 2, true) := by
    rw [List.append_assoc]
    refine (getH_sum h ok may hs (crcL (pc h) % 256) u _).trans ?_
    rw [decide_eq_true]
    intro e
    apply hu
    omega
  have h1 := sto_memF (hb := pc h ++ [crcL (pc h) % 256, u]) (b := b) (r := tailL b) hget (by simp) hl hb k
  rw [if_neg (by rw [len_tailL]; omega), List.take_of_length_le (by rw [len_tailL]; omega)] at h1
  simp only [Bool.true_or] at h1
  rw [hset]
  refine gunF_last h1 ?_
  simp [stoL, len_tailL]; omega
/-- a byte of a tail, turned: behind members, what the last says is kept whole. -/
theorem mem_tail (h : Hd) (ok : HOk h) (may : MayH h) (b : List Nat) (hl : b.length < 65536) (hb : ∀ x ∈ b, x < 256) (k : Nat) (hk : b.length ≤ k) (i : Nat) (hi : i < 8) (u : Nat) (hu : u ≠ (memL h b).getD ((memL h b).length - 1 - i) 0) :
    gunF ((memL h b).set ((memL h b).length - 1 - i) u) k = some (b, true) := by
  have hs : (stoL b).length = 5 + b.length := by simp [stoL]; omega
  have hlen : (memL h b).length - 1 - i = (putH h).length + ((5 + b.length) + (7 - i)) := by rw [len_memL]; omega
  have hset : (memL h b).set ((memL h b).length - 1 - i) u = putH h ++ (stoL b ++ (tailL b).set (7 - i) u) := by
    rw [hlen, memL, set_app_r, ← hs, set_app_r]
  have hg0 : (memL h b).getD ((memL h b).length - 1 - i) 0 = (tailL b).getD (7 - i) 0 := by
    rw [hlen, memL, getD_app_r, ← hs, getD_app_r]
  rw [hset]
  rw [hg0] at hu
  exact mem_other h ok may b _ hl hb (by rw [List.length_set, len_tailL]) (set_ne (by rw [len_tailL]; omega) hu) k hk
end Go.Proofs.YtbbcphloafmldaaGreat

/-! Gunzip, plain: members of stored bytes, one behind the other. No program is named here. -/
namespace Go.Proofs.YtbbcphloafmldaaGreat
open Go.RowKit
set_option linter.unusedVariables false

def stoG (h : Hd) (ls : List (List Nat)) : List Nat := (ls.map (memL h)).flatten
theorem stoG_snoc (h : Hd) (ls : List (List Nat)) (b : List Nat) : stoG h (ls ++ [b]) = stoG h ls ++ memL h b := by simp [stoG]
def OkLs (ls : List (List Nat)) : Prop := ∀ b ∈ ls, b.length ≤ 3000 ∧ ∀ x ∈ b, x < 256
theorem OkLs.big {ls : List (List Nat)} (h : OkLs ls) : ∀ b ∈ ls, b.length < 65536 ∧ ∀ x ∈ b, x < 256 := fun b hb => ⟨by have := (h b hb).1; omega, (h b hb).2⟩
theorem okLs_init {ls : List (List Nat)} {b : List Nat} (h : OkLs (ls ++ [b])) : OkLs ls ∧ b.length < 65536 ∧ ∀ x ∈ b, x < 256 :=
  ⟨fun c hc => h c (List.mem_append_left _ hc), h.big b (List.mem_append_right _ (List.mem_singleton.2 rfl))⟩
theorem putH_lt2 (h : Hd) (ok : HOk h) (may : MayH h) : ∀ x ∈ putH h, x < 256 := fun x hx => by
  have hp := putH_lt h ok may.1
  unfold putH at hx
  split at hx
  · rcases List.mem_append.1 hx with hx | hx
    · exact hp x hx
    · exact leN_lt _ _ _ hx
  · exact hp x hx
theorem memL_ne (h : Hd) (b : List Nat) : memL h b ≠ [] := fun e => by have := congrArg List.length e; rw [len_memL] at this; simp at this
theorem sto_all (h : Hd) (ok : HOk h) (may : MayH h) (ls : List (List Nat)) (b : List Nat) (hl : OkLs (ls ++ [b])) (k : Nat) : gunF (stoG h (ls ++ [b])) k = some ((ls ++ [b]).flatten, false) := by
  obtain ⟨h1, h2⟩ := okLs_init hl
  rw [stoG_snoc, stoG, mem_front h ok may (putH_lt2 h ok may) _ (memL_ne h b) ls k h1.big, mem_gunF h ok may b h2.1 h2.2]
  simp
theorem sto_short (h : Hd) (ok : HOk h) (may : MayH h) (ls : List (List Nat)) (b : List Nat) (hl : OkLs (ls ++ [b])) (k : Nat) : gunF ((stoG h (ls ++ [b])).take ((stoG h (ls ++ [b])).length - 1)) k = none := by
  obtain ⟨h1, h2⟩ := okLs_init hl
  have hm := len_memL h b
  rw [stoG_snoc, List.length_append, List.take_append, List.take_of_length_le (by omega), show (stoG h ls).length + (memL h b).length - 1 - (stoG h ls).length = (memL h b).length - 1 by omega, stoG,
    mem_front h ok may (putH_lt2 h ok may) _ (fun e => by have := congrArg List.length e; rw [List.length_take, List.length_nil] at this; omega) ls k h1.big, mem_short h ok may b h2.1 h2.2]
  rfl
theorem sto_turn (h : Hd) (ok : HOk h) (may : MayH h) (ls : List (List Nat)) (b : List Nat) (hl : OkLs (ls ++ [b])) (i : Nat) (hi : i < 8) (u : Nat) (hu : u ≠ (stoG h (ls ++ [b])).getD ((stoG h (ls ++ [b])).length - 1 - i) 0) :
    gunF ((stoG h (ls ++ [b])).set ((stoG h (ls ++ [b])).length - 1 - i) u) (ls ++ [b]).flatten.length = some ((ls ++ [b]).flatten, true) := by
  obtain ⟨h1, h2⟩ := okLs_init hl
  have hm := len_memL h b
  have e1 : (stoG h ls ++ memL h b).length - 1 - i = (stoG h ls).length + ((memL h b).length - 1 - i) := by rw [List.length_append]; omega
  rw [stoG_snoc, e1, getD_app_r] at hu
  rw [stoG_snoc, e1, set_app_r, stoG, mem_front h ok may (putH_lt2 h ok may) _ (fun e => by have := congrArg List.length e; rw [List.length_set, List.length_nil] at this; omega) ls _ h1.big,
    mem_tail h ok may b h2.1 h2.2 _ (by simp) i hi u hu]
  simp
theorem stoG_lt (h : Hd) (ok : HOk h) (may : MayH h) (ls : List (List Nat)) (hl : OkLs ls) : ∀ x ∈ stoG h ls, x < 256 := fun x hx => by
  obtain ⟨m, hm, hx⟩ := List.mem_flatten.1 hx
  obtain ⟨b, hb, rfl⟩ := List.mem_map.1 hm
  rcases List.mem_append.1 hx with hx | hx
  · exact putH_lt2 h ok may x hx
  · rcases List.mem_append.1 hx with hx | hx
    · exact stoL_lt (hl.big b hb).1 (hl.big b hb).2 x hx
    · exact tailL_lt b x hx
theorem stoG_len (h : Hd) (may : MayH h) (hsz : h.name.size ≤ 1000 ∧ h.comment.size ≤ 1000 ∧ h.extra.length ≤ 1000) : ∀ (ls : List (List Nat)), OkLs ls → (stoG h ls).length ≤ 7000 * ls.length ∧ ls.flatten.length ≤ 3000 * ls.length
  | [], _ => by simp [stoG]
  | b :: ls, hl => by
    have ih := stoG_len h may hsz ls (fun c hc => hl c (List.mem_cons_of_mem _ hc))
    have hb := (hl b (List.mem_cons_self ..)).1
    have h3 := pc_len h
    have h4 : (putH h).length ≤ (pc h).length + 2 := by
      unfold putH; split
      · rw [List.length_append, length_leN]; exact Nat.le_refl _
      · omega
    have e : stoG h (b :: ls) = memL h b ++ stoG h ls := by simp [stoG]
    rw [e, List.length_append, len_memL, List.flatten_cons, List.length_append, List.length_cons]
    omega
end Go.Proofs.YtbbcphloafmldaaGreat
