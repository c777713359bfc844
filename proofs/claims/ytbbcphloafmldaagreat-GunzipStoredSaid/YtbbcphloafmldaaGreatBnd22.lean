/- bytes.Equal; frame.Tail, Ends; pressworkref11.Tail: their walks. Gunzip, plain: what a file says. No program is named here. -/
import Derived.Test.YtbbcphloafmldaaGreatBnd7
import Derived.Test.YtbbcphloafmldaaGreatBnd21
import Derived.Test.YtbbcphloafmldaaGreatBnd20
import Derived.Test.YtbbcphloafmldaaGreatFrmPlainZ
/-! bytes.Equal; frame.Tail, Ends; pressworkref11.Tail: their walks. -/
namespace Go.Proofs.YtbbcphloafmldaaGreat
open Go.RowKit
set_option linter.unusedVariables false
set_option linter.unusedSimpArgs false

theorem frm_equal (u v : Value) (a b : List Nat) (w : World) (hu : ViewL w u (u8s a)) (hv : ViewL w v (u8s b)) (ha : ∀ x ∈ a, x < 256) (hb : ∀ x ∈ b, x < 256) :
    Calls Tryz.prog 48 #[u, v] w fun e w' => e = .returned (.bool (decide (a = b))) ∧ w = w' := by
  have hs1 := run_string_view (P := Tryz.prog) 22 9 5 (viewL_view8 hu) Tryz.underlying22 Tryz.underlying5 Tryz.underlying9
  have hs2 := run_string_view (P := Tryz.prog) 22 9 5 (viewL_view8 hv) Tryz.underlying22 Tryz.underlying5 Tryz.underlying9
  have HE := Lib.hid (str_eq ha hb)
  clear hu hv
  go_enter Tryz.func48, Tryz.ntmps48
  go_wp2_with fail
  go_ret
  exact ⟨by rw [← HE.out]; rfl, rfl⟩
/-- a member's tail. -/
def tailL (bs : List Nat) : List Nat := leN 4 (crcL bs) ++ leN 4 bs.length
theorem tailL_lt (bs : List Nat) : ∀ b ∈ tailL bs, b < 256 := fun b hb => by
  rcases List.mem_append.1 hb with h | h
  · exact leN_lt _ _ _ h
  · exact leN_lt _ _ _ h
theorem leN_len (n : Nat) : leN 4 (n % 4294967296) = leN 4 n := by
  simp only [leN, List.range_succ, List.range_zero, List.nil_append, List.map_append, List.map_cons, List.map_nil]
  have e : ∀ k, k < 4 → n % 4294967296 / 256 ^ k % 256 = n / 256 ^ k % 256 := by
    intro k hk
    have : k = 0 ∨ k = 1 ∨ k = 2 ∨ k = 3 := by omega
    rcases this with rfl | rfl | rfl | rfl <;> omega
  rw [e 0 (by decide), e 1 (by decide), e 2 (by decide), e 3 (by decide)]
set_option maxRecDepth 100000 in
set_option maxHeartbeats 4000000 in
theorem frm_tail (v : Value) (bs : List Nat) (w : World) (hv : ViewL w v (u8s bs)) (hb : ∀ b ∈ bs, b < 256) (hl : bs.length ≤ 2 ^ 30) : Calls Tryz.prog 21 #[v] w (CloneOf w (tailL bs)) := by
  obtain ⟨ao, cap, rfl⟩ := hv.shape
  rw [length_u8s] at *
  have k32 : IntKind.u32.wrap (bs.length : Int) = (bs.length : Int) := IntWalk.u32_in _ (by omega)
  have HLOW := Lib.hid (crc_low _ bs w hv hb (by omega))
  clear hv hb
  go_enter Tryz.func21, Tryz.ntmps21
  go_wp2_with fail
  refine HLOW.out.mono ?_
  rintro e w2 ⟨rfl, he⟩
  have HE := Lib.hid he
  clear he
  go_wp2_with fail
  refine (frm_low _ none [] (crcL bs) 4 w2 (Owns.nil _ _ _) (by simp) (crcL_lt _) (by decide)).mono ?_
  rintro e w3 ⟨v3, rfl, hre⟩
  have hc := clone_regrown (w := w) (l := []) (Owns.nil w2 5 1) (fun g e => by cases e) HE.out hre
  obtain ⟨u, og, e, k1, k2, k3⟩ := hc
  cases e
  have K3 := Lib.hid (show Ext w w3 from k3)
  have K2 := Lib.hid k2
  have K1 := Lib.hid k1
  clear k1 k2 k3 hre
  go_wp2_with fail
  refine (frm_low _ og _ bs.length 4 w3 K1.out (by simp [length_leN]) (by omega) (by decide)).mono ?_
  rintro e w4 ⟨v4, rfl, hre⟩
  have HF := Lib.hid (clone_regrown (w := w) K1.out K2.out K3.out hre)
  clear hre
  go_wp2_with fail
  go_ret
  exact HF.out
set_option maxRecDepth 100000 in
set_option maxHeartbeats 4000000 in
theorem frm_ref_tail (v : Value) (bs : List Nat) (w : World) (hv : ViewL w v (u8s bs)) (hb : ∀ b ∈ bs, b < 256) (hl : bs.length ≤ 2 ^ 30) : Calls Tryz.prog 16 #[v] w (CloneOf w (tailL bs)) := by
  obtain ⟨i0, hi, hz0, hz1, hz2⟩ := info_parts info_u8
  obtain ⟨ao, cap, rfl⟩ := hv.shape
  rw [length_u8s] at *
  have k32 : IntKind.u32.wrap (bs.length : Int) = (bs.length : Int) := IntWalk.u32_in _ (by omega)
  have HLOW := Lib.hid (crc_ref_low _ bs w hv hb (by omega))
  clear hv hb
  go_enter Tryz.func16, Tryz.ntmps16
  go_wp2_with fail
  refine HLOW.out.mono ?_
  rintro e w2 ⟨rfl, rfl⟩
  go_wp2_with fail
  refine (frm_number (crcL bs) 4 w (crcL_lt _) (by decide)).mono ?_
  rintro e w3 ⟨v3, og, rfl, k1, k2, k3⟩
  have k3 : Ext w w3 := k3
  have K3 := Lib.hid k3
  have K2 := Lib.hid k2
  have K1 := Lib.hid k1
  clear k1 k2 k3
  go_wp2_with fail
  refine (frm_number bs.length 4 w3 (by omega) (by decide)).mono ?_
  rintro e w4 ⟨v4, og4, rfl, k1, k2, k3⟩
  have k3 : Ext w3 w4 := k3
  have HO := Lib.hid (show CloneOf w (leN 4 (crcL bs)) (.returned v3) w4 from ⟨v3, og, rfl, K1.out.ext' k3, K2.out, K3.out.trans k3⟩)
  have HV4 := Lib.hid k1.viewL
  have HB := Lib.hid (show w.heap.size ≤ w4.heap.size from (K3.out.trans k3).size)
  clear k1 k2 k3 K1 K2 K3
  go_wp2_with (at_builtin; go_must (refine wpList_append_view _ rfl (.tmp 5) (.tmp 9) 22 rfl w.heap.size 5 i0 (.int .u8 0) 1 Tryz.underlying22 hi hz0 hz1 hz2 rfl v3 4 (u8s (leN 4 (crcL bs))) rfl (HO.out.own_at (by rw [length_leN])) v4 (u8s (leN 4 bs.length)) rfl HV4.out (u8s_one _) (by rw [length_u8s, length_leN]; decide) (by rw [length_u8s, length_leN]; decide) HB.out ?_))
  intro v' w5 hown' hgrow hat
  obtain ⟨u, og5, e5, k1, k2, k3⟩ := HO.out
  cases e5
  have k3 : Ext w w4 := k3
  have HF := Lib.hid (show CloneOf w (tailL bs) (.returned v') w5 from ⟨v', v'.ownBlock, rfl, ⟨by
    have := ownsRow_zero hown'
    rw [length_u8s] at this
    unfold tailL
    rw [u8s_append, List.length_append, length_leN, length_leN]
    rw [length_leN] at this
    exact this, rfl⟩, own_block_ge hown', Touch.grown k3 hgrow (fun i e => Or.inr (k2 i (by rw [← k1.2]; exact e)))⟩)
  clear hown' hgrow hat k1 k2 k3
  go_wp2_with fail
  go_ret
  exact HF.out
theorem frm_ends (v t : Value) (bs ts : List Nat) (w : World) (hv : ViewL w v (u8s bs)) (ht : ViewL w t (u8s ts)) (hb : ∀ b ∈ bs, b < 256) (htb : ∀ b ∈ ts, b < 256) (hl : bs.length ≤ 2 ^ 30) :
    Calls Tryz.prog 38 #[v, t] w fun e w' => e = .returned (.bool (decide (ts = tailL bs))) ∧ Ext w w' := by
  have HT := Lib.hid (frm_tail v bs w hv hb hl)
  have HV := Lib.hid ht
  clear hv ht
  go_enter Tryz.func38, Tryz.ntmps38
  go_wp2_with fail
  refine HT.out.mono ?_
  rintro e w2 ⟨u, og, rfl, k1, k2, k3⟩
  have k3 : Ext w w2 := k3
  have HQ := Lib.hid (frm_equal t u ts (tailL bs) w2 (HV.out.ext k3) k1.viewL htb (tailL_lt bs))
  have HX := Lib.hid k3
  clear k1 k2 k3
  go_wp2_with fail
  refine HQ.out.mono ?_
  rintro e w3 ⟨rfl, rfl⟩
  go_wp2_with fail
  go_ret
  exact ⟨rfl, HX.out⟩
end Go.Proofs.YtbbcphloafmldaaGreat

/-! Gunzip, plain: what a file says. No program is named here. -/
namespace Go.Proofs.YtbbcphloafmldaaGreat
open Go.RowKit
set_option linter.unusedVariables false

/-- a member: what it says, how many bytes it has, whether it is wrong. -/
noncomputable def memF (g : List Nat) (keep : Nat) : Option (List Nat × Nat × Bool) :=
  match getH g with
  | none => none
  | some (h, n, wr) => match inflF (ofBits false (g.drop n)) 0 [] with
    | none => none
    | some (q, full) => if g.length < n + (q + 7) / 8 + 8 then none else some (full, n + (q + 7) / 8 + 8, wr || (decide (full.length ≤ keep) && !decide ((g.drop (n + (q + 7) / 8)).take 8 = tailL full)))
theorem memF_fit {g : List Nat} {keep : Nat} {full : List Nat} {u : Nat} {wr : Bool} (h : memF g keep = some (full, u, wr)) : 0 < u ∧ u ≤ g.length := by
  unfold memF at h
  split at h
  · cases h
  · split at h
    · cases h
    · split at h
      · cases h
      · cases h; omega
/-- a file: what it says, and whether it is wrong. -/
noncomputable def gunF (g : List Nat) (keep : Nat) : Option (List Nat × Bool) :=
  match memF g keep with
  | none => none
  | some (full, u, wr) => if u = g.length then some (full, wr) else if 0 < u ∧ u < g.length then (gunF (g.drop u) (keep - full.length)).map fun r => (full ++ r.1, wr || r.2) else none
  termination_by g.length
  decreasing_by rw [List.length_drop]; omega
theorem gunF_none {g : List Nat} {keep : Nat} (h : memF g keep = none) : gunF g keep = none := by rw [gunF, h]
theorem gunF_last {g : List Nat} {keep : Nat} {full : List Nat} {u : Nat} {wr : Bool} (h : memF g keep = some (full, u, wr)) (hu : u = g.length) : gunF g keep = some (full, wr) := by rw [gunF, h]; simp only; rw [if_pos hu]
theorem gunF_more {g : List Nat} {keep : Nat} {full : List Nat} {u : Nat} {wr : Bool} (h : memF g keep = some (full, u, wr)) (hu : u ≠ g.length) : gunF g keep = (gunF (g.drop u) (keep - full.length)).map fun r => (full ++ r.1, wr || r.2) := by
  have := memF_fit h
  rw [gunF, h]; simp only; rw [if_neg hu, if_pos (by omega)]
/-- what the iterator over the members yields. -/
structure GX where
  ov : Value
  full : List Nat
  u : Nat
  wr : Bool
  e : Nat
def gkS (s : List Nat × Nat) (x : GX) : List Nat × Nat := (s.1.drop x.u, s.2 - x.full.length)
def gkF (g : List Nat) (keep : Nat) (pre : List GX) : List Nat × Nat := pre.foldl gkS (g, keep)
theorem gk_snoc (g : List Nat) (keep : Nat) (pre : List GX) (x : GX) : gkF g keep (pre ++ [x]) = ((gkF g keep pre).1.drop x.u, (gkF g keep pre).2 - x.full.length) := by simp [gkF, gkS]
def fullsG (pre : List GX) : List Nat := (pre.map (·.full)).flatten
def wrsG (pre : List GX) : Bool := pre.any (·.wr)
theorem fullsG_snoc (pre : List GX) (x : GX) : fullsG (pre ++ [x]) = fullsG pre ++ x.full := by simp [fullsG]
theorem wrsG_snoc (pre : List GX) (x : GX) : wrsG (pre ++ [x]) = (wrsG pre || x.wr) := by simp [wrsG]
/-- how the file's answer hangs on what has been read. -/
def ChG (r : Option (List Nat × Bool)) (g : List Nat) (keep : Nat) (pre : List GX) : Prop :=
  (∀ x ∈ pre, x.e = 0) ∧ ((pre ≠ [] ∧ (gkF g keep pre).1 = []) → r = some (fullsG pre, wrsG pre)) ∧ (¬ (pre ≠ [] ∧ (gkF g keep pre).1 = []) → r = (gunF (gkF g keep pre).1 (gkF g keep pre).2).map fun z => (fullsG pre ++ z.1, wrsG pre || z.2))
theorem chG_nil {r : Option (List Nat × Bool)} {g : List Nat} {keep : Nat} (h : r = gunF g keep) : ChG r g keep [] := by
  refine ⟨(fun x hx => by cases hx), (fun h => absurd rfl h.1), fun _ => ?_⟩
  rw [h]
  show gunF g keep = (gunF g keep).map _
  cases gunF g keep <;> simp [fullsG, wrsG]
/-- what is yielded is what the member says. -/
def IsGX (x : GX) (g : List Nat) (keep : Nat) : Prop := (x.e = 0 ∧ memF g keep = some (x.full, x.u, x.wr)) ∨ (x.e = 2 ∧ memF g keep = none ∧ x.full = [] ∧ x.u = 0 ∧ x.wr = false)
theorem chG_snoc {r : Option (List Nat × Bool)} {g : List Nat} {keep : Nat} {pre : List GX} {x : GX} (h : ChG r g keep pre) (hn : pre ≠ [] → (gkF g keep pre).1 ≠ []) (hx : IsGX x (gkF g keep pre).1 (gkF g keep pre).2) (he : x.e = 0) : ChG r g keep (pre ++ [x]) := by
  rcases hx with ⟨_, hm⟩ | ⟨h2, _⟩
  · have hf := memF_fit hm
    refine ⟨fun y hy => ?_, ?_⟩
    · rcases List.mem_append.1 hy with hy | hy
      · exact h.1 y hy
      · rw [List.mem_singleton] at hy; rw [hy]; exact he
    · have hr := h.2.2 (fun h => hn h.1 h.2)
      rw [gk_snoc, fullsG_snoc, wrsG_snoc]
      refine ⟨fun hc => ?_, fun hc => ?_⟩
      · have hu : x.u = (gkF g keep pre).1.length := by
          have := List.drop_eq_nil_iff.1 hc.2
          omega
        rw [hr, gunF_last hm hu]; rfl
      · have hu : x.u ≠ (gkF g keep pre).1.length := fun hu => hc ⟨by simp, by rw [hu, List.drop_length]⟩
        rw [hr, gunF_more hm hu]
        cases gunF ((gkF g keep pre).1.drop x.u) ((gkF g keep pre).2 - x.full.length) <;> simp [List.append_assoc, Bool.or_assoc]
  · omega
theorem chG_bad {r : Option (List Nat × Bool)} {g : List Nat} {keep : Nat} {pre : List GX} {x : GX} (h : ChG r g keep pre) (hn : pre ≠ [] → (gkF g keep pre).1 ≠ []) (hx : IsGX x (gkF g keep pre).1 (gkF g keep pre).2) (he : x.e ≠ 0) : r = none := by
  rcases hx with ⟨h0, _⟩ | ⟨_, hm, _⟩
  · exact absurd h0 he
  · rw [h.2.2 (fun h => hn h.1 h.2), gunF_none hm]; rfl
end Go.Proofs.YtbbcphloafmldaaGreat
