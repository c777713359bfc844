/- frame.reader.word: its walk. bytes.Clone: its walk. frame.reader.extra, sum: their walks. -/
import Derived.Test.YtbbcphloafmldaaBnd12
import Derived.Test.YtbbcphloafmldaaBnd6
/-! frame.reader.word: its walk. -/
namespace Go.Proofs.Ytbbcphloafmldaa
open Go.RowKit
set_option linter.unusedVariables false

theorem viewL_view8 {w : World} {v : Value} {bs : List Nat} (h : ViewL w v (u8s bs)) : View w v bs := by
  obtain ⟨ao, cap, rfl, hcap, hnil, hc⟩ := h
  rw [length_u8s] at *
  cases ao with
  | none =>
    have := hnil rfl
    subst this
    obtain rfl : bs = [] := List.eq_nil_of_length_eq_zero (by omega)
    exact Or.inl ⟨rfl, rfl⟩
  | some ad =>
    refine Or.inr ⟨ad, cap, rfl, fun j u hu => ?_⟩
    have hj : j < bs.length := by have := (List.getElem?_eq_some_iff.1 hu).1; rwa [length_u8s] at this
    obtain ⟨b, o, e, hcx⟩ := hc (by omega)
    cases e
    have e2 : (⟨b, o, none⟩ : Addr).add j = ⟨b, o + j, none⟩ := by unfold Addr.add; split <;> simp_all
    rw [e2]; exact hcx j u hu
theorem ViewL.front {w : World} {ao : Option Addr} {n cap : Nat} {xs : List Value} (h : ViewL w (.slice ao n cap) xs) (m : Nat) (hm : m ≤ n) : ViewL w (.slice ao m cap) (xs.take m) := by
  obtain ⟨ao', cap', e, h1, h2, h3⟩ := h
  cases e
  have hl : (xs.take m).length = m := by simp; omega
  refine ⟨ao, cap, by rw [hl], by omega, h2, fun h0 => ?_⟩
  obtain ⟨b, o, rfl, hc⟩ := h3 (by omega)
  refine ⟨b, o, rfl, fun j u hu => hc j u ?_⟩
  rw [List.getElem?_take] at hu
  split at hu
  · exact hu
  · cases hu
theorem fzI_nat (l : List Nat) (h : fzI l ≠ -1) : ∃ z : Nat, fzI l = z ∧ z < l.length ∧ l[z]? = some 0 ∧ 0 ∉ l.take z := by
  induction l with
  | nil => simp [fzI] at h
  | cons b l ih =>
    rw [fzI] at h ⊢
    by_cases hb : b = 0
    · subst hb; exact ⟨0, by simp, by simp, rfl, by simp⟩
    · rw [if_neg hb] at h ⊢
      by_cases h2 : fzI l = -1
      · rw [if_pos h2] at h; exact (h rfl).elim
      · rw [if_neg h2] at h ⊢
        obtain ⟨z, h3, h4, h5, h6⟩ := ih h2
        refine ⟨z + 1, by rw [h3]; simp, by simp; omega, by simpa using h5, ?_⟩
        rw [List.take_succ_cons, List.mem_cons]
        rintro (e | e)
        · exact hb e.symm
        · exact h6 e
theorem FR.up2 {w0 w w1 : World} {B at_ : Nat} {bv ev : Value} {h : Hd} {wr : Bool} (r : FR w0 B bv at_ h ev wr w) (t : Ext w w1) : FRP w0 B bv at_ h ev wr w w1 := (FRP.refl r).up t
set_option maxRecDepth 100000 in
set_option maxHeartbeats 4000000 in
theorem frd_word (w0 : World) (B : Nat) (bo : Option Addr) (bcap : Nat) (bs : List Nat) (p : Nat) (h : Hd) (ev : Value) (wr : Bool) (w : World) (hr : FR w0 B (.slice bo bs.length bcap) p h ev wr w) (hv : ViewL w0 (.slice bo bs.length bcap) (u8s bs)) (hl : bs.length ≤ 2 ^ 40) (hb : ∀ b ∈ bs, b < 256) (hp : p ≤ bs.length) :
    Calls Try.prog 34 #[.pointer (some ⟨B, 0, none⟩)] w fun e w' =>
      (fzI (bs.drop p) = -1 → e = .panicked [formF] ∧ FRP w0 B (.slice bo bs.length bcap) p h ev wr w w') ∧
      (∀ z : Nat, fzI (bs.drop p) = z → e = .returned (.string (strOf ((bs.drop p).take z))) ∧ FRP w0 B (.slice bo bs.length bcap) (p + (z + 1)) h ev wr w w') := by
  have hcap : bs.length ≤ bcap := by obtain ⟨ao', cap', e, h1, _⟩ := hv; rw [length_u8s] at e h1; cases e; exact h1
  have c0 : w.cell? ⟨B, 0, none⟩ = some (.slice bo bs.length bcap) := hr.cell 0
  have c1 : w.cell? ⟨B, 1, none⟩ = some (.int .i64 p) := hr.cell 1
  have hpc : ((u8s bs).drop p).take (bs.length - p) = u8s (bs.drop p) := by rw [List.take_of_length_le (by simp [length_u8s])]; simp [u8s, List.map_drop]
  have hbd : ∀ b ∈ bs.drop p, b < 256 := fun b h => hb b (List.mem_of_mem_drop h)
  have hpl : (p : Int) ≤ (bs.length : Int) := by omega
  have hml : bs.length - p + p = bs.length := by omega
  have hE := hr.ext
  have HR := Lib.hid hr
  have HV := Lib.hid hv
  -- the piece, either way
  obtain ⟨pv, hpv, hsl⟩ : ∃ pv, ViewL w0 pv (u8s (bs.drop p)) ∧ pv = (if bcap = p then .slice bo 0 0 else .slice (bo.map fun x => x.add p) (bs.length - p) (bcap - p)) := by
    refine ⟨_, ?_, rfl⟩
    have hv2 : ViewL w0 (.slice bo (u8s bs).length bcap) (u8s bs) := by rw [length_u8s]; exact hv
    split
    · rename_i e
      have := hv2.piece_end (bs.length - p) (by rw [length_u8s]; omega)
      rw [← hpc, this.1]; simpa using this.2
    · rename_i e
      have := hv2.piece p (bs.length - p) (by rw [length_u8s]; omega) e
      rw [hpc] at this; exact this
  have HI := Lib.hid (show ∀ k, Calls Try.prog 48 #[pv, .int .u8 0] (w.drewN k) fun e w' => e = .returned (.int .i64 (fzI (bs.drop p))) ∧ ∃ j, w' = w.drewN j from fun k => by
    refine (frm_indexByteB pv (bs.drop p) _ (hpv.ext (hE.trans ((Ext.refl w).drewN k))) hbd).mono ?_
    rintro e w' ⟨rfl, rfl⟩
    exact ⟨rfl, k, rfl⟩)
  clear hv hr hpc hbd hE hb
  by_cases hz : fzI (bs.drop p) = -1
  · rw [hz] at HI
    have HZ := Lib.hid hz
    clear hz
    by_cases hci : bcap = p
    · rw [if_pos hci] at hsl
      subst hsl
      have hbl : bs.length = p := by omega
      have hml0 : bs.length - p = 0 := by omega
      have k3 : IntKind.i64.wrap (p : Int) = (p : Int) := IntWalk.i64_in _ (by omega)
      clear hpv
      subst hci
      go_enter Try.func34, Try.ntmps34
      go_wp2_with fail
      go_quiet (exact HI.out _)
      go_wp2_with fail
      exact ⟨rfl, fun _ => ⟨rfl, HR.out.up2 ((Ext.refl w).drewN _)⟩, fun z hz2 => by rw [HZ.out] at hz2; omega⟩
    · rw [if_neg hci] at hsl
      subst hsl
      clear hpv
      go_enter Try.func34, Try.ntmps34
      go_wp2_with fail
      go_quiet (exact HI.out _)
      go_wp2_with fail
      exact ⟨rfl, fun _ => ⟨rfl, HR.out.up2 ((Ext.refl w).drewN _)⟩, fun z hz2 => by rw [HZ.out] at hz2; omega⟩
  · obtain ⟨z, hz1, hz2, _, _⟩ := fzI_nat _ hz
    rw [List.length_drop] at hz2
    have hci : ¬ bcap = p := by omega
    rw [if_neg hci] at hsl
    subst hsl
    rw [hz1] at HI
    have HZ := Lib.hid hz1
    clear hpv hz hz1
    have hzn : ¬ ((z : Int) < 0) := by omega
    have k4 : IntKind.i64.wrap ((z : Int) + 1) = ((z + 1 : Nat) : Int) := by rw [IntWalk.i64_in _ (by omega)]; simp
    have hzz : z ≤ z + 1 := by omega
    go_enter Try.func34, Try.ntmps34
    go_wp2_with fail
    go_quiet (exact HI.out _)
    go_wp2_with fail
    refine (frd_take_ok w0 B bo bcap bs p (z + 1) h ev wr _ (HR.out.up ((Ext.refl w).drewN _)) HV.out hl (by omega)).mono ?_
    rintro e w2 ⟨v, rfl, hv2, hf⟩
    obtain ⟨ao, cap2, rfl⟩ := hv2.shape
    have hl2 : (u8s ((bs.drop p).take (z + 1))).length = z + 1 := by rw [length_u8s, List.length_take, List.length_drop]; omega
    rw [hl2] at hv2 ⊢
    have hcp2 : z + 1 ≤ cap2 := by obtain ⟨ao', cap', e, h1, _⟩ := hv2; rw [hl2] at e h1; cases e; exact h1
    have hfr := hv2.front z (by omega)
    have e1 : (u8s ((bs.drop p).take (z + 1))).take z = u8s ((bs.drop p).take z) := by simp [u8s, ← List.map_take, List.take_take]
    rw [e1] at hfr
    have hs := run_string_view (P := Try.prog) 22 9 5 (viewL_view8 (hfr.ext hf.1.ext)) Try.underlying22 Try.underlying5 Try.underlying9
    have HF := Lib.hid (show FRP w0 B (.slice bo bs.length bcap) (p + (z + 1)) h ev wr w w2 from ⟨hf.1, Touch.drewN_l hf.2⟩)
    clear hv2 hf e1 hfr hl2
    go_wp2_with fail
    go_ret
    refine ⟨fun hz3 => by rw [HZ.out] at hz3; omega, fun z2 hz3 => ?_⟩
    rw [HZ.out] at hz3
    obtain rfl : z = z2 := by omega
    exact ⟨rfl, HF.out⟩
end Go.Proofs.Ytbbcphloafmldaa

/-! bytes.Clone: its walk. -/
namespace Go.Proofs.Ytbbcphloafmldaa
open Go.RowKit

set_option maxHeartbeats 400000 in
theorem bclone_some (a : Addr) (cap n : Nat) (bs : List Nat) (w : World) (hn : bs.length = n) (hl : n ≤ 2 ^ 46) (hc : ∀ j u, (u8s bs)[j]? = some u → w.cell? (a.add j) = some u) :
    Calls Try.prog 33 #[.slice (some a) n cap] w (CloneOf w bs) := by
  obtain ⟨i0, hi, hz0, hz1, hz2⟩ := info_parts info_u8
  have HC := Lib.hid hc; clear hc
  have HN := Lib.hid hn; clear hn
  have he := run_eql_slice_nil_any (P := Try.prog) w 22 5 (some a) n cap Try.underlying22
  go_enter Try.func33, Try.ntmps33
  go_wp2_with (at_builtin; go_must (refine wpList_append_own_at _ rfl (.tmp 5) (.tmp 6) 22 rfl w.heap.size 5 i0 (.int .u8 0) 1 1 Try.underlying22 hi hz0 hz1 hz2 rfl (by decide) (.slice (some ⟨w.heap.size, 0, none⟩) 0 0) 0 [] rfl (World.ownsRow_made w #[] 0 (Nat.le_refl _) (by decide) rfl) a n cap (u8s bs) rfl (by simp [u8s, HN.out]) (fun j u hu => cell_alloc _ (HC.out j u hu)) (u8s_one bs) (by unfold maxLen; omega) (by omega) (by simp) ?_))
  intro v' w1 hown' hgrow _ hat
  have ho : Owns w1 5 1 v' v'.ownBlock bs.length (u8s bs) := ⟨by rw [HN.out]; simpa using ownsRow_zero hown', rfl⟩
  have hg : ∀ g, v'.ownBlock = some g → w.heap.size ≤ g := fun g h => (hown'.lt g h).1
  have ht : Touch (fun _ => False) w w1 := ((Touch.refl _ w).alloc _).grown hgrow (fun k h => Or.inr (by cases h; exact Nat.le_refl _))
  clear hown' hgrow hat he HC HN hi hz0 hz1 hz2
  go_wp2_with fail
  go_ret
  exact ⟨v', _, rfl, ho, hg, ht⟩
theorem bclone_nil (w : World) : Calls Try.prog 33 #[.slice none 0 0] w (CloneOf w []) := by
  have he := run_eql_slice_nil_any (P := Try.prog) w 22 5 none 0 0 Try.underlying22
  go_enter Try.func33, Try.ntmps33
  go_wp2_with fail
  go_ret
  exact ⟨_, none, rfl, Owns.nil _ _ _, fun _ h => (by cases h), Touch.refl _ _⟩
/-- bytes are cloned. -/
theorem bclone (v : Value) (bs : List Nat) (w : World) (hv : View w v bs) (hl : bs.length ≤ 2 ^ 46) : Calls Try.prog 33 #[v] w (CloneOf w bs) := by
  rcases hv with ⟨rfl, rfl⟩ | ⟨a, cap, rfl, hc⟩
  · exact bclone_nil w
  · exact bclone_some a cap bs.length bs w rfl hl hc
end Go.Proofs.Ytbbcphloafmldaa

/-! frame.reader.extra, sum: their walks. -/
namespace Go.Proofs.Ytbbcphloafmldaa
open Go.RowKit
set_option linter.unusedVariables false
set_option linter.unusedSimpArgs false

theorem or_has : ∀ x : Fin 8, ∀ b : Fin 3, x.val / 2 ^ b.val % 2 = 0 → bits .or .u8 ((x.val : Nat) : Int) ((2 ^ b.val : Nat) : Int) = ((x.val + 2 ^ b.val : Nat) : Int) := by decide +kernel
theorem FRP.touch {w0 w w1 : World} {B at_ : Nat} {bv ev : Value} {h : Hd} {wr : Bool} (r : FRP w0 B bv at_ h ev wr w w1) : Touch (fun k => k = B) w w1 := r.2
/-- what 'extra' reads. -/
def exL (bs : List Nat) (p : Nat) : Nat := valL ((bs.drop p).take 2)
def exB (bs : List Nat) (p : Nat) : List Nat := (bs.drop (p + 2)).take (exL bs p)
theorem exL_lt (bs : List Nat) (p : Nat) (hb : ∀ b ∈ bs, b < 256) : exL bs p < 65536 := by
  have := valL_lt ((bs.drop p).take 2) (fun x hx => hb x (List.mem_of_mem_drop (List.mem_of_mem_take hx)))
  have h2 : ((bs.drop p).take 2).length ≤ 2 := by simp; omega
  unfold exL
  have : 256 ^ ((bs.drop p).take 2).length ≤ 256 ^ 2 := Nat.pow_le_pow_right (by decide) h2
  omega
set_option maxRecDepth 100000 in
set_option maxHeartbeats 4000000 in
theorem frd_extra (w0 : World) (B : Nat) (bo : Option Addr) (bcap : Nat) (bs : List Nat) (p : Nat) (h : Hd) (ev : Value) (wr : Bool) (w : World) (hr : FR w0 B (.slice bo bs.length bcap) p h ev wr w) (hv : ViewL w0 (.slice bo bs.length bcap) (u8s bs)) (hl : bs.length ≤ 2 ^ 40) (hb : ∀ b ∈ bs, b < 256) (hp : p ≤ bs.length) (hh : h.has < 8 ∧ h.has % 2 = 0) :
    Calls Try.prog 20 #[.pointer (some ⟨B, 0, none⟩)] w fun e w' =>
      if p + 2 + exL bs p ≤ bs.length then ∃ ev', e = .returned (.tuple #[]) ∧ FRP w0 B (.slice bo bs.length bcap) (p + 2 + exL bs p) { h with has := h.has + 1, extra := exB bs p } ev' wr w w'
      else e = .panicked [formF] ∧ Touch (fun k => k = B) w w' := by
  have c9 : w.cell? ⟨B, 9, none⟩ = some (.int .u8 h.has) := hr.cell 9
  have f9 := hr.free 9
  obtain ⟨m, hm⟩ : ∃ m, m = h.has + 1 := ⟨_, rfl⟩
  rw [← hm]
  have hor : bits .or .u8 (h.has : Int) 1 = (m : Int) := by rw [hm]; exact or_has ⟨h.has, hh.1⟩ 0 (by simpa using hh.2)
  have hlt := exL_lt bs p hb
  have HH := Lib.hid (hr.set (at2 := p) (h2 := { h with has := m }) (ev2 := ev) (wr2 := wr) 9 (.int .u8 (m : Int)) rfl hr.own)
  have HV := Lib.hid hv
  have hE := hr.ext
  clear hv hr hm
  by_cases h2 : p + 2 ≤ bs.length
  · have hval : ∀ v wx, ViewL wx v (u8s ((bs.drop p).take 2)) → Calls Try.prog 19 #[v] wx fun e w' => e = .returned (.int .u32 (exL bs p)) ∧ wx = w' := fun v wx hvx =>
      frm_value v _ wx hvx (fun x hx => hb x (List.mem_of_mem_drop (List.mem_of_mem_take hx))) (by simp; omega)
    have HVAL := Lib.hid hval
    clear hval
    have kc : IntKind.i64.wrap ((exL bs p : Nat) : Int) = (exL bs p : Nat) := IntWalk.i64_in _ (by omega)
    have hex : exB bs p = (bs.drop (p + 2)).take (exL bs p) := rfl
    have HEX := Lib.hid hex
    clear hex
    generalize exL bs p = L at *
    by_cases h3 : p + 2 + L ≤ bs.length
    · simp only [if_pos h3]
      go_enter Try.func20, Try.ntmps20
      go_wp2_with fail
      refine (frd_take_ok w0 B bo bcap bs p 2 _ ev wr _ HH.out.1 HV.out hl h2).mono ?_
      rintro e w2 ⟨v, rfl, hv2, hf⟩
      have HF := Lib.hid (HH.out.step hf)
      have HV2 := Lib.hid (hv2.ext hf.1.ext)
      clear hv2 hf HH
      go_wp2_with fail
      refine (HVAL.out v _ HV2.out).mono ?_
      rintro e w3 ⟨rfl, rfl⟩
      go_wp2_with fail
      refine (frd_take_ok w0 B bo bcap bs (p + 2) L _ ev wr _ HF.out.1 HV.out hl h3).mono ?_
      rintro e w4 ⟨v4, rfl, hv4, hf⟩
      have HF4 := Lib.hid (HF.out.step hf)
      have HV4 := Lib.hid (hv4.ext hf.1.ext)
      clear hv4 hf HF HV2 HVAL
      go_wp2_with fail
      refine (bclone v4 _ _ (viewL_view8 HV4.out) (by rw [List.length_take, List.length_drop]; omega)).mono ?_
      rintro e w5 ⟨v5, og, rfl, k1, k2, k3⟩
      have k3 : Ext w4 w5 := k3
      rw [← HEX.out] at k1
      obtain ⟨so, sc, rfl⟩ := k1.shape
      have hfr := HF4.out.up k3
      have hb6 := hfr.1.free 6
      have c6 : w5.cell? ⟨B, 6, none⟩ = some ev := hfr.1.cell 6
      have HB4 := Lib.hid (show B < w4.heap.size from block_lt HF4.out.1.box)
      have HLOW := Lib.hid (show w0.heap.size ≤ w4.heap.size from HF4.out.1.ext.size)
      have HS := Lib.hid (hfr.step (hfr.1.set (at2 := p + 2 + L) (h2 := { h with has := m, extra := exB bs p }) (ev2 := .slice so (exB bs p).length sc) (wr2 := wr) 6 (.slice so (exB bs p).length sc) rfl ⟨og, k1, fun e => by have := k2 B e; have := HB4.out; omega, fun g e => Nat.le_trans HLOW.out (k2 g e)⟩))
      clear k1 k2 k3 hfr HF4 HV4
      go_wp2_with fail
      go_end0
      exact ⟨_, rfl, HS.out⟩
    · simp only [if_neg h3]
      go_enter Try.func20, Try.ntmps20
      go_wp2_with fail
      refine (frd_take_ok w0 B bo bcap bs p 2 _ ev wr _ HH.out.1 HV.out hl h2).mono ?_
      rintro e w2 ⟨v, rfl, hv2, hf⟩
      have HF := Lib.hid (HH.out.step hf)
      have HV2 := Lib.hid (hv2.ext hf.1.ext)
      clear hv2 hf HH
      go_wp2_with fail
      refine (HVAL.out v _ HV2.out).mono ?_
      rintro e w3 ⟨rfl, rfl⟩
      go_wp2_with fail
      refine (frd_take_bad w0 B bo bcap bs (p + 2) L _ ev wr _ HF.out.1 hl h2 (by omega)).mono ?_
      rintro e w4 ⟨rfl, hf⟩
      exact ⟨rfl, rfl, (HF.out.step hf).2⟩
  · have h3 : ¬ (p + 2 + exL bs p ≤ bs.length) := by omega
    simp only [if_neg h3]
    go_enter Try.func20, Try.ntmps20
    go_wp2_with fail
    refine (frd_take_bad w0 B bo bcap bs p 2 _ ev wr _ HH.out.1 hl hp (by omega)).mono ?_
    rintro e w2 ⟨rfl, hf⟩
    exact ⟨rfl, rfl, (HH.out.step hf).2⟩
end Go.Proofs.Ytbbcphloafmldaa
