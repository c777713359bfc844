/- frame.reader.word: its walk. -/
import Derived.Test.YtmhkjcoidjpocaaFrmRd
namespace Go.Proofs.Ytmhkjcoidjpocaa
open Go.RowKit
set_option linter.unusedVariables false

theorem viewL_view8 {w : World} {v : Value} {bs : List Nat} (h : ViewL w v (u8s bs)) : View w v bs := by
  obtain ⟨ao, cap, rfl, hcap, hnil, hc⟩ := h
  rw [length_u8s] at *
  cases ao with
  | none =>
    have := hnil rfl
    subst this
    obtain rfl : bs = [] := List.eq_nil_of_length_eq_zero (by omega)
    exact Or.inl ⟨rfl, rfl⟩
  | some ad =>
    refine Or.inr ⟨ad, cap, rfl, fun j u hu => ?_⟩
    have hj : j < bs.length := by have := (List.getElem?_eq_some_iff.1 hu).1; rwa [length_u8s] at this
    obtain ⟨b, o, e, hcx⟩ := hc (by omega)
    cases e
    have e2 : (⟨b, o, none⟩ : Addr).add j = ⟨b, o + j, none⟩ := by unfold Addr.add; split <;> simp_all
    rw [e2]; exact hcx j u hu
theorem ViewL.front {w : World} {ao : Option Addr} {n cap : Nat} {xs : List Value} (h : ViewL w (.slice ao n cap) xs) (m : Nat) (hm : m ≤ n) : ViewL w (.slice ao m cap) (xs.take m) := by
  obtain ⟨ao', cap', e, h1, h2, h3⟩ := h
  cases e
  have hl : (xs.take m).length = m := by simp; omega
  refine ⟨ao, cap, by rw [hl], by omega, h2, fun h0 => ?_⟩
  obtain ⟨b, o, rfl, hc⟩ := h3 (by omega)
  refine ⟨b, o, rfl, fun j u hu => hc j u ?_⟩
  rw [List.getElem?_take] at hu
  split at hu
  · exact hu
  · cases hu
theorem fzI_nat (l : List Nat) (h : fzI l ≠ -1) : ∃ z : Nat, fzI l = z ∧ z < l.length ∧ l[z]? = some 0 ∧ 0 ∉ l.take z := by
  induction l with
  | nil => simp [fzI] at h
  | cons b l ih =>
    rw [fzI] at h ⊢
    by_cases hb : b = 0
    · subst hb; exact ⟨0, by simp, by simp, rfl, by simp⟩
    · rw [if_neg hb] at h ⊢
      by_cases h2 : fzI l = -1
      · rw [if_pos h2] at h; exact (h rfl).elim
      · rw [if_neg h2] at h ⊢
        obtain ⟨z, h3, h4, h5, h6⟩ := ih h2
        refine ⟨z + 1, by rw [h3]; simp, by simp; omega, by simpa using h5, ?_⟩
        rw [List.take_succ_cons, List.mem_cons]
        rintro (e | e)
        · exact hb e.symm
        · exact h6 e
theorem FR.up2 {w0 w w1 : World} {B at_ : Nat} {bv ev : Value} {h : Hd} {wr : Bool} (r : FR w0 B bv at_ h ev wr w) (t : Ext w w1) : FRP w0 B bv at_ h ev wr w w1 := (FRP.refl r).up t
set_option maxHeartbeats 4000000 in
theorem frd_word (w0 : World) (B : Nat) (bo : Option Addr) (bcap : Nat) (bs : List Nat) (p : Nat) (h : Hd) (ev : Value) (wr : Bool) (w : World) (hr : FR w0 B (.slice bo bs.length bcap) p h ev wr w) (hv : ViewL w0 (.slice bo bs.length bcap) (u8s bs)) (hl : bs.length ≤ 2 ^ 40) (hb : ∀ b ∈ bs, b < 256) (hp : p ≤ bs.length) :
    Calls Try.prog 43 #[.pointer (some ⟨B, 0, none⟩)] w fun e w' =>
      (fzI (bs.drop p) = -1 → e = .panicked [formF] ∧ FRP w0 B (.slice bo bs.length bcap) p h ev wr w w') ∧
      (∀ z : Nat, fzI (bs.drop p) = z → e = .returned (.string (strOf ((bs.drop p).take z))) ∧ FRP w0 B (.slice bo bs.length bcap) (p + (z + 1)) h ev wr w w') := by
  have hcap : bs.length ≤ bcap := by obtain ⟨ao', cap', e, h1, _⟩ := hv; rw [length_u8s] at e h1; cases e; exact h1
  have c0 : w.cell? ⟨B, 0, none⟩ = some (.slice bo bs.length bcap) := hr.cell 0
  have c1 : w.cell? ⟨B, 1, none⟩ = some (.int .i64 p) := hr.cell 1
  have hpc : ((u8s bs).drop p).take (bs.length - p) = u8s (bs.drop p) := by rw [List.take_of_length_le (by simp [length_u8s])]; simp [u8s, List.map_drop]
  have hbd : ∀ b ∈ bs.drop p, b < 256 := fun b h => hb b (List.mem_of_mem_drop h)
  have hpl : (p : Int) ≤ (bs.length : Int) := by omega
  have hml : bs.length - p + p = bs.length := by omega
  have hE := hr.ext
  have HR := Lib.hid hr
  have HV := Lib.hid hv
  -- the piece, either way
  obtain ⟨pv, hpv, hsl⟩ : ∃ pv, ViewL w0 pv (u8s (bs.drop p)) ∧ pv = (if bcap = p then .slice bo 0 0 else .slice (bo.map fun x => x.add p) (bs.length - p) (bcap - p)) := by
    refine ⟨_, ?_, rfl⟩
    have hv2 : ViewL w0 (.slice bo (u8s bs).length bcap) (u8s bs) := by rw [length_u8s]; exact hv
    split
    · rename_i e
      have := hv2.piece_end (bs.length - p) (by rw [length_u8s]; omega)
      rw [← hpc, this.1]; simpa using this.2
    · rename_i e
      have := hv2.piece p (bs.length - p) (by rw [length_u8s]; omega) e
      rw [hpc] at this; exact this
  have HI := Lib.hid (show ∀ k, Calls Try.prog 45 #[pv, .int .u8 0] (w.drewN k) fun e w' => e = .returned (.int .i64 (fzI (bs.drop p))) ∧ ∃ j, w' = w.drewN j from fun k => by
    refine (frm_indexByteB pv (bs.drop p) _ (hpv.ext (hE.trans ((Ext.refl w).drewN k))) hbd).mono ?_
    rintro e w' ⟨rfl, rfl⟩
    exact ⟨rfl, k, rfl⟩)
  clear hv hr hpc hbd hE hb
  by_cases hz : fzI (bs.drop p) = -1
  · rw [hz] at HI
    have HZ := Lib.hid hz
    clear hz
    by_cases hci : bcap = p
    · rw [if_pos hci] at hsl
      subst hsl
      have hbl : bs.length = p := by omega
      have hml0 : bs.length - p = 0 := by omega
      have k3 : IntKind.i64.wrap (p : Int) = (p : Int) := IntWalk.i64_in _ (by omega)
      clear hpv
      subst hci
      go_enter Try.func43, Try.ntmps43
      go_wp2_with fail
      go_quiet (exact HI.out _)
      go_wp2_with fail
      exact ⟨rfl, fun _ => ⟨rfl, HR.out.up2 ((Ext.refl w).drewN _)⟩, fun z hz2 => by rw [HZ.out] at hz2; omega⟩
    · rw [if_neg hci] at hsl
      subst hsl
      clear hpv
      go_enter Try.func43, Try.ntmps43
      go_wp2_with fail
      go_quiet (exact HI.out _)
      go_wp2_with fail
      exact ⟨rfl, fun _ => ⟨rfl, HR.out.up2 ((Ext.refl w).drewN _)⟩, fun z hz2 => by rw [HZ.out] at hz2; omega⟩
  · obtain ⟨z, hz1, hz2, _, _⟩ := fzI_nat _ hz
    rw [List.length_drop] at hz2
    have hci : ¬ bcap = p := by omega
    rw [if_neg hci] at hsl
    subst hsl
    rw [hz1] at HI
    have HZ := Lib.hid hz1
    clear hpv hz hz1
    have hzn : ¬ ((z : Int) < 0) := by omega
    have k4 : IntKind.i64.wrap ((z : Int) + 1) = ((z + 1 : Nat) : Int) := by rw [IntWalk.i64_in _ (by omega)]; simp
    have hzz : z ≤ z + 1 := by omega
    go_enter Try.func43, Try.ntmps43
    go_wp2_with fail
    go_quiet (exact HI.out _)
    go_wp2_with fail
    refine (frd_take_ok w0 B bo bcap bs p (z + 1) h ev wr _ (HR.out.up ((Ext.refl w).drewN _)) HV.out hl (by omega)).mono ?_
    rintro e w2 ⟨v, rfl, hv2, hf⟩
    obtain ⟨ao, cap2, rfl⟩ := hv2.shape
    have hl2 : (u8s ((bs.drop p).take (z + 1))).length = z + 1 := by rw [length_u8s, List.length_take, List.length_drop]; omega
    rw [hl2] at hv2 ⊢
    have hcp2 : z + 1 ≤ cap2 := by obtain ⟨ao', cap', e, h1, _⟩ := hv2; rw [hl2] at e h1; cases e; exact h1
    have hfr := hv2.front z (by omega)
    have e1 : (u8s ((bs.drop p).take (z + 1))).take z = u8s ((bs.drop p).take z) := by simp [u8s, ← List.map_take, List.take_take]
    rw [e1] at hfr
    have hs := run_string_view (P := Try.prog) 23 9 5 (viewL_view8 (hfr.ext hf.1.ext)) Try.underlying23 Try.underlying5 Try.underlying9
    have HF := Lib.hid (show FRP w0 B (.slice bo bs.length bcap) (p + (z + 1)) h ev wr w w2 from ⟨hf.1, Touch.drewN_l hf.2⟩)
    clear hv2 hf e1 hfr hl2
    go_wp2_with fail
    go_ret
    refine ⟨fun hz3 => by rw [HZ.out] at hz3; omega, fun z2 hz3 => ?_⟩
    rw [HZ.out] at hz3
    obtain rfl : z = z2 := by omega
    exact ⟨rfl, HF.out⟩
end Go.Proofs.Ytmhkjcoidjpocaa
