/- inflate.Inflate: its walk. frame.reader.word: its walk. bytes.Clone: its walk. frame.reader.extra, sum: their walks. -/
import Derived.BigQuiet
import Derived.Deep.LoopGhost
import Derived.Deep.RegionHeld3
import Derived.Test.YtbbcphloafmldaaGreatBnd19
import Derived.Laws.EntriesVeiled
import Derived.Test.YtbbcphloafmldaaGreatBnd11
import Derived.Test.YtbbcphloafmldaaGreatBnd3
/-! inflate.Inflate: its walk. -/
namespace Go.Proofs.YtbbcphloafmldaaGreat
open Go.RowKit
set_option linter.unusedVariables false

theorem symF_fit {L1 L2 : List Nat} {bits : List Bool} : ∀ (k p : Nat) (out : List Nat) {q : Nat} {o : List Nat}, bits.length - p ≤ k → symF L1 L2 bits p out = some (q, o) → p ≤ bits.length → p ≤ q ∧ q ≤ bits.length ∧ o.length + 258 * p ≤ out.length + 258 * q := by
  intro k
  induction k with
  | zero =>
    intro p out q o hk h hp
    cases hs : symS L1 L2 bits p out with
    | bad => rw [symF_bad hs] at h; cases h
    | stop q1 =>
      rw [symF_stop hs] at h; cases h
      unfold symS at hs
      split at hs
      · cases hs
      · rename_i c q0 hd
        have := decS_lt hd
        omega
    | go q1 o1 => have := symS_go hs; omega
  | succ k ih =>
    intro p out q o hk h hp
    cases hs : symS L1 L2 bits p out with
    | bad => rw [symF_bad hs] at h; cases h
    | stop q1 =>
      rw [symF_stop hs] at h; cases h
      unfold symS at hs
      split at hs
      · cases hs
      · rename_i c q0 hd
        have h1 := decS_lt hd
        split at hs
        · cases hs
        · split at hs
          · cases hs; omega
          · split at hs
            · cases hs
            · split at hs
              · cases hs
              · split at hs
                · cases hs
                · split at hs
                  · cases hs
                  · split at hs
                    · cases hs
                    · split at hs <;> cases hs
    | go q1 o1 =>
      rw [symF_go hs] at h
      have h1 := symS_go hs
      have h2 := symS_len hs
      have h3 := ih q1 o1 (by omega) h (by omega)
      omega
theorem storedF_fit {bits : List Bool} {p : Nat} {out : List Nat} {q : Nat} {o : List Nat} (h : storedF bits p out = some (q, o)) (hp : p ≤ bits.length) (h8 : 8 ∣ bits.length) : p ≤ q ∧ q ≤ bits.length ∧ o.length + 258 * p ≤ out.length + 258 * q := by
  unfold storedF at h
  split at h
  · cases h
  · rename_i n q1 h1
    have k1 := rd_fit h1
    split at h
    · cases h
    · rename_i m q2 h2
      have k2 := rd_fit h2
      split at h
      · cases h
      · split at h
        · cases h
          rw [List.length_append, List.length_map, List.length_range]
          have hc : p ≤ (p + 7) / 8 * 8 := by omega
          omega
        · cases h
theorem kindF_fit {k : Nat} {bits : List Bool} {p : Nat} {out : List Nat} {q : Nat} {o : List Nat} (h : kindF k bits p out = some (q, o)) (hp : p ≤ bits.length) (h8 : 8 ∣ bits.length) : p ≤ q ∧ q ≤ bits.length ∧ o.length + 258 * p ≤ out.length + 258 * q := by
  unfold kindF at h
  split at h
  · exact storedF_fit h hp h8
  · split at h
    · exact symF_fit _ p out (Nat.le_refl _) h hp
    · split at h
      · unfold dynF at h
        split at h
        · cases h
        · rename_i a b q1 h1
          have k1 := hdrF_fit h1
          have k2 := symF_fit _ q1 out (Nat.le_refl _) h k1.2.1
          omega
      · cases h
theorem inflF_b1 {bits : List Bool} {p : Nat} {out : List Nat} (h : rd bits p 1 = none) : inflF bits p out = none := by rw [inflF, h]
theorem inflF_b2 {bits : List Bool} {p : Nat} {out : List Nat} {l p1 : Nat} (h : rd bits p 1 = some (l, p1)) (h2 : rd bits p1 2 = none) : inflF bits p out = none := by rw [inflF, h]; simp only; rw [h2]
theorem inflF_b3 {bits : List Bool} {p : Nat} {out : List Nat} {l p1 k p2 : Nat} (h : rd bits p 1 = some (l, p1)) (h2 : rd bits p1 2 = some (k, p2)) (h3 : kindF k bits p2 out = none) : inflF bits p out = none := by rw [inflF, h]; simp only; rw [h2]; simp only; rw [h3]
theorem inflF_go {bits : List Bool} {p : Nat} {out : List Nat} {l p1 k p2 q : Nat} {o : List Nat} (h : rd bits p 1 = some (l, p1)) (h2 : rd bits p1 2 = some (k, p2)) (h3 : kindF k bits p2 out = some (q, o)) (h8 : 8 ∣ bits.length) : inflF bits p out = if l ≠ 0 then some (q, o) else inflF bits q o := by
  have k1 := rd_fit h
  have k2 := rd_fit h2
  have k3 := kindF_fit h3 k2.2.2 h8
  rw [inflF, h]; simp only; rw [h2]; simp only; rw [h3]; simp only
  split
  · rfl
  · rw [if_pos (by omega)]
/-- a stream's fate, at any kind of block. -/
theorem kind_at (k : Nat) (hk : k < 4) {w0 w : World} {B R : Nat} {og : Option Nat} {bs : List Nat} {p : Nat} {oo : Option Nat} {full : List Nat} {kp : Nat} (h : IPost w0 B R og bs p oo full kp w) (hB : bs.length ≤ 2 ^ 30 ∧ ∀ b ∈ bs, b < 256) (hp : p ≤ 8 * bs.length) (hf : full.length ≤ 258 * p) :
    Calls Tryz.prog (if k = 0 then 56 else if k = 1 then 57 else if k = 2 then 58 else 59) #[.pointer (some ⟨B, 0, none⟩)] w (InfE w0 B R og bs oo kp (kindF k (ofBits false bs) p full)) := by
  obtain ⟨o1, k1, k2, k3⟩ := h
  have lift : ∀ {r : Option (Nat × List Nat)} {e : Ending} {w' : World}, InfE w B R og bs o1 kp r e w' → InfE w0 B R og bs oo kp r e w' := by
    rintro r e w' (⟨q, o, h1, h2, h3⟩ | ⟨h1, h2, h3⟩)
    · exact Or.inl ⟨q, o, h1, h2, h3.go k2 k3⟩
    · exact Or.inr ⟨h1, h2, near_touch k2 k3 h3⟩
  have hf44 : full.length ≤ 2 ^ 44 := by have := hB.1; omega
  rcases (by omega : k = 0 ∨ k = 1 ∨ k = 2 ∨ k = 3) with rfl | rfl | rfl | rfl
  · exact (inf_stored B R og bs p o1 full kp w k1 hB.1 hB.2 hp hf44).mono fun e w' h => lift h
  · exact (inf_fixed B R og bs p o1 full kp w k1 hB.1 hB.2 hp hf).mono fun e w' h => lift h
  · exact (inf_dynamic B R og bs p o1 full kp w k1 hB.1 hB.2 hp hf).mono fun e w' h => lift h
  · exact (inf_none _ w).mono fun e w' ⟨h1, h2⟩ => Or.inr ⟨rfl, h1, by rw [h2]; exact k3⟩
end Go.Proofs.YtbbcphloafmldaaGreat

/-! frame.reader.word: its walk. -/
namespace Go.Proofs.YtbbcphloafmldaaGreat
open Go.RowKit
set_option linter.unusedVariables false

theorem viewL_view8 {w : World} {v : Value} {bs : List Nat} (h : ViewL w v (u8s bs)) : View w v bs := by
  obtain ⟨ao, cap, rfl, hcap, hnil, hc⟩ := h
  rw [length_u8s] at *
  cases ao with
  | none =>
    have := hnil rfl
    subst this
    obtain rfl : bs = [] := List.eq_nil_of_length_eq_zero (by omega)
    exact Or.inl ⟨rfl, rfl⟩
  | some ad =>
    refine Or.inr ⟨ad, cap, rfl, fun j u hu => ?_⟩
    have hj : j < bs.length := by have := (List.getElem?_eq_some_iff.1 hu).1; rwa [length_u8s] at this
    obtain ⟨b, o, e, hcx⟩ := hc (by omega)
    cases e
    have e2 : (⟨b, o, none⟩ : Addr).add j = ⟨b, o + j, none⟩ := by unfold Addr.add; split <;> simp_all
    rw [e2]; exact hcx j u hu
theorem ViewL.front {w : World} {ao : Option Addr} {n cap : Nat} {xs : List Value} (h : ViewL w (.slice ao n cap) xs) (m : Nat) (hm : m ≤ n) : ViewL w (.slice ao m cap) (xs.take m) := by
  obtain ⟨ao', cap', e, h1, h2, h3⟩ := h
  cases e
  have hl : (xs.take m).length = m := by simp; omega
  refine ⟨ao, cap, by rw [hl], by omega, h2, fun h0 => ?_⟩
  obtain ⟨b, o, rfl, hc⟩ := h3 (by omega)
  refine ⟨b, o, rfl, fun j u hu => hc j u ?_⟩
  rw [List.getElem?_take] at hu
  split at hu
  · exact hu
  · cases hu
theorem fzI_nat (l : List Nat) (h : fzI l ≠ -1) : ∃ z : Nat, fzI l = z ∧ z < l.length ∧ l[z]? = some 0 ∧ 0 ∉ l.take z := by
  induction l with
  | nil => simp [fzI] at h
  | cons b l ih =>
    rw [fzI] at h ⊢
    by_cases hb : b = 0
    · subst hb; exact ⟨0, by simp, by simp, rfl, by simp⟩
    · rw [if_neg hb] at h ⊢
      by_cases h2 : fzI l = -1
      · rw [if_pos h2] at h; exact (h rfl).elim
      · rw [if_neg h2] at h ⊢
        obtain ⟨z, h3, h4, h5, h6⟩ := ih h2
        refine ⟨z + 1, by rw [h3]; simp, by simp; omega, by simpa using h5, ?_⟩
        rw [List.take_succ_cons, List.mem_cons]
        rintro (e | e)
        · exact hb e.symm
        · exact h6 e
theorem FR.up2 {w0 w w1 : World} {B at_ : Nat} {bv ev : Value} {h : Hd} {wr : Bool} (r : FR w0 B bv at_ h ev wr w) (t : Ext w w1) : FRP w0 B bv at_ h ev wr w w1 := (FRP.refl r).up t
set_option maxRecDepth 100000 in
set_option maxHeartbeats 4000000 in
theorem frd_word (w0 : World) (B : Nat) (bo : Option Addr) (bcap : Nat) (bs : List Nat) (p : Nat) (h : Hd) (ev : Value) (wr : Bool) (w : World) (hr : FR w0 B (.slice bo bs.length bcap) p h ev wr w) (hv : ViewL w0 (.slice bo bs.length bcap) (u8s bs)) (hl : bs.length ≤ 2 ^ 40) (hb : ∀ b ∈ bs, b < 256) (hp : p ≤ bs.length) :
    Calls Tryz.prog 78 #[.pointer (some ⟨B, 0, none⟩)] w fun e w' =>
      (fzI (bs.drop p) = -1 → e = .panicked [formF] ∧ FRP w0 B (.slice bo bs.length bcap) p h ev wr w w') ∧
      (∀ z : Nat, fzI (bs.drop p) = z → e = .returned (.string (strOf ((bs.drop p).take z))) ∧ FRP w0 B (.slice bo bs.length bcap) (p + (z + 1)) h ev wr w w') := by
  have hcap : bs.length ≤ bcap := by obtain ⟨ao', cap', e, h1, _⟩ := hv; rw [length_u8s] at e h1; cases e; exact h1
  have c0 : w.cell? ⟨B, 0, none⟩ = some (.slice bo bs.length bcap) := hr.cell 0
  have c1 : w.cell? ⟨B, 1, none⟩ = some (.int .i64 p) := hr.cell 1
  have hpc : ((u8s bs).drop p).take (bs.length - p) = u8s (bs.drop p) := by rw [List.take_of_length_le (by simp [length_u8s])]; simp [u8s, List.map_drop]
  have hbd : ∀ b ∈ bs.drop p, b < 256 := fun b h => hb b (List.mem_of_mem_drop h)
  have hpl : (p : Int) ≤ (bs.length : Int) := by omega
  have hml : bs.length - p + p = bs.length := by omega
  have hE := hr.ext
  have HR := Lib.hid hr
  have HV := Lib.hid hv
  -- the piece, either way
  obtain ⟨pv, hpv, hsl⟩ : ∃ pv, ViewL w0 pv (u8s (bs.drop p)) ∧ pv = (if bcap = p then .slice bo 0 0 else .slice (bo.map fun x => x.add p) (bs.length - p) (bcap - p)) := by
    refine ⟨_, ?_, rfl⟩
    have hv2 : ViewL w0 (.slice bo (u8s bs).length bcap) (u8s bs) := by rw [length_u8s]; exact hv
    split
    · rename_i e
      have := hv2.piece_end (bs.length - p) (by rw [length_u8s]; omega)
      rw [← hpc, this.1]; simpa using this.2
    · rename_i e
      have := hv2.piece p (bs.length - p) (by rw [length_u8s]; omega) e
      rw [hpc] at this; exact this
  have HI := Lib.hid (show ∀ k, Calls Tryz.prog 100 #[pv, .int .u8 0] (w.drewN k) fun e w' => e = .returned (.int .i64 (fzI (bs.drop p))) ∧ ∃ j, w' = w.drewN j from fun k => by
    refine (frm_indexByteB pv (bs.drop p) _ (hpv.ext (hE.trans ((Ext.refl w).drewN k))) hbd).mono ?_
    rintro e w' ⟨rfl, rfl⟩
    exact ⟨rfl, k, rfl⟩)
  clear hv hr hpc hbd hE hb
  by_cases hz : fzI (bs.drop p) = -1
  · rw [hz] at HI
    have HZ := Lib.hid hz
    clear hz
    by_cases hci : bcap = p
    · rw [if_pos hci] at hsl
      subst hsl
      have hbl : bs.length = p := by omega
      have hml0 : bs.length - p = 0 := by omega
      have k3 : IntKind.i64.wrap (p : Int) = (p : Int) := IntWalk.i64_in _ (by omega)
      clear hpv
      subst hci
      go_enter Tryz.func78, Tryz.ntmps78
      go_wp2_with fail
      go_quiet (exact HI.out _)
      go_wp2_with fail
      exact ⟨rfl, fun _ => ⟨rfl, HR.out.up2 ((Ext.refl w).drewN _)⟩, fun z hz2 => by rw [HZ.out] at hz2; omega⟩
    · rw [if_neg hci] at hsl
      subst hsl
      clear hpv
      go_enter Tryz.func78, Tryz.ntmps78
      go_wp2_with fail
      go_quiet (exact HI.out _)
      go_wp2_with fail
      exact ⟨rfl, fun _ => ⟨rfl, HR.out.up2 ((Ext.refl w).drewN _)⟩, fun z hz2 => by rw [HZ.out] at hz2; omega⟩
  · obtain ⟨z, hz1, hz2, _, _⟩ := fzI_nat _ hz
    rw [List.length_drop] at hz2
    have hci : ¬ bcap = p := by omega
    rw [if_neg hci] at hsl
    subst hsl
    rw [hz1] at HI
    have HZ := Lib.hid hz1
    clear hpv hz hz1
    have hzn : ¬ ((z : Int) < 0) := by omega
    have k4 : IntKind.i64.wrap ((z : Int) + 1) = ((z + 1 : Nat) : Int) := by rw [IntWalk.i64_in _ (by omega)]; simp
    have hzz : z ≤ z + 1 := by omega
    go_enter Tryz.func78, Tryz.ntmps78
    go_wp2_with fail
    go_quiet (exact HI.out _)
    go_wp2_with fail
    refine (frd_take_ok w0 B bo bcap bs p (z + 1) h ev wr _ (HR.out.up ((Ext.refl w).drewN _)) HV.out hl (by omega)).mono ?_
    rintro e w2 ⟨v, rfl, hv2, hf⟩
    obtain ⟨ao, cap2, rfl⟩ := hv2.shape
    have hl2 : (u8s ((bs.drop p).take (z + 1))).length = z + 1 := by rw [length_u8s, List.length_take, List.length_drop]; omega
    rw [hl2] at hv2 ⊢
    have hcp2 : z + 1 ≤ cap2 := by obtain ⟨ao', cap', e, h1, _⟩ := hv2; rw [hl2] at e h1; cases e; exact h1
    have hfr := hv2.front z (by omega)
    have e1 : (u8s ((bs.drop p).take (z + 1))).take z = u8s ((bs.drop p).take z) := by simp [u8s, ← List.map_take, List.take_take]
    rw [e1] at hfr
    have hs := run_string_view (P := Tryz.prog) 22 9 5 (viewL_view8 (hfr.ext hf.1.ext)) Tryz.underlying22 Tryz.underlying5 Tryz.underlying9
    have HF := Lib.hid (show FRP w0 B (.slice bo bs.length bcap) (p + (z + 1)) h ev wr w w2 from ⟨hf.1, Touch.drewN_l hf.2⟩)
    clear hv2 hf e1 hfr hl2
    go_wp2_with fail
    go_ret
    refine ⟨fun hz3 => by rw [HZ.out] at hz3; omega, fun z2 hz3 => ?_⟩
    rw [HZ.out] at hz3
    obtain rfl : z = z2 := by omega
    exact ⟨rfl, HF.out⟩
end Go.Proofs.YtbbcphloafmldaaGreat

/-! bytes.Clone: its walk. -/
namespace Go.Proofs.YtbbcphloafmldaaGreat
open Go.RowKit

set_option maxHeartbeats 400000 in
theorem bclone_some (a : Addr) (cap n : Nat) (bs : List Nat) (w : World) (hn : bs.length = n) (hl : n ≤ 2 ^ 46) (hc : ∀ j u, (u8s bs)[j]? = some u → w.cell? (a.add j) = some u) :
    Calls Tryz.prog 77 #[.slice (some a) n cap] w (CloneOf w bs) := by
  obtain ⟨i0, hi, hz0, hz1, hz2⟩ := info_parts info_u8
  have HC := Lib.hid hc; clear hc
  have HN := Lib.hid hn; clear hn
  have he := run_eql_slice_nil_any (P := Tryz.prog) w 22 5 (some a) n cap Tryz.underlying22
  go_enter Tryz.func77, Tryz.ntmps77
  go_wp2_with (at_builtin; go_must (refine wpList_append_own_at _ rfl (.tmp 5) (.tmp 6) 22 rfl w.heap.size 5 i0 (.int .u8 0) 1 1 Tryz.underlying22 hi hz0 hz1 hz2 rfl (by decide) (.slice (some ⟨w.heap.size, 0, none⟩) 0 0) 0 [] rfl (World.ownsRow_made w #[] 0 (Nat.le_refl _) (by decide) rfl) a n cap (u8s bs) rfl (by simp [u8s, HN.out]) (fun j u hu => cell_alloc _ (HC.out j u hu)) (u8s_one bs) (by unfold maxLen; omega) (by omega) (by simp) ?_))
  intro v' w1 hown' hgrow _ hat
  have ho : Owns w1 5 1 v' v'.ownBlock bs.length (u8s bs) := ⟨by rw [HN.out]; simpa using ownsRow_zero hown', rfl⟩
  have hg : ∀ g, v'.ownBlock = some g → w.heap.size ≤ g := fun g h => (hown'.lt g h).1
  have ht : Touch (fun _ => False) w w1 := ((Touch.refl _ w).alloc _).grown hgrow (fun k h => Or.inr (by cases h; exact Nat.le_refl _))
  clear hown' hgrow hat he HC HN hi hz0 hz1 hz2
  go_wp2_with fail
  go_ret
  exact ⟨v', _, rfl, ho, hg, ht⟩
theorem bclone_nil (w : World) : Calls Tryz.prog 77 #[.slice none 0 0] w (CloneOf w []) := by
  have he := run_eql_slice_nil_any (P := Tryz.prog) w 22 5 none 0 0 Tryz.underlying22
  go_enter Tryz.func77, Tryz.ntmps77
  go_wp2_with fail
  go_ret
  exact ⟨_, none, rfl, Owns.nil _ _ _, fun _ h => (by cases h), Touch.refl _ _⟩
/-- bytes are cloned. -/
theorem bclone (v : Value) (bs : List Nat) (w : World) (hv : View w v bs) (hl : bs.length ≤ 2 ^ 46) : Calls Tryz.prog 77 #[v] w (CloneOf w bs) := by
  rcases hv with ⟨rfl, rfl⟩ | ⟨a, cap, rfl, hc⟩
  · exact bclone_nil w
  · exact bclone_some a cap bs.length bs w rfl hl hc
end Go.Proofs.YtbbcphloafmldaaGreat

/-! frame.reader.extra, sum: their walks. -/
namespace Go.Proofs.YtbbcphloafmldaaGreat
open Go.RowKit
set_option linter.unusedVariables false
set_option linter.unusedSimpArgs false

theorem or_has : ∀ x : Fin 8, ∀ b : Fin 3, x.val / 2 ^ b.val % 2 = 0 → bits .or .u8 ((x.val : Nat) : Int) ((2 ^ b.val : Nat) : Int) = ((x.val + 2 ^ b.val : Nat) : Int) := by decide +kernel
theorem FRP.touch {w0 w w1 : World} {B at_ : Nat} {bv ev : Value} {h : Hd} {wr : Bool} (r : FRP w0 B bv at_ h ev wr w w1) : Touch (fun k => k = B) w w1 := r.2
/-- what 'extra' reads. -/
def exL (bs : List Nat) (p : Nat) : Nat := valL ((bs.drop p).take 2)
def exB (bs : List Nat) (p : Nat) : List Nat := (bs.drop (p + 2)).take (exL bs p)
theorem exL_lt (bs : List Nat) (p : Nat) (hb : ∀ b ∈ bs, b < 256) : exL bs p < 65536 := by
  have := valL_lt ((bs.drop p).take 2) (fun x hx => hb x (List.mem_of_mem_drop (List.mem_of_mem_take hx)))
  have h2 : ((bs.drop p).take 2).length ≤ 2 := by simp; omega
  unfold exL
  have : 256 ^ ((bs.drop p).take 2).length ≤ 256 ^ 2 := Nat.pow_le_pow_right (by decide) h2
  omega
set_option maxRecDepth 100000 in
set_option maxHeartbeats 4000000 in
theorem frd_extra (w0 : World) (B : Nat) (bo : Option Addr) (bcap : Nat) (bs : List Nat) (p : Nat) (h : Hd) (ev : Value) (wr : Bool) (w : World) (hr : FR w0 B (.slice bo bs.length bcap) p h ev wr w) (hv : ViewL w0 (.slice bo bs.length bcap) (u8s bs)) (hl : bs.length ≤ 2 ^ 40) (hb : ∀ b ∈ bs, b < 256) (hp : p ≤ bs.length) (hh : h.has < 8 ∧ h.has % 2 = 0) :
    Calls Tryz.prog 50 #[.pointer (some ⟨B, 0, none⟩)] w fun e w' =>
      if p + 2 + exL bs p ≤ bs.length then ∃ ev', e = .returned (.tuple #[]) ∧ FRP w0 B (.slice bo bs.length bcap) (p + 2 + exL bs p) { h with has := h.has + 1, extra := exB bs p } ev' wr w w'
      else e = .panicked [formF] ∧ Touch (fun k => k = B) w w' := by
  have c9 : w.cell? ⟨B, 9, none⟩ = some (.int .u8 h.has) := hr.cell 9
  have f9 := hr.free 9
  obtain ⟨m, hm⟩ : ∃ m, m = h.has + 1 := ⟨_, rfl⟩
  rw [← hm]
  have hor : bits .or .u8 (h.has : Int) 1 = (m : Int) := by rw [hm]; exact or_has ⟨h.has, hh.1⟩ 0 (by simpa using hh.2)
  have hlt := exL_lt bs p hb
  have HH := Lib.hid (hr.set (at2 := p) (h2 := { h with has := m }) (ev2 := ev) (wr2 := wr) 9 (.int .u8 (m : Int)) rfl hr.own)
  have HV := Lib.hid hv
  have hE := hr.ext
  clear hv hr hm
  by_cases h2 : p + 2 ≤ bs.length
  · have hval : ∀ v wx, ViewL wx v (u8s ((bs.drop p).take 2)) → Calls Tryz.prog 49 #[v] wx fun e w' => e = .returned (.int .u32 (exL bs p)) ∧ wx = w' := fun v wx hvx =>
      frm_value v _ wx hvx (fun x hx => hb x (List.mem_of_mem_drop (List.mem_of_mem_take hx))) (by simp; omega)
    have HVAL := Lib.hid hval
    clear hval
    have kc : IntKind.i64.wrap ((exL bs p : Nat) : Int) = (exL bs p : Nat) := IntWalk.i64_in _ (by omega)
    have hex : exB bs p = (bs.drop (p + 2)).take (exL bs p) := rfl
    have HEX := Lib.hid hex
    clear hex
    generalize exL bs p = L at *
    by_cases h3 : p + 2 + L ≤ bs.length
    · simp only [if_pos h3]
      go_enter Tryz.func50, Tryz.ntmps50
      go_wp2_with fail
      refine (frd_take_ok w0 B bo bcap bs p 2 _ ev wr _ HH.out.1 HV.out hl h2).mono ?_
      rintro e w2 ⟨v, rfl, hv2, hf⟩
      have HF := Lib.hid (HH.out.step hf)
      have HV2 := Lib.hid (hv2.ext hf.1.ext)
      clear hv2 hf HH
      go_wp2_with fail
      refine (HVAL.out v _ HV2.out).mono ?_
      rintro e w3 ⟨rfl, rfl⟩
      go_wp2_with fail
      refine (frd_take_ok w0 B bo bcap bs (p + 2) L _ ev wr _ HF.out.1 HV.out hl h3).mono ?_
      rintro e w4 ⟨v4, rfl, hv4, hf⟩
      have HF4 := Lib.hid (HF.out.step hf)
      have HV4 := Lib.hid (hv4.ext hf.1.ext)
      clear hv4 hf HF HV2 HVAL
      go_wp2_with fail
      refine (bclone v4 _ _ (viewL_view8 HV4.out) (by rw [List.length_take, List.length_drop]; omega)).mono ?_
      rintro e w5 ⟨v5, og, rfl, k1, k2, k3⟩
      have k3 : Ext w4 w5 := k3
      rw [← HEX.out] at k1
      obtain ⟨so, sc, rfl⟩ := k1.shape
      have hfr := HF4.out.up k3
      have hb6 := hfr.1.free 6
      have c6 : w5.cell? ⟨B, 6, none⟩ = some ev := hfr.1.cell 6
      have HB4 := Lib.hid (show B < w4.heap.size from block_lt HF4.out.1.box)
      have HLOW := Lib.hid (show w0.heap.size ≤ w4.heap.size from HF4.out.1.ext.size)
      have HS := Lib.hid (hfr.step (hfr.1.set (at2 := p + 2 + L) (h2 := { h with has := m, extra := exB bs p }) (ev2 := .slice so (exB bs p).length sc) (wr2 := wr) 6 (.slice so (exB bs p).length sc) rfl ⟨og, k1, fun e => by have := k2 B e; have := HB4.out; omega, fun g e => Nat.le_trans HLOW.out (k2 g e)⟩))
      clear k1 k2 k3 hfr HF4 HV4
      go_wp2_with fail
      go_end0
      exact ⟨_, rfl, HS.out⟩
    · simp only [if_neg h3]
      go_enter Tryz.func50, Tryz.ntmps50
      go_wp2_with fail
      refine (frd_take_ok w0 B bo bcap bs p 2 _ ev wr _ HH.out.1 HV.out hl h2).mono ?_
      rintro e w2 ⟨v, rfl, hv2, hf⟩
      have HF := Lib.hid (HH.out.step hf)
      have HV2 := Lib.hid (hv2.ext hf.1.ext)
      clear hv2 hf HH
      go_wp2_with fail
      refine (HVAL.out v _ HV2.out).mono ?_
      rintro e w3 ⟨rfl, rfl⟩
      go_wp2_with fail
      refine (frd_take_bad w0 B bo bcap bs (p + 2) L _ ev wr _ HF.out.1 hl h2 (by omega)).mono ?_
      rintro e w4 ⟨rfl, hf⟩
      exact ⟨rfl, rfl, (HF.out.step hf).2⟩
  · have h3 : ¬ (p + 2 + exL bs p ≤ bs.length) := by omega
    simp only [if_neg h3]
    go_enter Tryz.func50, Tryz.ntmps50
    go_wp2_with fail
    refine (frd_take_bad w0 B bo bcap bs p 2 _ ev wr _ HH.out.1 hl hp (by omega)).mono ?_
    rintro e w2 ⟨rfl, hf⟩
    exact ⟨rfl, rfl, (HH.out.step hf).2⟩
end Go.Proofs.YtbbcphloafmldaaGreat
