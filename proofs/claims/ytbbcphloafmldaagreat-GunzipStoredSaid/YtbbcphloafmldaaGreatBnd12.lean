/- inflate.must: its walks. What a stream that is read is in memory; its bits; a byte that is put. -/
import Derived.Test.YtbbcphloafmldaaGreatBnd7
import Derived.Test.YtbbcphloafmldaaGreatBnd11
import Derived.BigQuiet
/-! inflate.must: its walks. -/
namespace Go.Proofs.YtbbcphloafmldaaGreat
open Go.RowKit
set_option linter.unusedVariables false

set_option maxRecDepth 100000 in
theorem inf_must_u (v : Int) (w : World) : Calls Tryz.prog 88 #[.int .u32 v, .int .i64 0] w fun e w' => e = .returned (.int .u32 v) ∧ w' = w := by
  go_enter Tryz.func88, Tryz.ntmps88
  go_wp2_with fail
  go_ret
  exact ⟨rfl, rfl⟩
set_option maxRecDepth 100000 in
theorem inf_must_u_bad (v x : Int) (w : World) (hx : x ≠ 0) : Calls Tryz.prog 88 #[.int .u32 v, .int .i64 x] w fun e w' => e = .panicked [formF] ∧ w' = w := by
  have h1 : (x == 0) = false := by rw [beq_eq_false_iff_ne]; exact hx
  have h2 : (x != 0) = true := by rw [bne_iff_ne]; exact hx
  go_enter Tryz.func88, Tryz.ntmps88
  go_wp2_with fail
  exact ⟨rfl, rfl, rfl⟩
set_option maxRecDepth 100000 in
theorem inf_must_i (v : Int) (w : World) : Calls Tryz.prog 87 #[.int .i64 v, .int .i64 0] w fun e w' => e = .returned (.int .i64 v) ∧ w' = w := by
  go_enter Tryz.func87, Tryz.ntmps87
  go_wp2_with fail
  go_ret
  exact ⟨rfl, rfl⟩
set_option maxRecDepth 100000 in
theorem inf_must_i_bad (v x : Int) (w : World) (hx : x ≠ 0) : Calls Tryz.prog 87 #[.int .i64 v, .int .i64 x] w fun e w' => e = .panicked [formF] ∧ w' = w := by
  have h1 : (x == 0) = false := by rw [beq_eq_false_iff_ne]; exact hx
  have h2 : (x != 0) = true := by rw [bne_iff_ne]; exact hx
  go_enter Tryz.func87, Tryz.ntmps87
  go_wp2_with fail
  exact ⟨rfl, rfl, rfl⟩
set_option maxRecDepth 100000 in
theorem inf_must_t (a : Option Addr) (w : World) : Calls Tryz.prog 102 #[.pointer a, .int .i64 0] w fun e w' => e = .returned (.pointer a) ∧ w' = w := by
  go_enter Tryz.func102, Tryz.ntmps102
  go_wp2_with fail
  go_ret
  exact ⟨rfl, rfl⟩
set_option maxRecDepth 100000 in
theorem inf_must_t_bad (a : Option Addr) (x : Int) (w : World) (hx : x ≠ 0) : Calls Tryz.prog 102 #[.pointer a, .int .i64 x] w fun e w' => e = .panicked [formF] ∧ w' = w := by
  have h1 : (x == 0) = false := by rw [beq_eq_false_iff_ne]; exact hx
  have h2 : (x != 0) = true := by rw [bne_iff_ne]; exact hx
  go_enter Tryz.func102, Tryz.ntmps102
  go_wp2_with fail
  exact ⟨rfl, rfl, rfl⟩
end Go.Proofs.YtbbcphloafmldaaGreat

/-! What a stream that is read is in memory; its bits; a byte that is put. -/
namespace Go.Proofs.YtbbcphloafmldaaGreat
open Go.RowKit
set_option linter.unusedVariables false

/-- block B is a stream: its reader R stands at bit p of bs; it has said 'full', of which at most 'keep' bytes are kept, in block oo. -/
structure ISt (w : World) (B R : Nat) (og : Option Nat) (bs : List Nat) (p : Nat) (oo : Option Nat) (full : List Nat) (keep : Nat) : Prop where
  box : ∃ ov, w.heap[B]? = some (.cells #[.pointer (some ⟨R, 0, none⟩), ov, .int .i64 keep, .int .i64 full.length] 86 (0, 0)) ∧ Owns w 5 1 ov oo (full.take keep).length (u8s (full.take keep))
  rdr : IsR 107 w R og bs p
  dBR : B ≠ R
  dBg : og ≠ some B
  dOB : oo ≠ some B
  dOR : oo ≠ some R
  dOg : ∀ g, oo = some g → og ≠ some g
/-- what a stream's acts may turn. -/
def FPI (B R : Nat) (oo : Option Nat) : Nat → Prop := fun k => k = B ∨ k = R ∨ oo = some k
theorem Near.fpi {a b : Option Nat} {w : World} (h : Near a b w) (B R k : Nat) (hk : k < w.heap.size) : FPI B R b k → FPI B R a k := by
  rintro (h1 | h1 | h1)
  · exact Or.inl h1
  · exact Or.inr (Or.inl h1)
  · rcases h with rfl | ⟨g, rfl, hg⟩
    · exact Or.inr (Or.inr h1)
    · cases h1; omega
def IPost (w : World) (B R : Nat) (og : Option Nat) (bs : List Nat) (p' : Nat) (oo : Option Nat) (full' : List Nat) (keep : Nat) (w' : World) : Prop :=
  ∃ oo', ISt w' B R og bs p' oo' full' keep ∧ Near oo oo' w ∧ Touch (FPI B R oo) w w'
theorem IPost.refl {w : World} {B R : Nat} {og : Option Nat} {bs : List Nat} {p : Nat} {oo : Option Nat} {full : List Nat} {keep : Nat} (h : ISt w B R og bs p oo full keep) : IPost w B R og bs p oo full keep w := ⟨oo, h, Near.refl _ _, Touch.refl _ _⟩
theorem IPost.step {w w1 w2 : World} {B R : Nat} {og : Option Nat} {bs : List Nat} {p2 : Nat} {oo o1 : Option Nat} {f2 : List Nat} {keep : Nat} (hn : Near oo o1 w) (ht : Touch (FPI B R oo) w w1) (k : IPost w1 B R og bs p2 o1 f2 keep w2) : IPost w B R og bs p2 oo f2 keep w2 := by
  obtain ⟨o2, k1, k2, k3⟩ := k
  exact ⟨o2, k1, hn.trans k2 ht.size, ht.trans k3 (fun q hq h => hn.fpi B R q hq h)⟩
theorem ISt.keep {w w' : World} {B R : Nat} {og : Option Nat} {bs : List Nat} {p : Nat} {oo : Option Nat} {full : List Nat} {kp : Nat} {S : Nat → Prop} (h : ISt w B R og bs p oo full kp) (ht : Touch S w w') (hS : ∀ k, FPI B R oo k → ¬ S k) (hg : ∀ g, og = some g → ¬ S g) : ISt w' B R og bs p oo full kp := by
  obtain ⟨ov, h1, h2⟩ := h.box
  exact ⟨⟨ov, ht.keep h1 (hS _ (Or.inl rfl)), h2.keep ht (fun g e => hS _ (Or.inr (Or.inr e)))⟩, h.rdr.keep ht (hS _ (Or.inr (Or.inl rfl))) hg, h.dBR, h.dBg, h.dOB, h.dOR, h.dOg⟩
theorem ISt.ext {w w' : World} {B R : Nat} {og : Option Nat} {bs : List Nat} {p : Nat} {oo : Option Nat} {full : List Nat} {kp : Nat} (h : ISt w B R og bs p oo full kp) (hx : Ext w w') : ISt w' B R og bs p oo full kp := h.keep hx (fun _ _ f => f) (fun _ _ f => f)
/-- the reader went on. -/
theorem ISt.reader {w w' : World} {B R : Nat} {og : Option Nat} {bs : List Nat} {p q : Nat} {oo : Option Nat} {full : List Nat} {kp : Nat} (h : ISt w B R og bs p oo full kp) (hr : RPost 107 w R og bs q w') : IPost w B R og bs q oo full kp w' := by
  obtain ⟨ov, h1, h2⟩ := h.box
  exact ⟨oo, ⟨⟨ov, hr.2.keep h1 h.dBR, h2.keep hr.2 (fun g e e2 => h.dOR (by rw [e, e2]))⟩, hr.1, h.dBR, h.dBg, h.dOB, h.dOR, h.dOg⟩, Near.refl _ _, hr.2.mono (fun k _ e => Or.inr (Or.inl e))⟩
theorem ISt.cells {w : World} {B R : Nat} {og : Option Nat} {bs : List Nat} {p : Nat} {oo : Option Nat} {full : List Nat} {kp : Nat} (h : ISt w B R og bs p oo full kp) :
    w.cell? ⟨B, 0, none⟩ = some (.pointer (some ⟨R, 0, none⟩)) ∧ w.cell? ⟨B, 2, none⟩ = some (.int .i64 kp) ∧ w.cell? ⟨B, 3, none⟩ = some (.int .i64 full.length) ∧ ∀ i, w.frozen? ⟨B, i, none⟩ = false := by
  obtain ⟨ov, h1, h2⟩ := h.box
  exact ⟨by simp [World.cell?, h1], by simp [World.cell?, h1], by simp [World.cell?, h1], fun i => by simp [World.frozen?, h1]⟩
/-- what is read of a stream's bits. -/
def RdI (w : World) (B R : Nat) (og : Option Nat) (bs : List Nat) (p n : Nat) (oo : Option Nat) (full : List Nat) (kp : Nat) (e : Ending) (w' : World) : Prop :=
  (∃ x q, rd (ofBits false bs) p n = some (x, q) ∧ e = .returned (.int .i64 x) ∧ IPost w B R og bs q oo full kp w') ∨ (rd (ofBits false bs) p n = none ∧ e = .panicked [formF] ∧ Touch (FPI B R oo) w w')
theorem numOf_low_lt (l : List Bool) : numOf false l < 2 ^ l.length := numOf_lt false l
set_option maxRecDepth 100000 in
set_option maxHeartbeats 1000000 in
theorem inf_bits (B R : Nat) (og : Option Nat) (bs : List Nat) (p n : Nat) (oo : Option Nat) (full : List Nat) (kp : Nat) (w : World) (h : ISt w B R og bs p oo full kp) (hl : bs.length ≤ 2 ^ 30) (hb : ∀ b ∈ bs, b < 256) (hp : p ≤ 8 * bs.length) (hn : n ≤ 32) :
    Calls Tryz.prog 60 #[.pointer (some ⟨B, 0, none⟩), .int .i64 n] w (RdI w B R og bs p n oo full kp) := by
  have c0 := h.cells.1
  have hlen : (ofBits false bs).length = 8 * bs.length := length_ofBits _ _
  by_cases hf : p + n ≤ 8 * bs.length
  · have HG := Lib.hid (lsb_get_ok R og bs p n w h.rdr (by omega) hb hn hf)
    obtain ⟨x, hx⟩ : ∃ x, x = numOf false (bitsAt false bs p n) := ⟨_, rfl⟩
    have hxl : x < 2 ^ n := by
      have := numOf_low_lt (bitsAt false bs p n)
      rw [length_bitsAt] at this
      rw [hx]; exact this
    have hx32 : (x : Int) < 4294967296 := by
      have : 2 ^ n ≤ 2 ^ 32 := Nat.pow_le_pow_right (by decide) hn
      omega
    have wx : IntKind.i64.wrap (x : Int) = (x : Int) := IntWalk.i64_in _ (by omega)
    rw [← hx] at HG
    have HR := Lib.hid (show rd (ofBits false bs) p n = some (x, p + n) from by rw [rd_some (by rw [hlen]; exact hf), xAt_bits false bs p n hf, ← hx])
    have HH := Lib.hid h
    clear h hlen hf hx hxl hp hn
    go_enter Tryz.func60, Tryz.ntmps60
    go_wp2_with fail
    refine HG.out.mono ?_
    rintro e w' ⟨rfl, hr⟩
    have HP := Lib.hid (HH.out.reader hr)
    clear hr
    go_wp2_with fail
    refine (inf_must_u _ w').mono ?_
    rintro e w2 ⟨rfl, hw⟩
    obtain rfl := hw.symm
    go_wp2_with fail
    go_ret
    exact Or.inl ⟨x, _, HR.out, rfl, HP.out⟩
  · have HG := Lib.hid (lsb_get_far R og bs p n w h.rdr (by omega) hp hn (by omega))
    have HR := Lib.hid (show rd (ofBits false bs) p n = none from rd_none (by rw [hlen]; omega))
    clear h hlen hf hp hn
    go_enter Tryz.func60, Tryz.ntmps60
    go_wp2_with fail
    refine HG.out.mono ?_
    rintro e w' ⟨rfl, hw⟩
    have HD := Lib.hid (hw.touch (FPI B R oo))
    clear hw
    go_wp2_with fail
    refine (inf_must_u_bad _ _ w' (by decide)).mono ?_
    rintro e w2 ⟨rfl, hw⟩
    obtain rfl := hw.symm
    exact ⟨rfl, Or.inr ⟨HR.out, rfl, HD.out⟩⟩
/-- a byte was put that is kept. -/
theorem ISt.put_on {w wd w2 : World} {B R : Nat} {og : Option Nat} {bs : List Nat} {p : Nat} {oo : Option Nat} {full : List Nat} {kp c : Nat} {ov v' : Value} {o : Obj} (h : ISt w B R og bs p oo full kp) (h1 : w.heap[B]? = some (.cells #[.pointer (some ⟨R, 0, none⟩), ov, .int .i64 kp, .int .i64 full.length] 86 (0, 0))) (h2 : Owns w 5 1 ov oo full.length (u8s full)) (hk : full.length < kp) (hx : Ext w wd)
    (hown : w2.ownsRow 0 5 1 v' (full.length + 1) (u8s full ++ [.int .u8 c])) (hgrow : (wd.alloc o).grownBy w2 ov.ownBlock) (hat : v'.ownBlock = ov.ownBlock ∨ v'.ownBlock = some (wd.heap.size + 1)) :
    IPost w B R og bs p oo (full ++ [c]) kp ((w2.setCell ⟨B, 1, none⟩ v').setCell ⟨B, 3, none⟩ (.int .i64 ((full.length + 1 : Nat) : Int))) := by
  have e0 : ov.ownBlock = oo := h2.2
  rw [e0] at hgrow hat
  have hxo : Ext w (wd.alloc o) := hx.alloc o
  have t2 : Touch (fun q => oo = some q) w w2 := (hxo.mono (fun _ _ f => f.elim)).grown hgrow (fun q e => Or.inl e)
  have t3 : Touch (fun q => q = B) w2 ((w2.setCell ⟨B, 1, none⟩ v').setCell ⟨B, 3, none⟩ (.int .i64 ((full.length + 1 : Nat) : Int))) := ((Touch.refl (fun q => q = B) w2).setCell (Or.inl rfl) _).setCell (Or.inl rfl) _
  have hB : w2.heap[B]? = some (.cells #[.pointer (some ⟨R, 0, none⟩), ov, .int .i64 kp, .int .i64 full.length] 86 (0, 0)) := t2.keep h1 h.dOB
  have hBlt := block_lt h1
  have hnew : ∀ q, v'.ownBlock = some q → oo = some q ∨ w.heap.size ≤ q := fun q e => by
    rcases hat with r | r
    · exact Or.inl (by rw [← r]; exact e)
    · rw [r] at e; cases e; exact Or.inr (by have := hx.size; omega)
  have htk : (full ++ [c]).take kp = full ++ [c] := List.take_of_length_le (by rw [List.length_append, List.length_singleton]; omega)
  have hrR := h.rdr.keep t2 h.dOR (fun g e e2 => h.dOg g e2 e)
  refine ⟨v'.ownBlock, ⟨⟨v', ?_, ?_⟩, hrR.keep t3 (fun e => h.dBR e.symm) (fun g e e2 => h.dBg (by rw [e, e2])), h.dBR, h.dBg, fun e => ?_, fun e => ?_, fun g e => ?_⟩, ?_, (t2.mono (fun q _ e => Or.inr (Or.inr e))).trans t3 (fun q _ e => Or.inl e)⟩
  · have a := heap_setCell_at (a := ⟨B, 1, none⟩) (u := v') hB rfl
    have b := heap_setCell_at (a := ⟨B, 3, none⟩) (u := .int .i64 ((full.length + 1 : Nat) : Int)) a rfl
    rw [List.length_append, List.length_singleton]
    simpa using b
  · rw [htk, List.length_append, List.length_singleton, u8s_append]
    refine Owns.keep (S := fun q => q = B) (show Owns w2 5 1 v' v'.ownBlock (full.length + 1) (u8s full ++ u8s [c]) from ⟨by simpa [u8s] using hown, rfl⟩) t3 (fun q e e2 => ?_)
    subst e2
    rcases hnew q e with h3 | h3
    · exact h.dOB h3
    · omega
  · rcases hnew _ e with h3 | h3
    · exact h.dOB h3
    · omega
  · rcases hnew _ e with h3 | h3
    · exact h.dOR h3
    · have := h.rdr.lt; omega
  · rcases hnew _ e with h3 | h3
    · exact h.dOg g h3
    · intro e2; have := h.rdr.glt g e2; omega
  · rcases hat with r | r
    · exact Or.inl r
    · exact Or.inr ⟨_, r, by have := hx.size; omega⟩
/-- a byte was put that is not kept. -/
theorem ISt.put_off {w wd : World} {B R : Nat} {og : Option Nat} {bs : List Nat} {p : Nat} {oo : Option Nat} {full : List Nat} {kp c : Nat} (h : ISt w B R og bs p oo full kp) (hk : kp ≤ full.length) (hx : Ext w wd) :
    IPost w B R og bs p oo (full ++ [c]) kp (wd.setCell ⟨B, 3, none⟩ (.int .i64 ((full.length + 1 : Nat) : Int))) := by
  obtain ⟨ov, h1, h2⟩ := h.box
  have t3 : Touch (fun q => q = B) w (wd.setCell ⟨B, 3, none⟩ (.int .i64 ((full.length + 1 : Nat) : Int))) := (hx.mono (fun _ _ f => f.elim)).trans ((Touch.refl (fun q => q = B) wd).setCell (Or.inl rfl) _) (fun _ _ h => h)
  have hB := hx.keep h1 (fun f => f)
  have htk : (full ++ [c]).take kp = full.take kp := by rw [List.take_append_of_le_length hk]
  refine ⟨oo, ⟨⟨ov, ?_, ?_⟩, h.rdr.keep t3 (fun e => h.dBR e.symm) (fun g e e2 => h.dBg (by rw [e, e2])), h.dBR, h.dBg, h.dOB, h.dOR, h.dOg⟩, Near.refl _ _, t3.mono (fun q _ e => Or.inl e)⟩
  · have b := heap_setCell_at (a := ⟨B, 3, none⟩) (u := .int .i64 ((full.length + 1 : Nat) : Int)) hB rfl
    rw [List.length_append, List.length_singleton]
    simpa using b
  · rw [htk]
    exact h2.keep t3 (fun q e e2 => h.dOB (by rw [e, e2]))
set_option maxRecDepth 100000 in
set_option maxHeartbeats 2000000 in
theorem inf_put (B R : Nat) (og : Option Nat) (bs : List Nat) (p : Nat) (oo : Option Nat) (full : List Nat) (kp c y : Nat) (w : World) (h : ISt w B R og bs p oo full kp) (hf : full.length ≤ 2 ^ 45) (hy : full.length < kp → y = c) :
    Calls Tryz.prog 81 #[.pointer (some ⟨B, 0, none⟩), .int .u8 c] w fun e w' => e = .returned (.tuple #[]) ∧ IPost w B R og bs p oo (full ++ [y]) kp w' := by
  obtain ⟨i0, hi, hz0, hz1, hz2⟩ := info_parts info_u8
  obtain ⟨c0, c2, c3, hfz⟩ := h.cells
  obtain ⟨ov, h1, h2⟩ := h.box
  have HH := Lib.hid h
  have f1 := hfz 1
  have f3 := hfz 3
  obtain ⟨N, hN⟩ : ∃ N, N = full.length := ⟨_, rfl⟩
  rw [← hN] at c3 hf h1
  have HX := Lib.hid (And.intro h1 h2)
  have HN := Lib.hid hN
  have w1 : IntKind.i64.wrap ((N : Int) + 1) = ((N + 1 : Nat) : Int) := by rw [show (N : Int) + 1 = ((N + 1 : Nat) : Int) by omega]; exact IntWalk.i64_in _ (by omega)
  by_cases hk : N < kp
  · obtain rfl : y = c := hy (by omega)
    have hkz : (N : Int) < (kp : Int) := by omega
    have htk : full.take kp = full := List.take_of_length_le (by omega)
    rw [htk, ← hN] at h2
    have HX2 := Lib.hid h2
    have HK := Lib.hid hk
    have cov : w.cell? ⟨B, 1, none⟩ = some ov := by simp [World.cell?, h1]
    have hNb : N ≤ 2 ^ 45 := hf
    obtain ⟨oa, oc, rfl⟩ := h2.shape
    clear h h1 h2 hfz hN hk htk hf hy
    go_enter Tryz.func81, Tryz.ntmps81
    go_wp2_with fail
    go_quiet (fail)
    have HN45 := Lib.hid hNb
    go_wp2_with (at_builtin; go_must (refine wpList_append_own_at _ rfl (.tmp 17) (.tmp 19) 22 rfl 0 5 i0 (.int .u8 0) 1 1 Tryz.underlying22 hi hz0 hz1 hz2 rfl (by decide) _ N (u8s full) rfl (((HX2.out.ext' ((Ext.refl w).drewN _)).ext' ((Ext.refl _).alloc _)).1) ⟨w.heap.size, 0, none⟩ 1 1 [.int .u8 y] rfl rfl (cell_one_new _ _ _) (by simp [Value.oneCell']) (by have := HN45.out; unfold maxLen; omega) (by have := HN45.out; omega) (Nat.zero_le _) ?_))
    intro v' w2 hown hgrow _ hat
    obtain ⟨g', cap', rfl⟩ := ownsRow_form hown (by omega)
    have hm := (HH.out.put_on (by rw [← HN.out]; exact HX.out.1) (by rw [← HN.out]; exact HX2.out) (by rw [← HN.out]; exact HK.out) ((Ext.refl w).drewN nq) (by rw [← HN.out]; exact hown) hgrow hat)
    rw [← HN.out] at hm
    have HM := Lib.hid hm
    have hb2 : w2.heap[B]? = some (.cells #[.pointer (some ⟨R, 0, none⟩), .slice oa N oc, .int .i64 kp, .int .i64 N] 86 (0, 0)) := by
      refine Touch.keep (S := fun q => (Value.slice oa N oc).ownBlock = some q) (Touch.grown (((Ext.refl w).drewN nq).alloc _ |>.mono (fun _ _ f => f.elim)) hgrow (fun q e => Or.inl e)) HX.out.1 (fun e => ?_)
      rw [show (Value.slice oa N oc).ownBlock = oo from HX2.out.2] at e
      exact HH.out.dOB e
    have c3' : w2.cell? ⟨B, 3, none⟩ = some (.int .i64 N) := by simp [World.cell?, hb2]
    have c1' : w2.cell? ⟨B, 1, none⟩ = some (.slice oa N oc) := by simp [World.cell?, hb2]
    have c0' : w2.cell? ⟨B, 0, none⟩ = some (.pointer (some ⟨R, 0, none⟩)) := by simp [World.cell?, hb2]
    have f1' : w2.frozen? ⟨B, 1, none⟩ = false := by simp [World.frozen?, hb2]
    have f3' : w2.frozen? ⟨B, 3, none⟩ = false := by simp [World.frozen?, hb2]
    clear hm hown hgrow hat hb2 c0 c2 c3 f1 f3 cov hi hz0 hz1 hz2
    go_wp2_with fail
    go_end0
    exact ⟨rfl, HM.out⟩
  · have hkz : ¬ (N : Int) < (kp : Int) := by omega
    have hNb : N ≤ 2 ^ 45 := hf
    have HM := Lib.hid (fun wd (hx : Ext w wd) => HH.out.put_off (c := y) (by rw [← HN.out]; omega) hx)
    clear h h1 h2 hfz hN hk hf hNb hy
    go_enter Tryz.func81, Tryz.ntmps81
    go_wp2_with fail
    go_quiet (fail)
    go_wp2_with fail
    go_end0
    rw [HN.out]
    exact ⟨rfl, HM.out _ ((Ext.refl w).drewN _)⟩
end Go.Proofs.YtbbcphloafmldaaGreat
