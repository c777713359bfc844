/- A stream's symbols by two codes: their walk. -/
import Derived.Deep.LoopGhost
import Derived.Test.YtbbcphloafmldaaGreatBnd13
import Derived.Test.YtbbcphloafmldaaGreatBnd15
import Derived.Test.YtbbcphloafmldaaGreatBnd16
namespace Go.Proofs.YtbbcphloafmldaaGreat
open Go.RowKit
set_option linter.unusedVariables false

/-- lengths that are read. -/
structure Vw (w : World) (v : Value) (L : List Nat) : Prop where
  vw : View w v L
  vl : ViewL w v (u8s L)
theorem Vw.ext {w w' : World} {v : Value} {L : List Nat} (h : Vw w v L) (hx : Ext w w') : Vw w' v L := ⟨h.vw.ext hx, h.vl.ext hx⟩
theorem Vw.block {w : World} {v : Value} {L : List Nat} (h : Vw w v L) : ∀ b o n c, v = .slice (some ⟨b, o, none⟩) n c → 0 < L.length → b < w.heap.size := by
  intro b o n c e h0
  obtain ⟨ao, cap, e2, _, _, h3⟩ := h.vl
  obtain ⟨b', o', rfl, hc⟩ := h3 (by rwa [length_u8s])
  rw [e2] at e
  cases e
  have := hc 0 _ (getElem?_u8s _ _ h0)
  exact Classical.byContradiction fun hn => by simp [World.cell?, Array.getElem?_eq_none (Nat.le_of_not_lt hn)] at this
/-- a table beside a stream. -/
def TabI (w : World) (T : Nat) (L : List Nat) (B R : Nat) (og oo : Option Nat) : Prop := ∃ g1 g2 m, IsT w T g1 g2 m L ∧ ∀ k, TB T g1 g2 m k → ¬ FPI B R oo k ∧ og ≠ some k
theorem TabI.keep {w w' : World} {T : Nat} {L : List Nat} {B R : Nat} {og oo : Option Nat} (h : TabI w T L B R og oo) (ht : Touch (FPI B R oo) w w') : TabI w' T L B R og oo := by
  obtain ⟨g1, g2, m, h1, h2⟩ := h
  exact ⟨g1, g2, m, h1.keep ht (fun k hk => (h2 k hk).1), h2⟩
set_option maxRecDepth 100000 in
theorem lenOf_fit {c l b : Nat} (h : lenOf c = some (l, b)) : l + 2 ^ b ≤ 259 ∧ b ≤ 5 := by
  unfold lenOf at h
  split at h
  · cases h
  · split at h
    · cases h; decide
    · rename_i h1 h2
      have key : ∀ k, k < 28 → scL 8 4 3 k + 2 ^ scB 8 4 k ≤ 259 ∧ scB 8 4 k ≤ 5 := by decide
      have := key (c - 257) (by omega)
      cases h
      exact this
set_option maxRecDepth 100000 in
theorem distOf_fit {c l b : Nat} (h : distOf c = some (l, b)) : 1 ≤ l ∧ l + 2 ^ b ≤ 32769 ∧ b ≤ 13 := by
  unfold distOf at h
  split at h
  · cases h
  · rename_i h1
    have key : ∀ k, k < 30 → 1 ≤ scL 4 2 1 k ∧ scL 4 2 1 k + 2 ^ scB 4 2 k ≤ 32769 ∧ scB 4 2 k ≤ 13 := by decide
    have := key c (by omega)
    cases h
    exact this
theorem rd_fit {bits : List Bool} {p n x q : Nat} (h : rd bits p n = some (x, q)) : x < 2 ^ n ∧ q = p + n ∧ q ≤ bits.length := by
  have h1 := rd_lt h
  refine ⟨?_, h1.1, by have := h1.1; have := h1.2.1; dsimp only at *; omega⟩
  have h2 := numOf_low_lt (xAt bits p n)
  have h3 : (xAt bits p n).length ≤ n := by unfold xAt; rw [List.length_take]; omega
  have h4 : 2 ^ (xAt bits p n).length ≤ 2 ^ n := Nat.pow_le_pow_right (by decide) h3
  have h5 := h1.2.2
  dsimp only at h5
  omega
/-- what a table's symbol is. -/
def DecI (w : World) (B R : Nat) (og : Option Nat) (bs : List Nat) (p : Nat) (oo : Option Nat) (full : List Nat) (kp : Nat) (L : List Nat) (e : Ending) (w' : World) : Prop :=
  ∃ (s q : Nat) (er : Int), e = .returned (.tuple #[.int .i64 s, .int .i64 er]) ∧ IPost w B R og bs q oo full kp w' ∧ ((er = 0 ∧ decS L (ofBits false bs) p = some (s, q)) ∨ (er ≠ 0 ∧ decS L (ofBits false bs) p = none))
theorem inf_dec (w : World) (T : Nat) (L : List Nat) (B R : Nat) (og : Option Nat) (bs : List Nat) (p : Nat) (oo o1 : Option Nat) (full : List Nat) (kp : Nat) (ht : TabI w T L B R og oo) (hg : Good L) (h : ISt w B R og bs p o1 full kp) (hl : bs.length ≤ 2 ^ 30) (hb : ∀ b ∈ bs, b < 256) (hp : p ≤ 8 * bs.length) :
    Calls Tryz.prog 104 #[.pointer (some ⟨T, 0, none⟩), .pointer (some ⟨R, 0, none⟩)] w (DecI w B R og bs p o1 full kp L) := by
  obtain ⟨g1, g2, m, h1, h2⟩ := ht
  refine (pre_lsb_get T g1 g2 m L R og bs p w h1 hg h.rdr (fun k hk hf => ?_) (by omega) hb hp).mono ?_
  · rcases hf with rfl | hf
    · exact (h2 _ hk).1 (Or.inr (Or.inl rfl))
    · exact (h2 _ hk).2 hf
  · rintro e w' ⟨s, q, er, rfl, hd, hr⟩
    refine ⟨s, q, er, rfl, h.reader hr, ?_⟩
    by_cases e0 : er = 0
    · subst e0; exact Or.inl ⟨rfl, decS_ok hg hd⟩
    · exact Or.inr ⟨e0, decS_no hg hd e0⟩
theorem symS_len {L1 L2 : List Nat} {bits : List Bool} {p q : Nat} {out o : List Nat} (h : symS L1 L2 bits p out = .go q o) : o.length + 258 * p ≤ out.length + 258 * q := by
  unfold symS at h
  split at h
  · cases h
  · rename_i c q0 hd
    have h0 := decS_lt hd
    split at h
    · cases h; rw [List.length_append, List.length_singleton]; omega
    · split at h
      · cases h
      · split at h
        · cases h
        · rename_i ll lb hlo
          have hf := lenOf_fit hlo
          split at h
          · cases h
          · rename_i x q2 hr
            have h1 := rd_fit hr
            split at h
            · cases h
            · rename_i d q3 hd2
              have h2 := decS_lt hd2
              split at h
              · cases h
              · split at h
                · cases h
                · rename_i y q4 hr2
                  have h3 := rd_fit hr2
                  split at h
                  · cases h
                  · cases h
                    rw [length_copyL]; omega
section
variable {w0 w : World} {B R : Nat} {og : Option Nat} {bs : List Nat} {p : Nat} {oo : Option Nat} {full : List Nat} {kp : Nat}
theorem IPost.go {q : Nat} {f2 : List Nat} {o1 : Option Nat} {w' : World} (k2 : Near oo o1 w0) (k3 : Touch (FPI B R oo) w0 w) (h : IPost w B R og bs q o1 f2 kp w') : IPost w0 B R og bs q oo f2 kp w' := IPost.step k2 k3 h
theorem near_touch {o1 : Option Nat} {w' : World} (k2 : Near oo o1 w0) (k3 : Touch (FPI B R oo) w0 w) (h : Touch (FPI B R o1) w w') : Touch (FPI B R oo) w0 w' := k3.trans h (fun k hk hh => k2.fpi B R k hk hh)
/-- a number, from wherever the stream has come. -/
theorem bits_at (h : IPost w0 B R og bs p oo full kp w) (hB : bs.length ≤ 2 ^ 30 ∧ ∀ b ∈ bs, b < 256) (n : Nat) (hp : p ≤ 8 * bs.length) (hn : n ≤ 32) :
    Calls Tryz.prog 60 #[.pointer (some ⟨B, 0, none⟩), .int .i64 n] w (RdI w0 B R og bs p n oo full kp) := by
  obtain ⟨o1, k1, k2, k3⟩ := h
  refine (inf_bits B R og bs p n o1 full kp w k1 hB.1 hB.2 hp hn).mono ?_
  rintro e w' (⟨x, q, h1, h2, h3⟩ | ⟨h1, h2, h3⟩)
  · exact Or.inl ⟨x, q, h1, h2, h3.go k2 k3⟩
  · exact Or.inr ⟨h1, h2, near_touch k2 k3 h3⟩
theorem dec_at {w1 : World} {L : List Nat} {T : Nat} (hg : Good L) (h : IPost w0 B R og bs p oo full kp w) (ht : TabI w0 T L B R og oo) (hB : bs.length ≤ 2 ^ 30 ∧ ∀ b ∈ bs, b < 256) (hp : p ≤ 8 * bs.length) :
    Calls Tryz.prog 104 #[.pointer (some ⟨T, 0, none⟩), .pointer (some ⟨R, 0, none⟩)] w (DecI w0 B R og bs p oo full kp L) := by
  obtain ⟨o1, k1, k2, k3⟩ := h
  refine (inf_dec w T L B R og bs p oo o1 full kp (ht.keep k3) hg k1 hB.1 hB.2 hp).mono ?_
  rintro e w' ⟨s, q, er, h1, h2, h3⟩
  exact ⟨s, q, er, h1, h2.go k2 k3, h3⟩
theorem put_at (h : IPost w0 B R og bs p oo full kp w) (c : Nat) (hf : full.length ≤ 2 ^ 45) : Calls Tryz.prog 81 #[.pointer (some ⟨B, 0, none⟩), .int .u8 c] w fun e w' => e = .returned (.tuple #[]) ∧ IPost w0 B R og bs p oo (full ++ [c]) kp w' := by
  obtain ⟨o1, k1, k2, k3⟩ := h
  exact (inf_put B R og bs p o1 full kp c c w k1 hf (fun _ => rfl)).mono fun e w' ⟨h1, h2⟩ => ⟨h1, h2.go k2 k3⟩
theorem rep_at (h : IPost w0 B R og bs p oo full kp w) (n d : Nat) (hd : 1 ≤ d) (hd2 : d ≤ 2 ^ 40) (hn : n ≤ 1000) (hf : full.length ≤ 2 ^ 44) :
    Calls Tryz.prog 107 #[.pointer (some ⟨B, 0, none⟩), .int .i64 n, .int .i64 d] w (InfE w0 B R og bs oo kp (if full.length < d then none else some (p, copyL full d n))) := by
  obtain ⟨o1, k1, k2, k3⟩ := h
  refine (inf_repeat B R og bs p o1 full kp n d w k1 hd hd2 hn hf).mono ?_
  rintro e w' (⟨q, o, h1, h2, h3⟩ | ⟨h1, h2, h3⟩)
  · exact Or.inl ⟨q, o, h1, h2, h3.go k2 k3⟩
  · exact Or.inr ⟨h1, h2, near_touch k2 k3 h3⟩
theorem IPost.ext2 {w' : World} (h : IPost w0 B R og bs p oo full kp w) (hx : Ext w w') : IPost w0 B R og bs p oo full kp w' := by
  obtain ⟨o1, k1, k2, k3⟩ := h
  exact ⟨o1, k1.ext hx, k2, k3.trans (hx.mono (fun _ _ f => f.elim)) (fun _ _ h => h)⟩
theorem IPost.keepB (h : IPost w0 B R og bs p oo full kp w) : w.cell? ⟨B, 0, none⟩ = some (.pointer (some ⟨R, 0, none⟩)) := h.choose_spec.1.cells.1
end
section
variable {L1 L2 : List Nat} {bits : List Bool} {p : Nat} {out : List Nat}
theorem symS_b1 (h : decS L1 bits p = none) : symS L1 L2 bits p out = .bad := by rw [symS, h]
theorem symS_lit {c q : Nat} (h : decS L1 bits p = some (c, q)) (hc : c < 256) : symS L1 L2 bits p out = .go q (out ++ [c]) := by rw [symS, h]; simp only; rw [if_pos hc]
theorem symS_end {c q : Nat} (h : decS L1 bits p = some (c, q)) (hc : c = 256) : symS L1 L2 bits p out = .stop q := by rw [symS, h]; simp only; rw [if_neg (by omega), if_pos hc]
theorem symS_b2 {c q : Nat} (h : decS L1 bits p = some (c, q)) (hc : 256 < c) (h2 : lenOf c = none) : symS L1 L2 bits p out = .bad := by rw [symS, h]; simp only; rw [if_neg (by omega), if_neg (by omega), h2]
theorem symS_b3 {c q ll lb : Nat} (h : decS L1 bits p = some (c, q)) (hc : 256 < c) (h2 : lenOf c = some (ll, lb)) (h3 : rd bits q lb = none) : symS L1 L2 bits p out = .bad := by rw [symS, h]; simp only; rw [if_neg (by omega), if_neg (by omega), h2]; simp only; rw [h3]
theorem symS_b4 {c q ll lb x q2 : Nat} (h : decS L1 bits p = some (c, q)) (hc : 256 < c) (h2 : lenOf c = some (ll, lb)) (h3 : rd bits q lb = some (x, q2)) (h4 : decS L2 bits q2 = none) : symS L1 L2 bits p out = .bad := by rw [symS, h]; simp only; rw [if_neg (by omega), if_neg (by omega), h2]; simp only; rw [h3]; simp only; rw [h4]
theorem symS_b5 {c q ll lb x q2 d q3 : Nat} (h : decS L1 bits p = some (c, q)) (hc : 256 < c) (h2 : lenOf c = some (ll, lb)) (h3 : rd bits q lb = some (x, q2)) (h4 : decS L2 bits q2 = some (d, q3)) (h5 : distOf d = none) : symS L1 L2 bits p out = .bad := by rw [symS, h]; simp only; rw [if_neg (by omega), if_neg (by omega), h2]; simp only; rw [h3]; simp only; rw [h4]; simp only; rw [h5]
theorem symS_b6 {c q ll lb x q2 d q3 dl db : Nat} (h : decS L1 bits p = some (c, q)) (hc : 256 < c) (h2 : lenOf c = some (ll, lb)) (h3 : rd bits q lb = some (x, q2)) (h4 : decS L2 bits q2 = some (d, q3)) (h5 : distOf d = some (dl, db)) (h6 : rd bits q3 db = none) : symS L1 L2 bits p out = .bad := by rw [symS, h]; simp only; rw [if_neg (by omega), if_neg (by omega), h2]; simp only; rw [h3]; simp only; rw [h4]; simp only; rw [h5]; simp only; rw [h6]
theorem symS_rep {c q ll lb x q2 d q3 dl db y q4 : Nat} (h : decS L1 bits p = some (c, q)) (hc : 256 < c) (h2 : lenOf c = some (ll, lb)) (h3 : rd bits q lb = some (x, q2)) (h4 : decS L2 bits q2 = some (d, q3)) (h5 : distOf d = some (dl, db)) (h6 : rd bits q3 db = some (y, q4)) : symS L1 L2 bits p out = if out.length < dl + y then .bad else .go q4 (copyL out (dl + y) (ll + x)) := by rw [symS, h]; simp only; rw [if_neg (by omega), if_neg (by omega), h2]; simp only; rw [h3]; simp only; rw [h4]; simp only; rw [h5]; simp only; rw [h6]
end
/-- a round's head. -/
def SymR (w1 : World) (B R : Nat) (og : Option Nat) (bs : List Nat) (oo : Option Nat) (kp : Nat) (L1 L2 : List Nat) (r : Option (Nat × List Nat)) (g : Nat) (wr : World) : Prop :=
  ∃ p full, p ≤ 8 * bs.length ∧ g = 8 * bs.length - p ∧ full.length ≤ 258 * p ∧ IPost w1 B R og bs p oo full kp wr ∧ r = symF L1 L2 (ofBits false bs) p full
theorem InfE.bad {w w1 w2 : World} {B R : Nat} {og : Option Nat} {bs : List Nat} {oo : Option Nat} {kp : Nat} {r : Option (Nat × List Nat)} (hr : r = none) (hx : Ext w w1) (ht : Touch (FPI B R oo) w1 w2) : InfE w B R og bs oo kp r (.panicked [formF]) w2 := Or.inr ⟨hr, rfl, hx.trans' ht⟩
theorem IPost.touch {w w' : World} {B R : Nat} {og : Option Nat} {bs : List Nat} {p : Nat} {oo : Option Nat} {full : List Nat} {kp : Nat} (h : IPost w B R og bs p oo full kp w') : Touch (FPI B R oo) w w' := h.choose_spec.2.2
set_option maxRecDepth 100000 in
set_option maxHeartbeats 4000000 in
theorem inf_symbols (B R : Nat) (og : Option Nat) (bs : List Nat) (p : Nat) (oo : Option Nat) (full : List Nat) (kp : Nat) (v1 v2 : Value) (L1 L2 : List Nat) (w : World) (h : ISt w B R og bs p oo full kp) (hl : bs.length ≤ 2 ^ 30) (hb : ∀ b ∈ bs, b < 256) (hp : p ≤ 8 * bs.length) (hf : full.length ≤ 258 * p) (hv1 : Vw w v1 L1) (hv2 : Vw w v2 L2) (g1 : Good L1) (g2 : Good L2) :
    Calls Tryz.prog 84 #[.pointer (some ⟨B, 0, none⟩), v1, v2] w (InfE w B R og bs oo kp (symF L1 L2 (ofBits false bs) p full)) := by
  obtain ⟨r, hr⟩ : ∃ r, r = symF L1 L2 (ofBits false bs) p full := ⟨_, rfl⟩
  rw [← hr]
  have HH := Lib.hid h
  have HB := Lib.hid (show bs.length ≤ 2 ^ 30 ∧ (∀ b ∈ bs, b < 256) from ⟨hl, hb⟩)
  have HV := Lib.hid (And.intro hv1 hv2)
  have HG := Lib.hid (And.intro g1 g2)
  have HR := Lib.hid (show r = symF L1 L2 (ofBits false bs) p full ∧ p ≤ 8 * bs.length ∧ full.length ≤ 258 * p from ⟨hr, hp, hf⟩)
  have HLEN := Lib.hid (show (ofBits false bs).length = 8 * bs.length from length_ofBits _ _)
  clear h hl hb hv1 hv2 g1 g2 hr hp hf
  go_enter Tryz.func84, Tryz.ntmps84
  go_wp2_with fail
  refine (pre_new v1 L1 w HV.out.1.vw HV.out.1.vl HV.out.1.block (by have := HG.out.1.2.1; omega)).mono ?_
  rintro e w1 (⟨hne, rfl, _⟩ | ⟨_, T1, ga, gb, m, rfl, ht, hnew, hx⟩)
  · exact absurd ((good_iff L1).1 HG.out.1) hne
  have ht1 : TabI w1 T1 L1 B R og oo := ⟨ga, gb, m, ht, fun k hk => ⟨fun hf => by
      have h1 := hnew k hk
      rcases hf with rfl | rfl | hf
      · have := block_lt HH.out.box.choose_spec.1; omega
      · have := HH.out.rdr.lt; omega
      · have := HH.out.box.choose_spec.2.lt k hf; omega, fun e => by have h1 := hnew k hk; have := HH.out.rdr.glt k e; omega⟩⟩
  have H1 := Lib.hid (show TabI w1 T1 L1 B R og oo ∧ Ext w w1 from ⟨ht1, hx⟩)
  clear ht hnew hx ht1
  go_wp2_with fail
  refine (inf_must_t _ w1).mono ?_
  rintro e w2 ⟨rfl, hw⟩
  obtain rfl := hw.symm
  go_wp2_with fail
  refine (pre_new v2 L2 w1 (HV.out.2.ext H1.out.2).vw (HV.out.2.ext H1.out.2).vl (HV.out.2.ext H1.out.2).block (by have := HG.out.2.2.1; omega)).mono ?_
  rintro e w3 (⟨hne, rfl, _⟩ | ⟨_, T2, gc, gd, m2, rfl, ht, hnew, hx⟩)
  · exact absurd ((good_iff L2).1 HG.out.2) hne
  have hx03 : Ext w w3 := H1.out.2.trans' hx
  have ht2 : TabI w3 T2 L2 B R og oo := ⟨gc, gd, m2, ht, fun k hk => ⟨fun hf => by
      have h1 := hnew k hk
      have hs := H1.out.2.size
      rcases hf with rfl | rfl | hf
      · have := block_lt HH.out.box.choose_spec.1; omega
      · have := HH.out.rdr.lt; omega
      · have := HH.out.box.choose_spec.2.lt k hf; omega, fun e => by have h1 := hnew k hk; have hs := H1.out.2.size; have := HH.out.rdr.glt k e; omega⟩⟩
  have H3 := Lib.hid (show TabI w3 T1 L1 B R og oo ∧ TabI w3 T2 L2 B R og oo ∧ Ext w w3 ∧ ISt w3 B R og bs p oo full kp from ⟨H1.out.1.keep (hx.mono (fun _ _ f => f.elim)), ht2, hx03, HH.out.ext hx03⟩)
  clear ht hnew hx hx03 ht2 H1
  go_wp2_with fail
  refine (inf_must_t _ w3).mono ?_
  rintro e w4 ⟨rfl, hw⟩
  obtain rfl := hw.symm
  go_wp2_with fail
  clear hw
  go_loopg [] (8 * bs.length - p) (fun k wr => SymR w3 B R og bs oo kp L1 L2 r k wr)
  case atStart => exact ⟨p, full, HR.out.2.1, rfl, HR.out.2.2, IPost.refl H3.out.2.2.2, HR.out.1⟩
  case round =>
    obtain ⟨p1, f1, hp1, hgk, hf1, hip, hr1⟩ := hrel
    have HI := Lib.hid (show IPost w3 B R og bs p1 oo f1 kp wr ∧ p1 ≤ 8 * bs.length ∧ f1.length ≤ 258 * p1 ∧ r = symF L1 L2 (ofBits false bs) p1 f1 ∧ gk = 8 * bs.length - p1 ∧ f1.length ≤ 2 ^ 44 from ⟨hip, hp1, hf1, hr1, hgk, by have := HB.out.1; omega⟩)
    have c0 := hip.keepB
    clear hp1 hgk hf1 hip hr1
    go_wp2_with fail
    refine (dec_at (w1 := w3) HG.out.1 HI.out.1 H3.out.1 HB.out HI.out.2.1).mono ?_
    rintro e w5 ⟨c, q1, er, rfl, hi5, hd5⟩
    clear c0
    rcases hd5 with ⟨rfl, hd5⟩ | ⟨hne, hd5⟩
    rotate_left
    · have HX := Lib.hid (show r = none ∧ IPost w3 B R og bs q1 oo f1 kp w5 from ⟨by rw [HI.out.2.2.2.1]; exact symF_bad (symS_b1 hd5), hi5⟩)
      clear hi5 hd5
      go_wp2_with fail
      refine (inf_must_i_bad _ _ w5 hne).mono ?_
      rintro e w6 ⟨rfl, rfl⟩
      go_wp2_with fail
      exact ⟨rfl, InfE.bad HX.out.1 H3.out.2.2.1 HX.out.2.touch⟩
    have hdl := decS_lt hd5
    rw [HLEN.out] at hdl
    have hc512 : c < 512 := by have := HG.out.1.2.1; omega
    have H5 := Lib.hid (show IPost w3 B R og bs q1 oo f1 kp w5 ∧ decS L1 (ofBits false bs) p1 = some (c, q1) ∧ p1 < q1 ∧ q1 ≤ 8 * bs.length from ⟨hi5, hd5, hdl.1, hdl.2.1⟩)
    clear hi5 hd5 hdl
    go_wp2_with fail
    refine (inf_must_i _ w5).mono ?_
    rintro e w6 ⟨rfl, hw6⟩
    obtain rfl := hw6.symm
    by_cases hc : c < 256
    · have k1 : (c : Int) < 256 := by omega
      have wc : IntKind.u8.wrap (c : Int) = (c : Int) := IntWalk.u8_in _ (by omega)
      have HC := Lib.hid hc
      clear hc hc512
      go_wp2_with fail
      refine (put_at H5.out.1 c (by have := HI.out.2.2.2.2.2; omega)).mono ?_
      rintro e w7 ⟨rfl, hi7⟩
      have H7 := Lib.hid hi7
      clear hi7
      have hgo : symS L1 L2 (ofBits false bs) p1 f1 = .go q1 (f1 ++ [c]) := symS_lit H5.out.2.1 HC.out
      have HGO := Lib.hid hgo
      clear hgo
      go_wp2_with fail
      go_roundg (8 * bs.length - q1)
      case measure => have := HI.out; have := H5.out; omega
      case rel => exact ⟨q1, _, H5.out.2.2.2, rfl, by have := symS_len HGO.out; have := HI.out; omega, H7.out, by rw [HI.out.2.2.2.1]; exact symF_go HGO.out⟩
    · have k1 : ¬ (c : Int) < 256 := by omega
      by_cases he : c = 256
      · have k2 : ((c : Int) == 256) = true := by rw [beq_iff_eq]; omega
        have HX := Lib.hid (show r = some (q1, f1) from by rw [HI.out.2.2.2.1]; exact symF_stop (symS_end H5.out.2.1 he))
        clear hc he hc512
        go_wp2_with fail
        go_end0
        exact Or.inl ⟨q1, f1, HX.out, rfl, H5.out.1.pre H3.out.2.2.1⟩
      · have k2 : ((c : Int) == 256) = false := by rw [beq_eq_false_iff_ne]; omega
        have HC := Lib.hid (show 256 < c ∧ c < 512 by omega)
        clear hc he hc512
        go_wp2_with fail
        refine (tok_length_of c (by have := HC.out; omega) w5).mono ?_
        rintro e w7 ⟨(⟨ll, lb, hlo, rfl⟩ | ⟨hlo, rfl⟩), hx7⟩
        rotate_left
        · have HX := Lib.hid (show r = none ∧ IPost w3 B R og bs q1 oo f1 kp w7 from ⟨by rw [HI.out.2.2.2.1]; exact symF_bad (symS_b2 H5.out.2.1 HC.out.1 hlo), H5.out.1.ext2 hx7⟩)
          clear hx7 hlo
          go_wp2_with fail
          refine (inf_must_i_bad _ _ w7 (by decide)).mono ?_
          rintro e w8 ⟨rfl, rfl⟩
          go_wp2_with fail
          exact ⟨rfl, InfE.bad HX.out.1 H3.out.2.2.1 HX.out.2.touch⟩
        have H7 := Lib.hid (show IPost w3 B R og bs q1 oo f1 kp w7 ∧ lenOf c = some (ll, lb) ∧ ll + 2 ^ lb ≤ 259 ∧ lb ≤ 5 from ⟨H5.out.1.ext2 hx7, hlo, (lenOf_fit hlo).1, (lenOf_fit hlo).2⟩)
        clear hx7 hlo
        go_wp2_with fail
        refine (inf_must_i _ w7).mono ?_
        rintro e w8 ⟨rfl, hw8⟩
        obtain rfl := hw8.symm
        clear hw8
        go_wp2_with fail
        refine (bits_at H7.out.1 HB.out lb H5.out.2.2.2 (by have := H7.out; omega)).mono ?_
        rintro e w9 (⟨x, q2, hrd, rfl, hi9⟩ | ⟨hrd, rfl, ht9⟩)
        rotate_left
        · exact ⟨rfl, InfE.bad (by rw [HI.out.2.2.2.1]; exact symF_bad (symS_b3 H5.out.2.1 HC.out.1 H7.out.2.1 hrd)) H3.out.2.2.1 ht9⟩
        have hrf := rd_fit hrd
        rw [HLEN.out] at hrf
        obtain ⟨N, hN⟩ : ∃ N, N = ll + x := ⟨_, rfl⟩
        have hN259 : N ≤ 259 := by have := H7.out; omega
        have wN : IntKind.i64.wrap ((ll : Int) + (x : Int)) = (N : Int) := by rw [show (ll : Int) + (x : Int) = (N : Int) by omega]; exact IntWalk.i64_in _ (by omega)
        have H9 := Lib.hid (show IPost w3 B R og bs q2 oo f1 kp w9 ∧ rd (ofBits false bs) q1 lb = some (x, q2) ∧ q1 ≤ q2 ∧ q2 ≤ 8 * bs.length ∧ N = ll + x ∧ N ≤ 259 from ⟨hi9, hrd, by omega, hrf.2.2, hN, hN259⟩)
        clear hi9 hrd hrf hN hN259
        have c0 := H9.out.1.keepB
        go_wp2_with fail
        refine (dec_at (w1 := w3) HG.out.2 H9.out.1 H3.out.2.1 HB.out H9.out.2.2.2.1).mono ?_
        rintro e w10 ⟨d, q3, er, rfl, hi10, hd10⟩
        clear c0
        rcases hd10 with ⟨rfl, hd10⟩ | ⟨hne, hd10⟩
        rotate_left
        · have HX := Lib.hid (show r = none ∧ IPost w3 B R og bs q3 oo f1 kp w10 from ⟨by rw [HI.out.2.2.2.1]; exact symF_bad (symS_b4 H5.out.2.1 HC.out.1 H7.out.2.1 H9.out.2.1 hd10), hi10⟩)
          clear hi10 hd10
          go_wp2_with fail
          refine (inf_must_i_bad _ _ w10 hne).mono ?_
          rintro e w6 ⟨rfl, rfl⟩
          go_wp2_with fail
          exact ⟨rfl, InfE.bad HX.out.1 H3.out.2.2.1 HX.out.2.touch⟩
        have hdl := decS_lt hd10
        rw [HLEN.out] at hdl
        have H10 := Lib.hid (show IPost w3 B R og bs q3 oo f1 kp w10 ∧ decS L2 (ofBits false bs) q2 = some (d, q3) ∧ q2 < q3 ∧ q3 ≤ 8 * bs.length ∧ d < 512 from ⟨hi10, hd10, hdl.1, hdl.2.1, by have := HG.out.2.2.1; omega⟩)
        clear hi10 hd10 hdl
        go_wp2_with fail
        refine (inf_must_i _ w10).mono ?_
        rintro e w11 ⟨rfl, hw11⟩
        obtain rfl := hw11.symm
        clear hw11
        go_wp2_with fail
        refine (tok_distance_of d (by have := H10.out; omega) w10).mono ?_
        rintro e w12 ⟨(⟨dl, db, hdo, rfl⟩ | ⟨hdo, rfl⟩), hx12⟩
        rotate_left
        · have HX := Lib.hid (show r = none ∧ IPost w3 B R og bs q3 oo f1 kp w12 from ⟨by rw [HI.out.2.2.2.1]; exact symF_bad (symS_b5 H5.out.2.1 HC.out.1 H7.out.2.1 H9.out.2.1 H10.out.2.1 hdo), H10.out.1.ext2 hx12⟩)
          clear hx12 hdo
          go_wp2_with fail
          refine (inf_must_i_bad _ _ w12 (by decide)).mono ?_
          rintro e w8 ⟨rfl, rfl⟩
          go_wp2_with fail
          exact ⟨rfl, InfE.bad HX.out.1 H3.out.2.2.1 HX.out.2.touch⟩
        have H12 := Lib.hid (show IPost w3 B R og bs q3 oo f1 kp w12 ∧ distOf d = some (dl, db) ∧ dl + 2 ^ db ≤ 32769 ∧ db ≤ 13 ∧ 1 ≤ dl from ⟨H10.out.1.ext2 hx12, hdo, (distOf_fit hdo).2.1, (distOf_fit hdo).2.2, (distOf_fit hdo).1⟩)
        clear hx12 hdo
        go_wp2_with fail
        refine (inf_must_i _ w12).mono ?_
        rintro e w13 ⟨rfl, hw13⟩
        obtain rfl := hw13.symm
        clear hw13
        go_wp2_with fail
        refine (bits_at H12.out.1 HB.out db H10.out.2.2.2.1 (by have := H12.out; omega)).mono ?_
        rintro e w14 (⟨y, q4, hrd, rfl, hi14⟩ | ⟨hrd, rfl, ht14⟩)
        rotate_left
        · exact ⟨rfl, InfE.bad (by rw [HI.out.2.2.2.1]; exact symF_bad (symS_b6 H5.out.2.1 HC.out.1 H7.out.2.1 H9.out.2.1 H10.out.2.1 H12.out.2.1 hrd)) H3.out.2.2.1 ht14⟩
        have hrf := rd_fit hrd
        rw [HLEN.out] at hrf
        obtain ⟨M, hM⟩ : ∃ M, M = dl + y := ⟨_, rfl⟩
        have hMb : M ≤ 40000 := by have := H12.out; omega
        have wM : IntKind.i64.wrap ((dl : Int) + (y : Int)) = (M : Int) := by rw [show (dl : Int) + (y : Int) = (M : Int) by omega]; exact IntWalk.i64_in _ (by omega)
        have HS := Lib.hid (show symS L1 L2 (ofBits false bs) p1 f1 = if f1.length < M then .bad else .go q4 (copyL f1 M N) from by rw [hM, H9.out.2.2.2.2.1]; exact symS_rep H5.out.2.1 HC.out.1 H7.out.2.1 H9.out.2.1 H10.out.2.1 H12.out.2.1 hrd)
        have H14 := Lib.hid (show IPost w3 B R og bs q4 oo f1 kp w14 ∧ q3 ≤ q4 ∧ q4 ≤ 8 * bs.length ∧ M ≤ 40000 ∧ 1 ≤ M from ⟨hi14, by omega, hrf.2.2, hMb, by have := H12.out; omega⟩)
        clear hi14 hrd hrf hM hMb
        go_wp2_with fail
        refine (rep_at H14.out.1 N M H14.out.2.2.2.2 (by have := H14.out; omega) (by have := H9.out; omega) HI.out.2.2.2.2.2).mono ?_
        rintro e w15 (⟨q5, o5, h5, rfl, hi15⟩ | ⟨h5, rfl, ht15⟩)
        · by_cases hlM : f1.length < M
          · rw [if_pos hlM] at h5; cases h5
          rw [if_neg hlM] at h5
          cases h5
          have HGO := Lib.hid (show symS L1 L2 (ofBits false bs) p1 f1 = .go q4 (copyL f1 M N) from by rw [HS.out, if_neg hlM])
          have H15 := Lib.hid hi15
          clear hi15 hlM
          go_wp2_with fail
          go_roundg (8 * bs.length - q4)
          case measure => have := HI.out; have := H5.out; have := H9.out; have := H10.out; have := H14.out; omega
          case rel => exact ⟨q4, _, H14.out.2.2.1, rfl, by have := symS_len HGO.out; have := HI.out; omega, H15.out, by rw [HI.out.2.2.2.1]; exact symF_go HGO.out⟩
        · by_cases hlM : f1.length < M
          · exact ⟨rfl, InfE.bad (by rw [HI.out.2.2.2.1]; exact symF_bad (by rw [HS.out, if_pos hlM])) H3.out.2.2.1 ht15⟩
          · rw [if_neg hlM] at h5; cases h5
end Go.Proofs.YtbbcphloafmldaaGreat
