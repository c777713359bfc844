/- prefix.Table: GetLow: its walk. -/
import Derived.BigQuiet
import Derived.Test.YtbbcphloafmldaaBnd8
namespace Go.Proofs.Ytbbcphloafmldaa
open Go.RowKit
set_option linter.unusedVariables false

theorem rx_row {L : List Nat} {x : List Bool} {a : Int} (hg : Good L) (h : RX (rowsL L) x a) : x.length ≤ 20 := by
  have hr : ∀ (i : Nat) (r : List Bool), (rowsL L)[i]? = some r → r.length ≤ 20 := fun i r hr => by
    have hi : i < L.length := by have := (List.getElem?_eq_some_iff.1 hr).1; rwa [length_rowsL] at this
    rw [rowsL_get L i hi] at hr
    cases hr
    rw [length_rowOf, List.getD, List.getElem?_eq_getElem hi]; exact hg.1 _ (List.getElem_mem _)
  rcases h with ⟨_, i, h, _⟩ | ⟨_, i, r, h, _, h2⟩
  · exact hr i x h
  · have := hr i r h; omega
theorem rx_lt {L : List Nat} {x : List Bool} (hg : Good L) (h : RX (rowsL L) x (-1)) : x.length < 20 := by
  rcases h with ⟨_, i, h, h3⟩ | ⟨_, i, r, h, _, h2⟩
  · omega
  · have := rx_row hg (Or.inl ⟨(fun e => by rw [e] at h2; simp at h2), i, h, rfl⟩ : RX (rowsL L) r i); omega
theorem rx_hit {rows : List (List Bool)} {x : List Bool} {a : Int} (h : RX rows x a) (h0 : 0 ≤ a) : Hit rows x a.toNat ∧ ((a.toNat : Nat) : Int) = a := by
  rcases h with ⟨h1, i, h2, h3⟩ | ⟨h1, _⟩
  · subst h3; exact ⟨⟨by simpa using h2, h1⟩, by simp⟩
  · omega
theorem rx_beg {rows : List (List Bool)} (hf : PFree rows) {x : List Bool} (h : RX rows x (-1)) : (¬ ∃ i, Hit rows x i) ∧ Beg rows x := by
  rcases h with ⟨h1, i, h2, h3⟩ | ⟨_, i, r, h1, h2, h3⟩
  · omega
  · have hr : r ≠ [] := fun e => by rw [e] at h3; simp at h3
    refine ⟨?_, i, r, h1, hr, h2⟩
    rintro ⟨j, k1, k2⟩
    have := hf j i x r k1 h1 k2 h2
    subst this
    rw [k1] at h1; cases h1; omega
theorem rx_none {rows : List (List Bool)} {x : List Bool} (h : ∀ a, ¬ RX rows x a) : (¬ ∃ i, Hit rows x i) ∧ ¬ Beg rows x := by
  have h1 : ¬ ∃ i, Hit rows x i := fun ⟨i, k1, k2⟩ => h i (Or.inl ⟨k2, i, k1, rfl⟩)
  refine ⟨h1, ?_⟩
  rintro ⟨i, r, k1, k2, k3⟩
  by_cases hl : x.length < r.length
  · exact h (-1) (Or.inr ⟨rfl, i, r, k1, k3, hl⟩)
  · have e : x = r := k3.eq_of_length (by have := k3.length_le; omega)
    exact h1 ⟨i, by rw [e]; exact k1, by rw [e]; exact k2⟩
theorem rx_fun {rows : List (List Bool)} (hf : PFree rows) {x : List Bool} {a b : Int} (h : RX rows x a) (k : RX rows x b) : a = b := by
  by_cases ha : 0 ≤ a
  · obtain ⟨h1, h2⟩ := rx_hit h ha
    by_cases hb : 0 ≤ b
    · obtain ⟨k1, k2⟩ := rx_hit k hb
      rw [← h2, ← k2, hit_one hf h1 k1]
    · have : b = -1 := by
        rcases k with ⟨_, i, _, k2⟩ | ⟨k1, _⟩
        · omega
        · exact k1
      subst this
      exact ((rx_beg hf k).1 ⟨_, h1⟩).elim
  · have e : a = -1 := by
      rcases h with ⟨_, i, _, k2⟩ | ⟨k1, _⟩
      · omega
      · exact k1
    subst e
    by_cases hb : 0 ≤ b
    · obtain ⟨k1, k2⟩ := rx_hit k hb
      exact ((rx_beg hf h).1 ⟨_, k1⟩).elim
    · rcases k with ⟨_, i, _, k2⟩ | ⟨k1, _⟩
      · omega
      · exact k1.symm
theorem rt_fun {rows : List (List Bool)} (hf : PFree rows) {v k : Nat} {a b : Int} (h : RT rows v k a) (h2 : RT rows v k b) : a = b := by
  obtain ⟨x, rfl, rfl, h1⟩ := h
  exact rx_fun hf h1 ((rt_iff _ _ _).1 h2)
/-- 'v, ok := m[word]', however many answers were drawn. -/
theorem MapIs.lookN {w : World} {b v k : Nat} {R : Nat → Nat → Int → Prop} (h : MapIs w b R) (hf : ∀ a b, R v k a → R v k b → a = b) (hv : v < 4294967296) (hk : k < 256) :
    (∃ a, R v k a ∧ ∀ n, (Instr.lookup 112 (.map (some b)) (wk v k) true).run Try.prog (w.drewN n) = .ok (.tuple #[.int .i64 a, .bool true]) (w.drewN n)) ∨
    ((∀ a, ¬ R v k a) ∧ ∀ n, (Instr.lookup 112 (.map (some b)) (wk v k) true).run Try.prog (w.drewN n) = .ok (.tuple #[.int .i64 0, .bool false]) (w.drewN n)) := by
  have hn : ∀ n, MapIs (w.drewN n) b R := fun n => h.keep ((Ext.refl w).drewN n) (fun f => f)
  by_cases hx : ∃ a, R v k a
  · obtain ⟨a, ha⟩ := hx
    refine Or.inl ⟨a, ha, fun n => ?_⟩
    rcases (hn n).look hv hk with ⟨a', h1, h2⟩ | ⟨h1, _⟩
    · rw [h2, hf a a' ha h1]
    · exact (h1 a ha).elim
  · refine Or.inr ⟨fun a ha => hx ⟨a, ha⟩, fun n => ?_⟩
    rcases (hn n).look hv hk with ⟨a', h1, h2⟩ | ⟨_, h2⟩
    · exact (hx ⟨a', h1⟩).elim
    · exact h2
theorem xAt_bits (hi : Bool) (bs : List Nat) (p n : Nat) (h : p + n ≤ 8 * bs.length) : xAt (ofBits hi bs) p n = bitsAt hi bs p n := ofBits_at hi bs p n h
theorem numOf_one (hi : Bool) (b : Bool) : numOf hi [b] = b.toNat := by cases hi <;> cases b <;> rfl
theorem shl_or (X : Nat) (b : Bool) (h : X < 2 ^ 20) : bits .or .u32 ((X : Int) * 2) ((b.toNat : Nat) : Int) = ((2 * X + b.toNat : Nat) : Int) := by
  have hb := bool_le b
  have e1 : (X : Int) * 2 = ((X * 2 : Nat) : Int) := by simp
  rw [e1, u32_or_nat _ _ (by omega) (by omega)]
  have h2 := or_low b.toNat X 1 (by omega)
  rw [Nat.or_comm, show X * 2 = X * 2 ^ 1 by rfl, h2]
  simp only [Nat.pow_one]
  omega

set_option maxHeartbeats 1000000 in
theorem pre_lsb_read_nil (T : Value) (R : Option Addr) (f : Value) (w : World) (hT : T = .pointer none ∨ R = none) (hp : ∃ a, T = .pointer a) :
    Calls Try.prog 74 #[T, .pointer R, f] w fun e w' => e = .returned (.tuple #[.int .i64 0, .int .i64 8]) ∧ w = w' := by
  obtain ⟨a, rfl⟩ := hp
  cases a with
  | none =>
    go_enter Try.func74, Try.ntmps74
    go_wp2_with fail
    go_ret2
    exact ⟨rfl, rfl⟩
  | some a =>
    obtain rfl : R = none := by
      rcases hT with h | h
      · cases h
      · exact h
    go_enter Try.func74, Try.ntmps74
    go_wp2_with fail
    go_ret2
    exact ⟨rfl, rfl⟩
set_option maxHeartbeats 4000000 in
set_option maxRecDepth 100000 in
theorem pre_lsb_read (T : Nat) (og og2 : Option Nat) (m : Nat) (L : List Nat) (B : Nat) (ow : Option Nat) (bs : List Nat) (p : Nat) (w : World) (ht : IsT w T og og2 m L) (hg : Good L) (hr : IsR 64 w B ow bs p) (hd : ∀ k, TB T og og2 m k → ¬ FP B ow k)
    (hl : bs.length ≤ 2 ^ 40) (hb : ∀ b ∈ bs, b < 256) (hp : p ≤ 8 * bs.length) :
    Calls Try.prog 74 #[.pointer (some ⟨T, 0, none⟩), .pointer (some ⟨B, 0, none⟩), .func (.func 46) #[.pointer (some ⟨B, 0, none⟩)] #[]] w fun e w' =>
      ∃ (s q : Nat) (er : Int), e = .returned (.tuple #[.int .i64 s, .int .i64 er]) ∧ IsDec (rowsL L) (ofBits false bs) p s q er ∧ RPost 64 w B ow bs q w' := by
  have HT := Lib.hid ht
  have HR := Lib.hid hr
  have HD := Lib.hid hd
  have HB := Lib.hid hb
  have HPF := Lib.hid (rows_pf hg)
  have hBw := hr.lt
  have hTw := ht.lt T (Or.inl rfl)
  have hTB : T ≠ B := fun e => hd T (Or.inl rfl) (Or.inl e)
  clear ht hr hd hb
  go_enter Try.func74, Try.ntmps74
  go_wp2_with fail
  go_loopw [8] (fun pv wr => ∃ n P : Nat, pv = .pointer (some ⟨P, 0, none⟩) ∧ n ≤ 20 ∧ p + n ≤ 8 * bs.length ∧ (∀ j, j < n → GoOn (rowsL L) (ofBits false bs) p j) ∧
      wr.heap[P]? = some (.cells #[.int .u32 (numOf true (bitsAt false bs p n)), .int .u8 n] 116 (0, 0)) ∧ w.heap.size ≤ P ∧ RPost 64 w B ow bs (p + n) wr) (fun pv wr => 21 - (match pv with | .pointer (some a) => (match wr.cell? ⟨a.block, 1, none⟩ with | some (.int _ n) => n.toNat | _ => 0) | _ => 0))
  case atStart => exact ⟨0, _, rfl, by omega, by omega, fun j hj => by omega, heap_alloc_new w _, Nat.le_refl _, ⟨HR.out.ext ((Ext.refl w).alloc _), (Touch.refl _ w).alloc _⟩⟩
  case round =>
    obtain ⟨n, P, rfl, hn, hpn, hgo, hP, hPw, hrp⟩ := hrel
    have cP0 : wr.cell? ⟨P, 0, none⟩ = some (.int .u32 (numOf true (bitsAt false bs p n))) := by simp [World.cell?, hP]
    have cP1 : wr.cell? ⟨P, 1, none⟩ = some (.int .u8 n) := by simp [World.cell?, hP]
    have fP0 : wr.frozen? ⟨P, 0, none⟩ = false := by simp [World.frozen?, hP]
    have fP1 : wr.frozen? ⟨P, 1, none⟩ = false := by simp [World.frozen?, hP]
    have ht2 := HT.out.keep hrp.2 (fun k hk e => HD.out k hk (Or.inl e))
    have HGO := Lib.hid hgo
    have HP := Lib.hid hP
    have HRP := Lib.hid hrp
    have hwrs := hrp.2.size
    obtain ⟨lv, wv, g1, g2, g3, g4⟩ := ht2
    have cT : wr.cell? ⟨T, 2, none⟩ = some (.map (some m)) := by simp [World.cell?, g1]
    have hX := numOf_lt true (bitsAt false bs p n)
    rw [length_bitsAt] at hX
    have hX20 : numOf true (bitsAt false bs p n) < 2 ^ 20 := Nat.lt_of_lt_of_le hX (Nat.pow_le_pow_right (by decide) hn)
    have hlk := g4.lookN (fun _ _ => rt_fun HPF.out) (v := numOf true (bitsAt false bs p n)) (k := n) (by omega) (by omega)
    have hrt : ∀ a, RT (rowsL L) (numOf true (bitsAt false bs p n)) n a ↔ RX (rowsL L) (bitsAt false bs p n) a := fun a => by
      have := rt_iff (rowsL L) (bitsAt false bs p n) a
      rwa [length_bitsAt] at this
    have hbx := xAt_bits false bs p n hpn
    have hst := numOf_high (bitsAt false bs p n) (rbit false bs (p + n))
    rw [← bitsAt_succ] at hst
    have HST := Lib.hid hst
    have HBX := Lib.hid hbx
    have HRT := Lib.hid hrt
    clear g1 g2 g3 g4 hgo hP hrp hX hrt hbx hst
    obtain ⟨X, hXX⟩ : ∃ X, X = numOf true (bitsAt false bs p n) := ⟨_, rfl⟩
    rw [← hXX] at cP0 hX20 hlk HST HRT
    have HXX := Lib.hid hXX.symm
    clear hXX
    simp only [wk] at hlk
    rcases hlk with ⟨a, ha, hrun⟩ | ⟨ha, hrun⟩
    · have ha2 := (HRT.out a).1 ha
      by_cases ha0 : 0 ≤ a
      · obtain ⟨hh, hae⟩ := rx_hit ha2 ha0
        have HF := Lib.hid (show IsDec (rowsL L) (ofBits false bs) p a.toNat (p + n) 0 from ⟨n, rfl, by rw [length_ofBits]; exact hpn, HGO.out, Or.inl ⟨rfl, by rw [HBX.out]; exact hh⟩⟩)
        have HR2 := Lib.hid (show ∀ q, RPost 64 w B ow bs (p + n) (wr.drewN q) from HRP.out.drewN)
        obtain ⟨s, hs⟩ : ∃ s, s = a.toNat := ⟨_, rfl⟩
        rw [← hs] at hae HF
        subst hae
        clear ha ha2 hh hs
        have h0s : (0 : Int) ≤ (s : Int) := Int.natCast_nonneg s
        go_wp2_with fail
        go_quiet (fail)
        clear hrun
        go_wp2_with fail
        go_ret2
        exact ⟨s, p + n, 0, rfl, HF.out, HR2.out nq⟩
      · obtain rfl : a = -1 := by
          rcases ha2 with ⟨_, i, _, k2⟩ | ⟨k1, _⟩
          · omega
          · exact k1
        obtain ⟨hnh, hbeg⟩ := rx_beg HPF.out ha2
        have hn20 := rx_lt hg ha2
        rw [length_bitsAt] at hn20
        have HNH := Lib.hid hnh
        have HBG := Lib.hid hbeg
        clear ha ha2 hnh hbeg ha0
        go_wp2_with fail
        go_quiet (fail)
        clear hrun cT
        by_cases hend : 8 * bs.length < p + n + 1
        · have HF := Lib.hid (show IsDec (rowsL L) (ofBits false bs) p 0 (p + n) 2 from ⟨n, rfl, by rw [length_ofBits]; exact hpn, HGO.out, Or.inr ⟨rfl, rfl, by rw [HBX.out]; exact HNH.out, Or.inr (by rw [length_ofBits]; omega)⟩⟩)
          go_wp2_with fail
          refine (lsb_get_far B ow bs (p + n) 1 _ (HRP.out.drewN nq).1 (by omega) hpn (by decide) hend).mono ?_
          rintro e w5 ⟨rfl, q5, rfl⟩
          have HR5 := Lib.hid (HRP.out.drewN (nq + q5))
          go_wp2_with fail
          go_ret2
          exact ⟨0, p + n, 2, rfl, HF.out, HR5.out⟩
        · go_wp2_with fail
          refine (lsb_get_ok B ow bs (p + n) 1 _ (HRP.out.drewN nq).1 (by omega) HB.out (by decide) (by omega)).mono ?_
          rintro e w5 ⟨rfl, r5⟩
          have hPB : ¬ P = B := by omega
          have hP5 := r5.2.keep (b := P) HP.out hPB
          have cP0 : w5.cell? ⟨P, 0, none⟩ = some (.int .u32 (numOf true (bitsAt false bs p n))) := by simp [World.cell?, hP5]
          rw [HXX.out] at cP0
          have cP1 : w5.cell? ⟨P, 1, none⟩ = some (.int .u8 n) := by simp [World.cell?, hP5]
          have fP0 : w5.frozen? ⟨P, 0, none⟩ = false := by simp [World.frozen?, hP5]
          have fP1 : w5.frozen? ⟨P, 1, none⟩ = false := by simp [World.frozen?, hP5]
          have HR5 := Lib.hid ((HRP.out.drewN nq).step r5)
          clear hP5 r5
          obtain ⟨b, hb⟩ : ∃ b, b = rbit false bs (p + n) := ⟨_, rfl⟩
          rw [show bitsAt false bs (p + n) 1 = [b] by rw [hb]; rfl, numOf_one]
          rw [← hb] at HST
          have HBB := Lib.hid hb
          clear hb
          have hbl := bool_le b
          have hgo : ∀ j, j < n + 1 → GoOn (rowsL L) (ofBits false bs) p j := fun j hj => by
            by_cases hjn : j < n
            · exact HGO.out j hjn
            · obtain rfl : j = n := by omega
              exact ⟨by rw [HBX.out]; exact HNH.out, by rw [HBX.out]; exact HBG.out, by rw [length_ofBits]; omega⟩
          have HGO2 := Lib.hid hgo
          clear hgo
          go_wp2_with fail
          rw [shl_or X b hX20, ← HST.out]
          have hPw5 : P < w5.heap.size := World.block_lt_of_cell? _ _ cP0
          have hwr : wr.cell? ⟨P, 1, none⟩ = some (.int .u8 n) := by simp [World.cell?, HP.out]
          obtain ⟨w6, hw6⟩ : ∃ w6, w6 = (w5.setCell ⟨P, 0, none⟩ (.int .u32 (numOf true (bitsAt false bs p (n + 1))))).setCell ⟨P, 1, none⟩ (.int .u8 ((n : Int) + 1)) := ⟨_, rfl⟩
          rw [← hw6]
          have hT6 : Touch (fun k => k = P) w5 w6 := by rw [hw6]; exact ((Touch.refl (fun k => k = P) w5).setCell (Or.inl rfl) _).setCell (Or.inl rfl) _
          have hz6 : w6.heap.size = w5.heap.size := by rw [hw6]; simp [World.setCell]
          have hR6 : RPost 64 w B ow bs (p + (n + 1)) w6 := by
            obtain ⟨r1, r2⟩ := HR5.out
            refine ⟨r1.keep hT6 (fun e => hPB e.symm) (fun g e e2 => ?_), ⟨hT6.os.trans r2.os, hT6.tape.trans r2.tape, hT6.output.trans r2.output, Nat.le_trans r2.size hT6.size, fun k hk hn => (hT6.block k (Nat.lt_of_lt_of_le hk r2.size) (by omega)).trans (r2.block k hk hn)⟩⟩
            have := HR.out.glt g e; omega
          have hal := heap_alloc_new w6 (.cells #[.int .u32 (numOf true (bitsAt false bs p (n + 1))), .int .u8 ((n : Int) + 1)] 116)
          refine ⟨⟨n + 1, w5.heap.size, rfl, by omega, by omega, HGO2.out, ?_, by omega, ⟨hR6.1.ext ((Ext.refl _).alloc _), hR6.2.alloc _⟩⟩, ?_⟩
          · rw [← hz6]; exact hal
          · have hc6 : (w6.alloc (.cells #[.int .u32 (numOf true (bitsAt false bs p (n + 1))), .int .u8 ((n : Int) + 1)] 116)).cell? ⟨w5.heap.size, 1, none⟩ = some (.int .u8 ((n : Int) + 1)) := by
              rw [← hz6]; simp only [World.cell?, hal]; rfl
            simp only [hc6, hwr]
            omega
    · obtain ⟨hnh, hnb⟩ := rx_none (fun a h => ha a ((HRT.out a).2 h))
      have HF := Lib.hid (show IsDec (rowsL L) (ofBits false bs) p 0 (p + n) 2 from ⟨n, rfl, by rw [length_ofBits]; exact hpn, HGO.out, Or.inr ⟨rfl, rfl, by rw [HBX.out]; exact hnh, Or.inl (by rw [HBX.out]; exact hnb)⟩⟩)
      have HR2 := Lib.hid (show ∀ q, RPost 64 w B ow bs (p + n) (wr.drewN q) from HRP.out.drewN)
      clear ha hnh hnb
      go_wp2_with fail
      go_quiet (fail)
      clear hrun
      go_wp2_with fail
      go_ret2
      exact ⟨0, p + n, 2, rfl, HF.out, HR2.out nq⟩
/-- GetLow. -/
theorem pre_lsb_get (T : Nat) (og og2 : Option Nat) (m : Nat) (L : List Nat) (B : Nat) (ow : Option Nat) (bs : List Nat) (p : Nat) (w : World) (ht : IsT w T og og2 m L) (hg : Good L) (hr : IsR 64 w B ow bs p) (hd : ∀ k, TB T og og2 m k → ¬ FP B ow k)
    (hl : bs.length ≤ 2 ^ 40) (hb : ∀ b ∈ bs, b < 256) (hp : p ≤ 8 * bs.length) :
    Calls Try.prog 55 #[.pointer (some ⟨T, 0, none⟩), .pointer (some ⟨B, 0, none⟩)] w fun e w' =>
      ∃ (s q : Nat) (er : Int), e = .returned (.tuple #[.int .i64 s, .int .i64 er]) ∧ IsDec (rowsL L) (ofBits false bs) p s q er ∧ RPost 64 w B ow bs q w' := by
  have HT := Lib.hid ht
  have HR := Lib.hid hr
  have HD := Lib.hid hd
  have HB := Lib.hid hb
  clear ht hr hd hb
  go_enter Try.func55, Try.ntmps55
  go_wp2_with fail
  refine (pre_lsb_read T og og2 m L B ow bs p _ HT.out hg HR.out HD.out hl HB.out hp).mono ?_
  rintro e w' ⟨s, q, er, rfl, hd, hr⟩
  have HP := Lib.hid hd
  have HQ := Lib.hid hr
  clear hd hr
  go_wp2_with fail
  go_ret2
  exact ⟨s, q, er, rfl, HP.out, HQ.out⟩
theorem pre_lsb_get_nil (T : Value) (R : Option Addr) (w : World) (hT : T = .pointer none ∨ R = none) (hp : ∃ a, T = .pointer a) :
    Calls Try.prog 55 #[T, .pointer R] w fun e w' => e = .returned (.tuple #[.int .i64 0, .int .i64 8]) ∧ w = w' := by
  have HT := Lib.hid hT
  have HP := Lib.hid hp
  clear hT hp
  go_enter Try.func55, Try.ntmps55
  go_wp2_with fail
  refine (pre_lsb_read_nil T R _ _ HT.out HP.out).mono ?_
  rintro e w' ⟨rfl, rfl⟩
  go_wp2_with fail
  go_ret2
  exact ⟨rfl, rfl⟩
end Go.Proofs.Ytbbcphloafmldaa
