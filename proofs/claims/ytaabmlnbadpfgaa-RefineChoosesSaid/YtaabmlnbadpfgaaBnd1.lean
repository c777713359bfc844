/- slices.stableCmpFunc and slices.SortStableFunc of ints: their walks. Rows of ints in new memory; the world behind the sort; the sort of nothing. limit.rarest: its walk. -/
import Derived.Test.YtaabmlnbadpfgaaLimMrg
import Derived.Test.YtaabmlnbadpfgaaLimPlain
/-! slices.stableCmpFunc and slices.SortStableFunc of ints: their walks. -/
namespace Go.Proofs.Ytaabmlnbadpfgaa
open Go.RowKit Go.Sort
set_option linter.unusedVariables false

def StA (F l0 : List Nat) (w : World) (blk off : Nat) (va vb : Value) (wr : World) : Prop :=
  ∃ (a b k : Nat) (E : Chs) (R : List Nat), va = .int .i64 a ∧ vb = .int .i64 b ∧ b = a + 20 ∧ a = (snds E).length ∧ l0 = fsts E ++ R ∧ OkC F E ∧ FullB 20 E ∧ wr = SW w blk off (snds E ++ R) k
def StB (F l0 : List Nat) (w : World) (blk off N : Nat) (vs : Value) (wr : World) : Prop :=
  ∃ (bs k : Nat) (G : Chs), vs = .int .i64 bs ∧ 20 ≤ bs ∧ bs ≤ 2 * N + 20 ∧ l0 = fsts G ∧ OkC F G ∧ Shp bs G ∧ wr = SW w blk off (snds G) k
def StC (F l0 : List Nat) (w : World) (blk off bs : Nat) (va vb : Value) (wr : World) : Prop :=
  ∃ (a b k : Nat) (E G : Chs), va = .int .i64 a ∧ vb = .int .i64 b ∧ b = a + 2 * bs ∧ a = (snds E).length ∧ l0 = fsts E ++ fsts G ∧ OkC F E ∧ FullB (2 * bs) E ∧ OkC F G ∧ Shp bs G ∧ wr = SW w blk off (snds E ++ snds G) k
/-- a block put in order. -/
theorem chunk_sorts {F l0 R : List Nat} {cb : Value} {blk off cap N a k : Nat} {w wr : World} {E : Chs} (hc : CmpAt F cb w blk off l0.length) (hH : Holds encN w blk off l0.toArray) (hN : N = l0.length) (hsz : l0.length ≤ 2 ^ 40) (hup : l0.Pairwise (· < ·)) (hF : ∀ x ∈ l0, x < F.length)
    (ha : a = (snds E).length) (hl : l0 = fsts E ++ R) (hok : OkC F E) (hwr : wr = SW w blk off (snds E ++ R) k) (n b : Nat) (hn : n ≤ R.length) (hb : b = a + n) :
    Calls Try.prog 70 #[.slice (some ⟨blk, off, none⟩) N cap, .int .i64 a, .int .i64 b, .func (.func 65) #[] #[cb]] wr fun e w' => e = .returned (.tuple #[]) ∧ ∃ M k, M.Perm (R.take n) ∧ M.Pairwise (Before F) ∧ w' = SW w blk off (snds E ++ M ++ R.drop n) k := by
  have hlen := hok.len
  rw [hwr, show snds E ++ R = snds E ++ R.take n ++ R.drop n by simp]
  have e1 : (snds E ++ R.take n ++ R.drop n).length = l0.length := by rw [hl]; simp; omega
  rw [hl, show fsts E ++ R = fsts E ++ R.take n ++ R.drop n by simp] at hup
  have h3 : (R.take n).Pairwise (· < ·) := (List.pairwise_append.1 (List.pairwise_append.1 hup).1).2.1
  exact lim_insertion F cb blk off cap l0 (snds E) (R.take n) (R.drop n) w k a b N hc hH hN e1 ha (by simp; omega) (fun x hx => hF x (by rw [hl]; exact List.mem_append_right _ (List.mem_of_mem_take hx))) h3 hsz
/-- two blocks put together. -/
theorem chunk_merges {F l0 : List Nat} {cb : Value} {blk off cap N a m b k : Nat} {w wr : World} {E G : Chs} {c d : List Nat × List Nat} (hc : CmpAt F cb w blk off l0.length) (hH : Holds encN w blk off l0.toArray) (hN : N = l0.length) (hsz : l0.length ≤ 2 ^ 40) (hup : l0.Pairwise (· < ·)) (hF : ∀ x ∈ l0, x < F.length)
    (ha : a = (snds E).length) (hl : l0 = fsts E ++ fsts (c :: d :: G)) (hok : OkC F E) (hok2 : OkC F (c :: d :: G)) (hwr : wr = SW w blk off (snds E ++ snds (c :: d :: G)) k) (hm : m = a + c.1.length) (hb : b = m + d.1.length) :
    Calls Try.prog 71 #[.slice (some ⟨blk, off, none⟩) N cap, .int .i64 a, .int .i64 m, .int .i64 b, .func (.func 65) #[] #[cb]] wr fun e w' => e = .returned (.tuple #[]) ∧ ∃ M k, M.Perm (c.1 ++ d.1) ∧ M.Pairwise (Before F) ∧ w' = SW w blk off (snds (E ++ [(c.1 ++ d.1, M)]) ++ snds G) k := by
  have hlen := hok.len
  obtain ⟨c1, c2, c3⟩ := hok2 c (List.mem_cons_self ..)
  obtain ⟨d1, d2, d3⟩ := hok2 d (List.mem_cons_of_mem _ (List.mem_cons_self ..))
  have hG : OkC F G := fun x hx => hok2 x (List.mem_cons_of_mem _ (List.mem_cons_of_mem _ hx))
  have hlG := hG.len
  have hlc := c1.length_eq
  have hld := d1.length_eq
  rw [hwr, snds_cons, snds_cons, show snds E ++ (c.2 ++ (d.2 ++ snds G)) = snds E ++ c.2 ++ d.2 ++ snds G by simp]
  rw [fsts_cons, fsts_cons, show fsts E ++ (c.1 ++ (d.1 ++ fsts G)) = fsts E ++ c.1 ++ d.1 ++ fsts G by simp] at hl
  have hup2 := hup
  rw [hl] at hup2
  obtain ⟨r1, _⟩ := rise_apart hup2
  refine (lim_merge F cb blk off cap l0 w hc hH hsz _ (snds E) c.2 d.2 (snds G) k a m b N (Nat.le_refl _) (by intro h; rw [h] at hlc; simp at hlc; omega) (by intro h; rw [h] at hld; simp at hld; omega) hN (by rw [hl]; simp; omega) ha (by simp; omega) (by simp; omega) (fun x hx => hF x ?_) (fun x hx y hy => r1 x (c1.mem_iff.1 hx) y (d1.mem_iff.1 hy)) c2 d2).mono ?_
  · rw [hl]
    rcases List.mem_append.1 hx with h | h
    · have := c1.mem_iff.1 h; simp [this]
    · have := d1.mem_iff.1 h; simp [this]
  · rintro e w' ⟨rfl, M, q, p1, p2, rfl⟩
    exact ⟨rfl, M, q, p1.trans (c1.append d1), p2, by rw [snds_append, snds_cons, snds_nil, List.append_nil]⟩

set_option maxRecDepth 1000000 in
set_option maxHeartbeats 2000000 in
theorem lim_stable (F : List Nat) (cb : Value) (blk off cap : Nat) (l0 : List Nat) (w : World) (N : Nat) (hc : CmpAt F cb w blk off l0.length) (hH : Holds encN w blk off l0.toArray) (hN : N = l0.length) (hsz : l0.length ≤ 2 ^ 40) (hup : l0.Pairwise (· < ·)) (hF : ∀ x ∈ l0, x < F.length) :
    Calls Try.prog 68 #[.slice (some ⟨blk, off, none⟩) N cap, .int .i64 N, .func (.func 65) #[] #[cb]] w fun e w' => e = .returned (.tuple #[]) ∧ ∃ M k, M.Perm l0 ∧ M.Pairwise (Before F) ∧ w' = SW w blk off M k := by
  have HSRT : Hid (∀ (wr : World) (R : List Nat) (E : Chs) (k a n b : Nat), a = (snds E).length → l0 = fsts E ++ R → OkC F E → wr = SW w blk off (snds E ++ R) k → n ≤ R.length → b = a + n →
      Calls Try.prog 70 #[.slice (some ⟨blk, off, none⟩) N cap, .int .i64 a, .int .i64 b, .func (.func 65) #[] #[cb]] wr fun e w' => e = .returned (.tuple #[]) ∧ ∃ M k, M.Perm (R.take n) ∧ M.Pairwise (Before F) ∧ w' = SW w blk off (snds E ++ M ++ R.drop n) k) :=
    fun wr R E k a n b h1 h2 h3 h4 h5 h6 => chunk_sorts hc hH hN hsz hup hF h1 h2 h3 h4 n b h5 h6
  have HMRG : Hid (∀ (wr : World) (E G : Chs) (c d : List Nat × List Nat) (k a m b : Nat), a = (snds E).length → l0 = fsts E ++ fsts (c :: d :: G) → OkC F E → OkC F (c :: d :: G) → wr = SW w blk off (snds E ++ snds (c :: d :: G)) k → m = a + c.1.length → b = m + d.1.length →
      Calls Try.prog 71 #[.slice (some ⟨blk, off, none⟩) N cap, .int .i64 a, .int .i64 m, .int .i64 b, .func (.func 65) #[] #[cb]] wr fun e w' => e = .returned (.tuple #[]) ∧ ∃ M k, M.Perm (c.1 ++ d.1) ∧ M.Pairwise (Before F) ∧ w' = SW w blk off (snds (E ++ [(c.1 ++ d.1, M)]) ++ snds G) k) :=
    fun wr E G c d k a m b h1 h2 h3 h4 h5 h6 h7 => chunk_merges hc hH hN hsz hup hF h1 h2 h3 h4 h5 h6 h7
  have HF : Hid (N = l0.length ∧ N ≤ 2 ^ 40) := ⟨hN, by omega⟩
  have HW : Hid (w = SW w blk off l0 0) := (SW_self hH).symm
  obtain ⟨w0, hw0⟩ : ∃ w0, w0 = w := ⟨_, rfl⟩
  have HW0 : Hid (w0 = w) := hw0
  have HRES : Hid (w0 = SW w blk off l0 0) := by rw [hw0]; exact HW.out
  clear hc hH hN hsz hup hF hw0 HW
  suffices hs : Calls Try.prog 68 #[.slice (some ⟨blk, off, none⟩) N cap, .int .i64 N, .func (.func 65) #[] #[cb]] w0 fun e w' => e = .returned (.tuple #[]) ∧ ∃ M k, M.Perm l0 ∧ M.Pairwise (Before F) ∧ w' = SW w blk off M k by
    rw [HW0.out] at hs
    exact hs
  clear HW0
  go_enter Try.func68, Try.ntmps68
  go_wp2_with fail
  go_loopw [7, 8] (fun va vb wr => StA F l0 w blk off va vb wr) (fun va vb _ => N - (intOf va).toNat)
  case atStart => exact ⟨0, 20, 0, [], l0, by go_num, by go_num, rfl, rfl, rfl, OkC.nil F, FullB.nil 20, by simpa [snds_nil] using HRES.out⟩
  case round =>
    obtain ⟨a, b, k, E, R, rfl, rfl, hb, ha, hl, hok, hfull, hwr⟩ := hrel
    have HI : Hid (b = a + 20 ∧ a = (snds E).length ∧ l0 = fsts E ++ R ∧ OkC F E ∧ FullB 20 E ∧ wr = SW w blk off (snds E ++ R) k) := ⟨hb, ha, hl, hok, hfull, hwr⟩
    have HB : Hid (N = a + R.length) := by
      have := hok.len; have := HF.out.1; rw [hl] at this; simp at this; show _ = _; omega
    clear hb ha hl hok hfull hwr
    by_cases hle : b ≤ N
    · have hlez : (b : Int) ≤ (N : Int) := by omega
      obtain ⟨b2, hb2⟩ : ∃ b2, b2 = b + 20 := ⟨_, rfl⟩
      have hw2 : IntKind.i64.wrap ((b : Int) + 20) = (b2 : Int) := by rw [show (b : Int) + 20 = ((b2 : Nat) : Int) by omega]; exact IntWalk.i64_in _ (by have := HF.out.2; omega)
      have HB2 : Hid (b2 = b + 20 ∧ b ≤ N) := ⟨hb2, hle⟩
      clear hb2 hle
      go_wp2_with fail
      refine (HSRT.out wr R E k a 20 b HI.out.2.1 HI.out.2.2.1 HI.out.2.2.2.1 HI.out.2.2.2.2.2 (by have := HB.out; have := HB2.out; have := HI.out.1; omega) HI.out.1).mono ?_
      rintro e w' ⟨rfl, M, k', hM, hMs, hw'⟩
      have HM : Hid (M.Perm (R.take 20) ∧ M.Pairwise (Before F) ∧ w' = SW w blk off (snds E ++ M ++ R.drop 20) k') := ⟨hM, hMs, hw'⟩
      clear hM hMs hw'
      go_wp2_with fail
      obtain ⟨i1, i2, i3, i4, i5, i6⟩ := HI.out
      obtain ⟨m1, m2, m3⟩ := HM.out
      have hn := HB.out
      have hb2 := HB2.out
      have hml := m1.length_eq
      have ht : (R.take 20).length = 20 := by rw [List.length_take]; omega
      refine ⟨⟨b, b2, k', E ++ [(R.take 20, M)], R.drop 20, rfl, rfl, hb2.1, by rw [snds_append, snds_cons, snds_nil]; simp; omega, by rw [i3, fsts_append, fsts_cons, fsts_nil]; simp, i4.append (OkC.one m1 m2 (by omega)), i5.snoc ht, by rw [m3, snds_append, snds_cons, snds_nil]; simp⟩, by simp [intOf]; omega⟩
    · have hlez : ¬ (b : Int) ≤ (N : Int) := by omega
      have HLE : Hid (¬ b ≤ N) := hle
      clear hle
      go_wp2_with fail
      refine (HSRT.out wr R E k a R.length N HI.out.2.1 HI.out.2.2.1 HI.out.2.2.2.1 HI.out.2.2.2.2.2 (Nat.le_refl _) HB.out).mono ?_
      rintro e w' ⟨rfl, M, k', hM, hMs, hw'⟩
      have HB0 : Hid (StB F l0 w blk off N (.int .i64 20) w') := by
        obtain ⟨i1, i2, i3, i4, i5, i6⟩ := HI.out
        have hn := HB.out
        have hle := HLE.out
        rw [List.take_length] at hM
        have hml := hM.length_eq
        by_cases hR : R = []
        · have hMe : M = [] := List.eq_nil_of_length_eq_zero (by rw [hml, hR]; rfl)
          exact ⟨20, k', E, rfl, Nat.le_refl _, by omega, by rw [i3, hR]; simp, i4, i5.shp, by rw [hw', hR, hMe]; simp⟩
        · have hRl := List.length_pos_iff.2 hR
          exact ⟨20, k', E ++ [(R, M)], rfl, Nat.le_refl _, by omega, by rw [i3, fsts_append, fsts_cons, fsts_nil]; simp, i4.append (OkC.one hM hMs hRl), i5.shp_last (by show R.length ≤ 20; omega), by rw [hw', snds_append, snds_cons, snds_nil]; simp⟩
      clear hM hMs hw'
      go_wp2_with fail
      go_loopw [6] (fun vs wr => StB F l0 w blk off N vs wr) (fun vs _ => 2 * N + 20 - (intOf vs).toNat)
      case atStart => exact HB0.out
      case round =>
        obtain ⟨bs, k2, G, rfl, hbs, hbs2, hl, hok, hshp, hwr⟩ := hrel
        have HJ : Hid (20 ≤ bs ∧ bs ≤ 2 * N + 20 ∧ l0 = fsts G ∧ OkC F G ∧ Shp bs G ∧ wr = SW w blk off (snds G) k2) := ⟨hbs, hbs2, hl, hok, hshp, hwr⟩
        clear hbs hbs2 hl hok hshp hwr
        by_cases hlt : bs < N
        · have hltz : (bs : Int) < (N : Int) := by omega
          obtain ⟨b2, hb2⟩ : ∃ b2, b2 = 2 * bs := ⟨_, rfl⟩
          have w2 : IntKind.i64.wrap (2 * (bs : Int)) = (b2 : Int) := by rw [show 2 * (bs : Int) = ((b2 : Nat) : Int) by omega]; exact IntWalk.i64_in _ (by have := HF.out; omega)
          have w3 : IntKind.i64.wrap ((bs : Int) * 2) = (b2 : Int) := by rw [show (bs : Int) * 2 = ((b2 : Nat) : Int) by omega]; exact IntWalk.i64_in _ (by have := HF.out; omega)
          have HBS : Hid (b2 = 2 * bs ∧ bs < N) := ⟨hb2, hlt⟩
          clear hb2 hlt
          go_wp2_with fail
          go_loopw [7, 8] (fun va vb wr => StC F l0 w blk off bs va vb wr) (fun va vb _ => N - (intOf va).toNat)
          case atStart => exact ⟨0, b2, k2, [], G, by go_num, rfl, by have := HBS.out.1; omega, rfl, by rw [HJ.out.2.2.1]; rfl, OkC.nil F, FullB.nil _, HJ.out.2.2.2.1, HJ.out.2.2.2.2.1, HJ.out.2.2.2.2.2⟩
          case round =>
            obtain ⟨a, b, k3, E3, G3, rfl, rfl, hb, ha, hl, hok, hfull, hokG, hshp, hwr⟩ := hrel
            have HK : Hid (b = a + 2 * bs ∧ a = (snds E3).length ∧ l0 = fsts E3 ++ fsts G3 ∧ OkC F E3 ∧ FullB (2 * bs) E3 ∧ OkC F G3 ∧ Shp bs G3 ∧ wr = SW w blk off (snds E3 ++ snds G3) k3) := ⟨hb, ha, hl, hok, hfull, hokG, hshp, hwr⟩
            have HB3 : Hid (N = a + (fsts G3).length) := by
              have := hok.len; have := HF.out.1; rw [hl] at this; simp at this; show _ = _; omega
            clear hb ha hl hok hfull hokG hshp hwr
            obtain ⟨m, hm⟩ : ∃ m, m = a + bs := ⟨_, rfl⟩
            have w4 : IntKind.i64.wrap ((a : Int) + (bs : Int)) = (m : Int) := by rw [show (a : Int) + (bs : Int) = ((m : Nat) : Int) by omega]; exact IntWalk.i64_in _ (by have := HF.out; have := HBS.out; have := HB3.out; omega)
            have HM0 : Hid (m = a + bs) := hm
            clear hm
            by_cases hle : b ≤ N
            · have hlez : (b : Int) ≤ (N : Int) := by omega
              obtain ⟨b3, hb3⟩ : ∃ b3, b3 = b + b2 := ⟨_, rfl⟩
              have w5 : IntKind.i64.wrap ((b : Int) + (b2 : Int)) = (b3 : Int) := by rw [show (b : Int) + (b2 : Int) = ((b3 : Nat) : Int) by omega]; exact IntWalk.i64_in _ (by have := HF.out; have := HBS.out; omega)
              have HB4 : Hid (b3 = b + b2 ∧ b ≤ N) := ⟨hb3, hle⟩
              clear hb3 hle
              obtain ⟨c, d, G4, hG4, hcl, hdl, hshp4⟩ : ∃ c d G4, G3 = c :: d :: G4 ∧ c.1.length = bs ∧ d.1.length = bs ∧ Shp bs G4 :=
                HK.out.2.2.2.2.2.2.1.two HK.out.2.2.2.2.2.1 (by have := HB3.out; have := HB4.out; have := HK.out.1; omega) (by have := HJ.out.1; omega)
              have HG4 : Hid (G3 = c :: d :: G4 ∧ c.1.length = bs ∧ d.1.length = bs ∧ Shp bs G4) := ⟨hG4, hcl, hdl, hshp4⟩
              clear hG4 hcl hdl hshp4
              go_wp2_with fail
              refine (HMRG.out wr E3 G4 c d k3 a m b HK.out.2.1 (by rw [← HG4.out.1]; exact HK.out.2.2.1) HK.out.2.2.2.1 (by rw [← HG4.out.1]; exact HK.out.2.2.2.2.2.1) (by rw [← HG4.out.1]; exact HK.out.2.2.2.2.2.2.2) (by rw [HG4.out.2.1]; exact HM0.out) (by have := HM0.out; have := HK.out.1; have := HG4.out.2.2.1; omega)).mono ?_
              rintro e w' ⟨rfl, M, k', hM, hMs, hw'⟩
              have HM : Hid (M.Perm (c.1 ++ d.1) ∧ M.Pairwise (Before F) ∧ w' = SW w blk off (snds (E3 ++ [(c.1 ++ d.1, M)]) ++ snds G4) k') := ⟨hM, hMs, hw'⟩
              clear hM hMs hw'
              go_wp2_with fail
              obtain ⟨i1, i2, i3, i4, i5, i6, i7, i8⟩ := HK.out
              obtain ⟨m1, m2, m3⟩ := HM.out
              obtain ⟨g1, g2, g3, g4⟩ := HG4.out
              have hml := m1.length_eq
              have hbs := HBS.out
              have hbb := HB4.out
              have hj := HJ.out.1
              rw [List.length_append] at hml
              rw [g1] at i3 i6
              refine ⟨⟨b, b3, k', E3 ++ [(c.1 ++ d.1, M)], G4, rfl, rfl, by omega, by rw [snds_append, snds_cons, snds_nil]; simp; omega, by rw [i3, fsts_append, fsts_cons, fsts_cons, fsts_cons, fsts_nil]; simp, i4.append (OkC.one m1 m2 (by rw [List.length_append]; omega)), i5.snoc (by show (c.1 ++ d.1).length = 2 * bs; rw [List.length_append]; omega), fun x hx => i6 x (List.mem_cons_of_mem _ (List.mem_cons_of_mem _ hx)), g4, m3⟩, by simp [intOf]; omega⟩
            · have hlez : ¬ (b : Int) ≤ (N : Int) := by omega
              have HLE3 : Hid (¬ b ≤ N) := hle
              clear hle
              by_cases hmn : m < N
              · have hmz : (m : Int) < (N : Int) := by omega
                obtain ⟨c, d, hG4, hcl, hdl⟩ : ∃ c d, G3 = [c, d] ∧ c.1.length = bs ∧ d.1.length < bs :=
                  HK.out.2.2.2.2.2.2.1.more HK.out.2.2.2.2.2.1 (by have := HB3.out; have := HM0.out; omega) (by have := HB3.out; have := HLE3.out; have := HK.out.1; omega)
                have HG4 : Hid (G3 = [c, d] ∧ c.1.length = bs ∧ d.1.length < bs) := ⟨hG4, hcl, hdl⟩
                have HND : Hid (N = m + d.1.length) := by
                  have := HB3.out; have := HM0.out; rw [hG4, fsts_cons, fsts_cons, fsts_nil] at *; simp at *; show _ = _; omega
                clear hG4 hcl hdl hmn
                go_wp2_with fail
                refine (HMRG.out wr E3 [] c d k3 a m N HK.out.2.1 (by rw [← HG4.out.1]; exact HK.out.2.2.1) HK.out.2.2.2.1 (by rw [← HG4.out.1]; exact HK.out.2.2.2.2.2.1) (by rw [← HG4.out.1]; exact HK.out.2.2.2.2.2.2.2) (by rw [HG4.out.2.1]; exact HM0.out) HND.out).mono ?_
                rintro e w' ⟨rfl, M, k', hM, hMs, hw'⟩
                have HM : Hid (M.Perm (c.1 ++ d.1) ∧ M.Pairwise (Before F) ∧ w' = SW w blk off (snds (E3 ++ [(c.1 ++ d.1, M)]) ++ snds []) k') := ⟨hM, hMs, hw'⟩
                clear hM hMs hw'
                go_wp2_with fail
                obtain ⟨i1, i2, i3, i4, i5, i6, i7, i8⟩ := HK.out
                obtain ⟨m1, m2, m3⟩ := HM.out
                obtain ⟨g1, g2, g3⟩ := HG4.out
                have hbs := HBS.out
                have hj := HJ.out
                rw [g1] at i3
                refine ⟨⟨b2, k', E3 ++ [(c.1 ++ d.1, M)], rfl, by omega, by omega, by rw [i3, fsts_append, fsts_cons, fsts_cons, fsts_cons, fsts_nil]; simp, i4.append (OkC.one m1 m2 (by rw [List.length_append]; omega)), by rw [hbs.1]; exact i5.shp_last (by show (c.1 ++ d.1).length ≤ 2 * bs; rw [List.length_append]; omega), by rw [m3, snds_nil, List.append_nil]⟩, by simp [intOf]; omega⟩
              · have hmz : ¬ (m : Int) < (N : Int) := by omega
                have HMN : Hid (¬ m < N) := hmn
                clear hmn
                go_wp2_with fail
                obtain ⟨i1, i2, i3, i4, i5, i6, i7, i8⟩ := HK.out
                have hbs := HBS.out
                have hj := HJ.out
                have hb3 := HB3.out
                have hm0 := HM0.out
                have hmn := HMN.out
                have hsh : Shp (2 * bs) (E3 ++ G3) := by
                  rcases i7.one i6 (by omega) with rfl | ⟨c, rfl⟩
                  · rw [List.append_nil]; exact i5.shp
                  · have h7 : c.1.length ≤ bs := i7
                    exact i5.shp_last (by omega)
                refine ⟨⟨b2, k3, E3 ++ G3, rfl, by omega, by omega, by rw [i3, fsts_append], i4.append i6, by rw [hbs.1]; exact hsh, by rw [i8, snds_append]⟩, by simp [intOf]; omega⟩
        · have hltz : ¬ (bs : Int) < (N : Int) := by omega
          go_wp2_with fail
          go_end0
          obtain ⟨j1, j2, j3, j4, j5, j6⟩ := HJ.out
          have hs : (snds G).Pairwise (Before F) := j5.sorted j4 (by rw [← j3, ← HF.out.1]; omega)
          have hp : (snds G).Perm l0 := by rw [j3]; exact j4.perm
          first | exact ⟨rfl, snds G, k2, hp, hs, j6⟩ | exact ⟨rfl, snds G, hp, hs, k2, j6⟩

theorem lim_sortStable (F : List Nat) (cb : Value) (blk off cap : Nat) (l0 : List Nat) (w : World) (N : Nat) (hc : CmpAt F cb w blk off l0.length) (hH : Holds encN w blk off l0.toArray) (hN : N = l0.length) (hsz : l0.length ≤ 2 ^ 40) (hup : l0.Pairwise (· < ·)) (hF : ∀ x ∈ l0, x < F.length) :
    Calls Try.prog 64 #[.slice (some ⟨blk, off, none⟩) N cap, .func (.func 65) #[] #[cb]] w fun e w' => e = .returned (.tuple #[]) ∧ ∃ M k, M.Perm l0 ∧ M.Pairwise (Before F) ∧ w' = SW w blk off M k := by
  have hs : Hid (Calls Try.prog 68 #[.slice (some ⟨blk, off, none⟩) N cap, .int .i64 N, .func (.func 65) #[] #[cb]] w fun e w' => e = .returned (.tuple #[]) ∧ ∃ M k, M.Perm l0 ∧ M.Pairwise (Before F) ∧ w' = SW w blk off M k) := lim_stable F cb blk off cap l0 w N hc hH hN hsz hup hF
  clear hc hH hN hsz hup hF
  go_enter Try.func64, Try.ntmps64
  go_wp2_with fail
  refine Calls.mono hs.out ?_
  rintro e w' ⟨rfl, M, k', hM, hMs, hw'⟩
  have HM : Hid (M.Perm l0 ∧ M.Pairwise (Before F) ∧ w' = SW w blk off M k') := ⟨hM, hMs, hw'⟩
  clear hM hMs hw'
  go_wp2_with fail
  go_end0
  obtain ⟨h1, h2, h3⟩ := HM.out
  first | exact ⟨rfl, M, k', h1, h2, h3⟩ | exact ⟨rfl, M, h1, h2, k', h3⟩
end Go.Proofs.Ytaabmlnbadpfgaa

/-! Rows of ints in new memory; the world behind the sort; the sort of nothing. -/
namespace Go.Proofs.Ytaabmlnbadpfgaa
open Go.RowKit Go.Sort
set_option linter.unusedVariables false

/-- ints in new memory. -/
def IOn (w : World) (acc : List Nat) (ov : Value) (wr : World) : Prop := ∃ og, Owns wr 3 1 ov og acc.length (intsL acc) ∧ (∀ g, og = some g → w.heap.size ≤ g) ∧ Ext w wr
theorem intsL_append (a b : List Nat) : intsL (a ++ b) = intsL a ++ intsL b := by simp [intsL]
theorem IOn.nil (w : World) : IOn w [] (.slice none 0 0) w := ⟨none, Owns.nil _ _ _, fun g e => (by cases e), Ext.refl w⟩
theorem IOn.ext {w wr w' : World} {acc : List Nat} {ov : Value} (h : IOn w acc ov wr) (hx : Ext wr w') : IOn w acc ov w' := by
  obtain ⟨og, h1, h2, h3⟩ := h
  exact ⟨og, h1.ext' hx, h2, h3.trans hx⟩
theorem IOn.pre {w w0 wr : World} {acc : List Nat} {ov : Value} (h : IOn w0 acc ov wr) (hx : Ext w w0) : IOn w acc ov wr := by
  obtain ⟨og, h1, h2, h3⟩ := h
  exact ⟨og, h1, fun g e => Nat.le_trans hx.size (h2 g e), hx.trans h3⟩
theorem IOn.toExt {w wr : World} {l : List Nat} {v : Value} (h : IOn w l v wr) : Ext w wr := h.choose_spec.2.2
theorem IOn.viewL {w wr : World} {l : List Nat} {v : Value} (h : IOn w l v wr) : ViewL wr v (intsL l) := h.choose_spec.1.viewL
theorem IOn.shape {w wr : World} {l : List Nat} {v : Value} (h : IOn w l v wr) : ∃ ao cap, v = .slice ao l.length cap := h.choose_spec.1.shape
theorem io_snoc {w w1 w2 : World} {acc : List Nat} {ov v' : Value} {y : Nat} {o : Obj} (h : IOn w acc ov w1) (hown' : w2.ownsRow 0 3 1 v' (acc.length + 1) (intsL acc ++ [.int .i64 y]))
    (hgrow : (w1.alloc o).grownBy w2 ov.ownBlock) (hat : v'.ownBlock = ov.ownBlock ∨ v'.ownBlock = some (w1.heap.size + 1)) : IOn w (acc ++ [y]) v' w2 := by
  obtain ⟨og, h1, h2, h3⟩ := h
  refine ⟨v'.ownBlock, ⟨by rw [intsL_append, List.length_append]; exact hown', rfl⟩, fun g e => ?_, Touch.grown (h3.alloc _) hgrow (fun i e => Or.inr (h2 i (by rw [← h1.2]; exact e)))⟩
  rcases hat with hat | hat
  · rw [hat, h1.2] at e; exact h2 g e
  · rw [hat] at e; cases e; have := h3.size; omega
theorem news (w : World) (cs : List Value) (e : TypeId) (fr : Nat × Nat) : ∀ j u, cs[j]? = some u → (w.alloc (.cells cs.toArray e fr)).cell? ((⟨w.heap.size, 0, none⟩ : Addr).add j) = some u := by
  intro j u hu
  have e2 : (⟨w.heap.size, 0, none⟩ : Addr).add j = ⟨w.heap.size, j, none⟩ := by unfold Addr.add; split <;> simp_all
  rw [e2, World.cell?, heap_alloc_new]
  simpa using hu
theorem info_int : (Try.prog.info? 3).map (fun i => (i.zero, i.size, i.bytes)) = some (some (.int .i64 0), 1, 8) := by kernel_rfl
/-- where the world in which a row is sorted is as it was. -/
theorem SW_heap (w : World) (blk off : Nat) (l : List Nat) (m k : Nat) (h : k ≠ blk) : (SW w blk off l m).heap[k]? = w.heap[k]? := by
  have : blk ≠ k := fun e => h e.symm
  simp [SW, putRow, mapBlock, World.drewN, Array.getElem?_modify, this]
theorem SW_size (w : World) (blk off : Nat) (l : List Nat) (m : Nat) : (SW w blk off l m).heap.size = w.heap.size := by
  simp [SW, putRow, mapBlock, World.drewN]
theorem SW_touch (w : World) (blk off : Nat) (l : List Nat) (m : Nat) : Touch (fun k => k = blk) w (SW w blk off l m) :=
  ⟨rfl, rfl, rfl, by rw [SW_size]; exact Nat.le_refl _, fun k _ hk => SW_heap w blk off l m k hk⟩
theorem take_putN (cur : Array Value) (ts : List Nat) (h : ts.length ≤ cur.size) : (putCells encN 0 ts.toArray cur).toList.take ts.length = intsL ts := by
  apply List.ext_getElem?
  intro j
  by_cases hj : j < ts.length
  · rw [List.getElem?_take_of_lt hj, Array.getElem?_toList]
    simp [putCells, hj, show j < cur.size by omega, intsL, encN]
  · rw [List.getElem?_take_eq_none (by omega), List.getElem?_eq_none (by simp [intsL]; omega)]
theorem SW_owns {w : World} {g cap n : Nat} {acc M : List Nat} (h : Owns w 3 1 (.slice (some ⟨g, 0, none⟩) n cap) (some g) acc.length (intsL acc)) (hM : M.length = acc.length) (m : Nat) :
    Owns (SW w g 0 M m) 3 1 (.slice (some ⟨g, 0, none⟩) n cap) (some g) M.length (intsL M) := by
  rcases h.form with ⟨h1, _⟩ | ⟨g', cap', cur, h1, h2, hh, hn, hm, hs, ht⟩
  · cases h1
  · cases h1
    cases h2
    have hb : (SW w g 0 M m).heap[g]? = some (.cells (putCells encN 0 M.toArray cur) 3 (0, 0)) := by
      simp [SW, putRow, mapBlock, World.drewN, Array.getElem?_modify, hh, onCells]
    refine ⟨⟨by simp [intsL], Or.inr ⟨g, cap, _, by rw [hM], Nat.zero_le _, hb, by omega, hm, by simp [putCells, hs], by rw [Nat.mul_one]; exact take_putN cur M (by omega)⟩⟩, rfl⟩
theorem holds_own {w : World} {g cap n : Nat} {acc : List Nat} (h : Owns w 3 1 (.slice (some ⟨g, 0, none⟩) n cap) (some g) acc.length (intsL acc)) : Holds encN w g 0 acc.toArray := by
  intro j hj
  have hj' : j < acc.length := by simpa using hj
  refine ⟨?_, ?_⟩
  · rw [get_toArray, Nat.zero_add]
    refine h.cell j _ ?_
    simp [intsL, encN, hj', List.getD]
  · rw [Nat.zero_add]; exact h.free j
theorem lim_insertion_nil (ao : Option Addr) (cap : Nat) (fv : Value) (w : World) :
    Calls Try.prog 70 #[.slice ao 0 cap, .int .i64 0, .int .i64 0, fv] w fun e w' => e = .returned (.tuple #[]) ∧ w' = w := by
  go_enter Try.func70, Try.ntmps70
  go_wp2_with fail
  go_loopw [8] (fun vi wr => vi = .int .i64 1 ∧ wr = w) (fun vi _ => 0)
  case atStart => exact ⟨by go_num, rfl⟩
  case round =>
    obtain ⟨rfl, rfl⟩ := hrel
    go_wp2_with fail
    go_end0
    exact ⟨rfl, rfl⟩
theorem lim_stable_nil (ao : Option Addr) (cap : Nat) (fv : Value) (w : World) :
    Calls Try.prog 68 #[.slice ao 0 cap, .int .i64 0, fv] w fun e w' => e = .returned (.tuple #[]) ∧ w' = w := by
  go_enter Try.func68, Try.ntmps68
  go_wp2_with fail
  go_loopw [7, 8] (fun va vb wr => va = .int .i64 0 ∧ vb = .int .i64 20 ∧ wr = w) (fun va vb _ => 0)
  case atStart => exact ⟨by go_num, by go_num, rfl⟩
  case round =>
    obtain ⟨rfl, rfl, rfl⟩ := hrel
    go_wp2_with fail
    refine (lim_insertion_nil ao cap fv wr).mono ?_
    rintro e w' ⟨rfl, rfl⟩
    go_wp2_with fail
    go_loopw [6] (fun vs wr => vs = .int .i64 20 ∧ wr = w') (fun vs _ => 0)
    case atStart => exact ⟨by go_num, rfl⟩
    case round =>
      obtain ⟨rfl, rfl⟩ := hrel
      go_wp2_with fail
      go_end0
      exact ⟨rfl, rfl⟩
theorem lim_sort_nil (ao : Option Addr) (cap : Nat) (fv : Value) (w : World) :
    Calls Try.prog 64 #[.slice ao 0 cap, fv] w fun e w' => e = .returned (.tuple #[]) ∧ w' = w := by
  go_enter Try.func64, Try.ntmps64
  go_wp2_with fail
  refine (lim_stable_nil ao cap fv w).mono ?_
  rintro e w' ⟨rfl, rfl⟩
  go_wp2_with fail
  go_end0
  exact ⟨rfl, rfl⟩
end Go.Proofs.Ytaabmlnbadpfgaa

/-! limit.rarest: its walk. -/
namespace Go.Proofs.Ytaabmlnbadpfgaa
open Go.RowKit Go.Sort
set_option linter.unusedVariables false

/-- the symbols that occur, of the first i. -/
def symsUp (F : List Nat) (i : Nat) : List Nat := (List.range i).filter fun s => decide (0 < F.getD s 0)
theorem symsUp_succ (F : List Nat) (i : Nat) : symsUp F (i + 1) = if 0 < F.getD i 0 then symsUp F i ++ [i] else symsUp F i := by
  rw [symsUp, List.range_succ, List.filter_append]
  by_cases h : 0 < F.getD i 0
  · rw [if_pos h]; simp only [symsUp, List.filter_cons, decide_eq_true h]; rfl
  · rw [if_neg h]; simp only [symsUp, List.filter_cons, decide_eq_false h]; exact List.append_nil _
theorem symsUp_len (F : List Nat) (i : Nat) : (symsUp F i).length ≤ i := by
  have := List.length_filter_le (fun s => decide (0 < F.getD s 0)) (List.range i)
  rw [List.length_range] at this
  exact this
theorem symsUp_mem {F : List Nat} {i s : Nat} : s ∈ symsUp F i ↔ s < i ∧ 0 < F.getD s 0 := by
  rw [symsUp, List.mem_filter, List.mem_range, decide_eq_true_iff]
theorem symsUp_rise (F : List Nat) (i : Nat) : (symsUp F i).Pairwise (· < ·) := List.Pairwise.filter _ List.pairwise_lt_range
theorem symsUp_ord {F M : List Nat} (h : M.Perm (symsUp F F.length)) (h2 : M.Pairwise (Before F)) : IsOrd F M := ⟨h2, fun s => by rw [h.mem_iff, symsUp_mem]⟩

/-- where the gathering stands. -/
def RaI (F : List Nat) (N : Nat) (wb : World) (ov vi : Value) (wr : World) : Prop := ∃ (i nn ocap : Nat) (oa : Option Addr), vi = .int .i64 i ∧ ov = .slice oa nn ocap ∧ i ≤ N ∧ nn = (symsUp F i).length ∧ IOn wb (symsUp F i) (.slice oa nn ocap) wr
set_option maxHeartbeats 2000000 in
set_option maxRecDepth 100000 in
theorem lim_rarest (v : Value) (F : List Nat) (w : World) (hv : ViewL w v (intsL F)) (hl : F.length ≤ 2 ^ 20) :
    Calls Try.prog 59 #[v] w fun e w' => ∃ P ov, e = .returned ov ∧ IsOrd F P ∧ IOn w P ov w' := by
  obtain ⟨i0, hi, hz0, hz1, hz2⟩ := info_parts info_int
  obtain ⟨ao, cap, rfl⟩ := hv.shape
  rw [length_intsL] at *
  obtain ⟨N, hN⟩ : ∃ N, N = F.length := ⟨_, rfl⟩
  rw [← hN] at hv hl ⊢
  have HN : Hid (N = F.length ∧ N ≤ 2 ^ 20) := ⟨hN, hl⟩
  obtain ⟨wb, hwb⟩ : ∃ wb, wb = w.alloc (.cells #[.slice ao N cap] 23) := ⟨_, rfl⟩
  have hxb : Ext w wb := by rw [hwb]; exact (Ext.refl w).alloc _
  have HX : Hid (Ext w wb) := hxb
  have HBX : Hid (∀ wr, Ext wb wr → Boxed wr w.heap.size 23 (.slice ao N cap)) := fun wr hx => by
    refine hx.keep (b := w.heap.size) ?_ (fun f => f)
    rw [hwb]; exact heap_alloc_new w _
  have HV : Hid (∀ wr, Ext wb wr → ViewL wr (.slice ao N cap) (intsL F)) := fun wr hx => (hv.ext hxb).ext hx
  have HC : Hid (∀ wr, Ext wb wr → ∀ j, j < N → ∃ b o, ao = some ⟨b, o, none⟩ ∧ wr.cell? ⟨b, o + j, none⟩ = some (.int .i64 (F.getD j 0 : Nat))) := fun wr hx j hj => by
    obtain ⟨b, o, rfl, _, hc⟩ := viewL_cells ((hv.ext hxb).ext hx) (by rw [length_intsL]; omega)
    exact ⟨b, o, rfl, hc j _ (by rw [hN] at hj; simp [intsL, hj, List.getD])⟩
  have hNz : (N : Int) < 4611686018427387904 := by omega
  have HNIL : Hid (IOn wb [] (.slice none 0 0) wb) := IOn.nil wb
  have HB0 : Hid (Boxed wb w.heap.size 23 (.slice ao N cap)) := HBX.out wb (Ext.refl wb)
  have HWB : Hid (wb = w.alloc (.cells #[.slice ao N cap] 23)) := hwb
  clear hwb hxb hv hN hl
  go_enter Try.func59, Try.ntmps59
  go_wp2_with fail
  go_loopw [3, 8] (fun ov vi wr => RaI F N wb ov vi wr) (fun _ vi _ => N - (intOf vi).toNat)
  case atStart => exact ⟨0, 0, 0, none, by go_num, rfl, Nat.zero_le _, rfl, by rw [← HWB.out]; exact HNIL.out⟩
  case round =>
    obtain ⟨i, nn, ocap, oa, rfl, rfl, hiN, hnn, hio⟩ := hrel
    have HIO : Hid (IOn wb (symsUp F i) (.slice oa nn ocap) wr) := hio
    have HNN : Hid (nn = (symsUp F i).length ∧ nn ≤ i) := ⟨hnn, by rw [hnn]; exact symsUp_len F i⟩
    clear hio hnn
    by_cases hlt : i < N
    · have hltz : (i : Int) < (N : Int) := by omega
      obtain ⟨b, o, rfl, hc⟩ := HC.out wr HIO.out.toExt i hlt
      obtain ⟨x, hx⟩ : ∃ x, x = F.getD i 0 := ⟨_, rfl⟩
      rw [← hx] at hc
      have HXX : Hid (x = F.getD i 0 ∧ i < N) := ⟨hx, hlt⟩
      clear hx
      by_cases hpos : 0 < x
      · have hpz : (0 : Int) < (x : Int) := by omega
        have HS : Hid (symsUp F (i + 1) = symsUp F i ++ [i]) := by
          have := symsUp_succ F i
          rw [if_pos (by rw [← HXX.out.1]; exact hpos)] at this
          exact this
        have hlen : nn + 1 ≤ 1048576 := by have := HNN.out; have := HN.out; omega
        go_wp2_with (at_builtin; go_must (refine wpList_append_own_at _ rfl (.tmp 15) (.tmp 17) 23 rfl 0 3 i0 (.int .i64 0) 1 8 Try.underlying23 hi hz0 hz1 hz2 rfl (by decide) _ nn (intsL (symsUp F i)) rfl (by have := HIO.out.choose_spec.1.1.alloc (.cells #[.int .i64 i] 3); rw [← HNN.out.1] at this; exact this) ⟨wr.heap.size, 0, none⟩ 1 1 [.int .i64 i] rfl rfl (news _ _ _ _) (by simp [Value.oneCell']) (by unfold maxLen; omega) (by omega) (Nat.zero_le _) ?_))
        intro v' w5 hown' hgrow _ hat
        have HIO5 : Hid (IOn wb (symsUp F (i + 1)) v' w5) := by
          rw [HS.out]
          exact io_snoc HIO.out (by rw [← HNN.out.1]; exact hown') hgrow hat
        obtain ⟨a5, c5, rfl⟩ : ∃ a5 c5, v' = .slice a5 (nn + 1) c5 := by
          obtain ⟨a5, c5, e5⟩ := HIO5.out.shape
          exact ⟨a5, c5, by rw [e5, HS.out, List.length_append, ← HNN.out.1]; rfl⟩
        clear hown' hgrow hat hc hlen
        go_wp2_with fail
        exact ⟨⟨i + 1, nn + 1, c5, a5, by go_num, rfl, by have := HXX.out; omega, by rw [HS.out, List.length_append, ← HNN.out.1]; rfl, HIO5.out⟩, by simp [intOf]; have := HXX.out; omega⟩
      · have hpz : ¬ (0 : Int) < (x : Int) := by omega
        have HS : Hid (symsUp F (i + 1) = symsUp F i) := by
          have := symsUp_succ F i
          rw [if_neg (by rw [← HXX.out.1]; exact hpos)] at this
          exact this
        go_wp2_with fail
        exact ⟨⟨i + 1, nn, ocap, oa, by go_num, rfl, by have := HXX.out; omega, by rw [HS.out]; exact HNN.out.1, by rw [HS.out]; exact HIO.out⟩, by simp [intOf]; have := HXX.out; omega⟩
    · have hltz : ¬ (i : Int) < (N : Int) := by omega
      have HIN : Hid (i = N) := (by omega : i = N)
      have hcall : Calls Try.prog 64 #[.slice oa nn ocap, .func (.func 65) #[] #[.pointer (some ⟨w.heap.size, 0, none⟩)]] wr fun e w' => e = .returned (.tuple #[]) ∧ ∃ P, IsOrd F P ∧ IOn wb P (.slice oa nn ocap) w' := by
        have hi2 := HIO.out
        have hn2 := HNN.out.1
        rw [HIN.out, HN.out.1] at hi2 hn2
        by_cases h0 : nn = 0
        · subst h0
          refine (lim_sort_nil oa ocap _ wr).mono ?_
          rintro e w' ⟨rfl, rfl⟩
          have he : symsUp F F.length = [] := List.eq_nil_of_length_eq_zero hn2.symm
          refine ⟨rfl, [], symsUp_ord (by rw [he]) List.Pairwise.nil, by rw [he] at hi2; exact hi2⟩
        · obtain ⟨og, ho, hog, hx⟩ := hi2
          rcases ho.form with ⟨_, _, h3, _⟩ | ⟨g, cap', cur, h1, h2, h3, _⟩
          · omega
          · cases h2
            subst h1
            have hgn := hog g rfl
            have hsz : (symsUp F F.length).length ≤ 2 ^ 40 := by have := symsUp_len F F.length; have := HN.out; omega
            have hcmp : CmpAt F (.pointer (some ⟨w.heap.size, 0, none⟩)) wr g 0 (symsUp F F.length).length := by
              intro l m x y hl hx1 hy1
              have hbb := HBX.out wr hx
              have hbn : w.heap.size ≠ g := by have h9 := HB0.out; have := block_lt h9; omega
              have hbox : Boxed (SW wr g 0 l m) w.heap.size 23 (.slice ao N cap) := by
                exact (SW_touch wr g 0 l m).keep hbb hbn
              have hvv : ViewL (SW wr g 0 l m) (.slice ao N cap) (intsL F) := by
                have hv1 := HV.out wr hx
                refine hv1.keep (SW_touch wr g 0 l m) (fun b o n c e hb => ?_)
                cases e
                have h8 := HV.out wb (Ext.refl wb)
                by_cases hN0 : N = 0
                · have := HN.out; omega
                · obtain ⟨b2, o2, e2, _, hc2⟩ := viewL_cells h8 (by rw [length_intsL]; have := HN.out; omega)
                  cases e2
                  have hcell := hc2 0 _ (List.getElem?_eq_getElem (by rw [length_intsL]; have := HN.out; omega))
                  have := World.block_lt_of_cell? _ _ hcell
                  simp at this hb
                  omega
              exact lim_by F w.heap.size (.slice ao N cap) x y (SW wr g 0 l m) hbox hvv hx1 hy1 (by have := HN.out; omega)
            refine (lim_sortStable F (.pointer (some ⟨w.heap.size, 0, none⟩)) g 0 ocap (symsUp F F.length) wr _ hcmp (holds_own (n := _) (cap := ocap) (by first | exact ho)) hn2 hsz (symsUp_rise F _) (fun x hx => (symsUp_mem.1 hx).1)).mono ?_
            rintro e w' ⟨rfl, M, k, hM, hMs, rfl⟩
            refine ⟨rfl, M, symsUp_ord hM hMs, ?_⟩
            exact ⟨some g, SW_owns (by exact ho) hM.length_eq k, hog, hx.touch (SW_touch wr g 0 M k) (fun i hi e => by omega)⟩
      clear hlt
      go_wp2_with fail
      refine hcall.mono ?_
      clear hcall
      rintro e w' ⟨rfl, P, hP, hio⟩
      have HP : Hid (IsOrd F P ∧ IOn wb P (.slice oa nn ocap) w') := ⟨hP, hio⟩
      clear hP hio
      go_wp2_with fail
      go_ret
      exact ⟨P, _, rfl, HP.out.1, HP.out.2.pre HX.out⟩
end Go.Proofs.Ytaabmlnbadpfgaa
