/- slices.stableCmpFunc and slices.SortStableFunc of ints: their walks. -/
import Derived.Test.YtblbggdglndiiaaLimMrg
import Derived.Test.YtblbggdglndiiaaLimPlain
namespace Go.Proofs.Ytblbggdglndiiaa
open Go.RowKit Go.Sort
set_option linter.unusedVariables false

def StA (F l0 : List Nat) (w : World) (blk off : Nat) (va vb : Value) (wr : World) : Prop :=
  ∃ (a b k : Nat) (E : Chs) (R : List Nat), va = .int .i64 a ∧ vb = .int .i64 b ∧ b = a + 20 ∧ a = (snds E).length ∧ l0 = fsts E ++ R ∧ OkC F E ∧ FullB 20 E ∧ wr = SW w blk off (snds E ++ R) k
def StB (F l0 : List Nat) (w : World) (blk off N : Nat) (vs : Value) (wr : World) : Prop :=
  ∃ (bs k : Nat) (G : Chs), vs = .int .i64 bs ∧ 20 ≤ bs ∧ bs ≤ 2 * N + 20 ∧ l0 = fsts G ∧ OkC F G ∧ Shp bs G ∧ wr = SW w blk off (snds G) k
def StC (F l0 : List Nat) (w : World) (blk off bs : Nat) (va vb : Value) (wr : World) : Prop :=
  ∃ (a b k : Nat) (E G : Chs), va = .int .i64 a ∧ vb = .int .i64 b ∧ b = a + 2 * bs ∧ a = (snds E).length ∧ l0 = fsts E ++ fsts G ∧ OkC F E ∧ FullB (2 * bs) E ∧ OkC F G ∧ Shp bs G ∧ wr = SW w blk off (snds E ++ snds G) k
/-- a block put in order. -/
theorem chunk_sorts {F l0 R : List Nat} {cb : Value} {blk off cap N a k : Nat} {w wr : World} {E : Chs} (hc : CmpAt F cb w blk off l0.length) (hH : Holds encN w blk off l0.toArray) (hN : N = l0.length) (hsz : l0.length ≤ 2 ^ 40) (hup : l0.Pairwise (· < ·)) (hF : ∀ x ∈ l0, x < F.length)
    (ha : a = (snds E).length) (hl : l0 = fsts E ++ R) (hok : OkC F E) (hwr : wr = SW w blk off (snds E ++ R) k) (n b : Nat) (hn : n ≤ R.length) (hb : b = a + n) :
    Calls Try.prog 33 #[.slice (some ⟨blk, off, none⟩) N cap, .int .i64 a, .int .i64 b, .func (.func 25) #[] #[cb]] wr fun e w' => e = .returned (.tuple #[]) ∧ ∃ M k, M.Perm (R.take n) ∧ M.Pairwise (Before F) ∧ w' = SW w blk off (snds E ++ M ++ R.drop n) k := by
  have hlen := hok.len
  rw [hwr, show snds E ++ R = snds E ++ R.take n ++ R.drop n by simp]
  have e1 : (snds E ++ R.take n ++ R.drop n).length = l0.length := by rw [hl]; simp; omega
  rw [hl, show fsts E ++ R = fsts E ++ R.take n ++ R.drop n by simp] at hup
  have h3 : (R.take n).Pairwise (· < ·) := (List.pairwise_append.1 (List.pairwise_append.1 hup).1).2.1
  exact lim_insertion F cb blk off cap l0 (snds E) (R.take n) (R.drop n) w k a b N hc hH hN e1 ha (by simp; omega) (fun x hx => hF x (by rw [hl]; exact List.mem_append_right _ (List.mem_of_mem_take hx))) h3 hsz
/-- two blocks put together. -/
theorem chunk_merges {F l0 : List Nat} {cb : Value} {blk off cap N a m b k : Nat} {w wr : World} {E G : Chs} {c d : List Nat × List Nat} (hc : CmpAt F cb w blk off l0.length) (hH : Holds encN w blk off l0.toArray) (hN : N = l0.length) (hsz : l0.length ≤ 2 ^ 40) (hup : l0.Pairwise (· < ·)) (hF : ∀ x ∈ l0, x < F.length)
    (ha : a = (snds E).length) (hl : l0 = fsts E ++ fsts (c :: d :: G)) (hok : OkC F E) (hok2 : OkC F (c :: d :: G)) (hwr : wr = SW w blk off (snds E ++ snds (c :: d :: G)) k) (hm : m = a + c.1.length) (hb : b = m + d.1.length) :
    Calls Try.prog 34 #[.slice (some ⟨blk, off, none⟩) N cap, .int .i64 a, .int .i64 m, .int .i64 b, .func (.func 25) #[] #[cb]] wr fun e w' => e = .returned (.tuple #[]) ∧ ∃ M k, M.Perm (c.1 ++ d.1) ∧ M.Pairwise (Before F) ∧ w' = SW w blk off (snds (E ++ [(c.1 ++ d.1, M)]) ++ snds G) k := by
  have hlen := hok.len
  obtain ⟨c1, c2, c3⟩ := hok2 c (List.mem_cons_self ..)
  obtain ⟨d1, d2, d3⟩ := hok2 d (List.mem_cons_of_mem _ (List.mem_cons_self ..))
  have hG : OkC F G := fun x hx => hok2 x (List.mem_cons_of_mem _ (List.mem_cons_of_mem _ hx))
  have hlG := hG.len
  have hlc := c1.length_eq
  have hld := d1.length_eq
  rw [hwr, snds_cons, snds_cons, show snds E ++ (c.2 ++ (d.2 ++ snds G)) = snds E ++ c.2 ++ d.2 ++ snds G by simp]
  rw [fsts_cons, fsts_cons, show fsts E ++ (c.1 ++ (d.1 ++ fsts G)) = fsts E ++ c.1 ++ d.1 ++ fsts G by simp] at hl
  have hup2 := hup
  rw [hl] at hup2
  obtain ⟨r1, _⟩ := rise_apart hup2
  refine (lim_merge F cb blk off cap l0 w hc hH hsz _ (snds E) c.2 d.2 (snds G) k a m b N (Nat.le_refl _) (by intro h; rw [h] at hlc; simp at hlc; omega) (by intro h; rw [h] at hld; simp at hld; omega) hN (by rw [hl]; simp; omega) ha (by simp; omega) (by simp; omega) (fun x hx => hF x ?_) (fun x hx y hy => r1 x (c1.mem_iff.1 hx) y (d1.mem_iff.1 hy)) c2 d2).mono ?_
  · rw [hl]
    rcases List.mem_append.1 hx with h | h
    · have := c1.mem_iff.1 h; simp [this]
    · have := d1.mem_iff.1 h; simp [this]
  · rintro e w' ⟨rfl, M, q, p1, p2, rfl⟩
    exact ⟨rfl, M, q, p1.trans (c1.append d1), p2, by rw [snds_append, snds_cons, snds_nil, List.append_nil]⟩

set_option maxRecDepth 1000000 in
set_option maxHeartbeats 2000000 in
theorem lim_stable (F : List Nat) (cb : Value) (blk off cap : Nat) (l0 : List Nat) (w : World) (N : Nat) (hc : CmpAt F cb w blk off l0.length) (hH : Holds encN w blk off l0.toArray) (hN : N = l0.length) (hsz : l0.length ≤ 2 ^ 40) (hup : l0.Pairwise (· < ·)) (hF : ∀ x ∈ l0, x < F.length) :
    Calls Try.prog 30 #[.slice (some ⟨blk, off, none⟩) N cap, .int .i64 N, .func (.func 25) #[] #[cb]] w fun e w' => e = .returned (.tuple #[]) ∧ ∃ M k, M.Perm l0 ∧ M.Pairwise (Before F) ∧ w' = SW w blk off M k := by
  have HSRT : Hid (∀ (wr : World) (R : List Nat) (E : Chs) (k a n b : Nat), a = (snds E).length → l0 = fsts E ++ R → OkC F E → wr = SW w blk off (snds E ++ R) k → n ≤ R.length → b = a + n →
      Calls Try.prog 33 #[.slice (some ⟨blk, off, none⟩) N cap, .int .i64 a, .int .i64 b, .func (.func 25) #[] #[cb]] wr fun e w' => e = .returned (.tuple #[]) ∧ ∃ M k, M.Perm (R.take n) ∧ M.Pairwise (Before F) ∧ w' = SW w blk off (snds E ++ M ++ R.drop n) k) :=
    fun wr R E k a n b h1 h2 h3 h4 h5 h6 => chunk_sorts hc hH hN hsz hup hF h1 h2 h3 h4 n b h5 h6
  have HMRG : Hid (∀ (wr : World) (E G : Chs) (c d : List Nat × List Nat) (k a m b : Nat), a = (snds E).length → l0 = fsts E ++ fsts (c :: d :: G) → OkC F E → OkC F (c :: d :: G) → wr = SW w blk off (snds E ++ snds (c :: d :: G)) k → m = a + c.1.length → b = m + d.1.length →
      Calls Try.prog 34 #[.slice (some ⟨blk, off, none⟩) N cap, .int .i64 a, .int .i64 m, .int .i64 b, .func (.func 25) #[] #[cb]] wr fun e w' => e = .returned (.tuple #[]) ∧ ∃ M k, M.Perm (c.1 ++ d.1) ∧ M.Pairwise (Before F) ∧ w' = SW w blk off (snds (E ++ [(c.1 ++ d.1, M)]) ++ snds G) k) :=
    fun wr E G c d k a m b h1 h2 h3 h4 h5 h6 h7 => chunk_merges hc hH hN hsz hup hF h1 h2 h3 h4 h5 h6 h7
  have HF : Hid (N = l0.length ∧ N ≤ 2 ^ 40) := ⟨hN, by omega⟩
  have HW : Hid (w = SW w blk off l0 0) := (SW_self hH).symm
  obtain ⟨w0, hw0⟩ : ∃ w0, w0 = w := ⟨_, rfl⟩
  have HW0 : Hid (w0 = w) := hw0
  have HRES : Hid (w0 = SW w blk off l0 0) := by rw [hw0]; exact HW.out
  clear hc hH hN hsz hup hF hw0 HW
  suffices hs : Calls Try.prog 30 #[.slice (some ⟨blk, off, none⟩) N cap, .int .i64 N, .func (.func 25) #[] #[cb]] w0 fun e w' => e = .returned (.tuple #[]) ∧ ∃ M k, M.Perm l0 ∧ M.Pairwise (Before F) ∧ w' = SW w blk off M k by
    rw [HW0.out] at hs
    exact hs
  clear HW0
  go_enter Try.func30, Try.ntmps30
  go_wp2_with fail
  go_loopw [7, 8] (fun va vb wr => StA F l0 w blk off va vb wr) (fun va vb _ => N - (intOf va).toNat)
  case atStart => exact ⟨0, 20, 0, [], l0, by go_num, by go_num, rfl, rfl, rfl, OkC.nil F, FullB.nil 20, by simpa [snds_nil] using HRES.out⟩
  case round =>
    obtain ⟨a, b, k, E, R, rfl, rfl, hb, ha, hl, hok, hfull, hwr⟩ := hrel
    have HI : Hid (b = a + 20 ∧ a = (snds E).length ∧ l0 = fsts E ++ R ∧ OkC F E ∧ FullB 20 E ∧ wr = SW w blk off (snds E ++ R) k) := ⟨hb, ha, hl, hok, hfull, hwr⟩
    have HB : Hid (N = a + R.length) := by
      have := hok.len; have := HF.out.1; rw [hl] at this; simp at this; show _ = _; omega
    clear hb ha hl hok hfull hwr
    by_cases hle : b ≤ N
    · have hlez : (b : Int) ≤ (N : Int) := by omega
      obtain ⟨b2, hb2⟩ : ∃ b2, b2 = b + 20 := ⟨_, rfl⟩
      have hw2 : IntKind.i64.wrap ((b : Int) + 20) = (b2 : Int) := by rw [show (b : Int) + 20 = ((b2 : Nat) : Int) by omega]; exact IntWalk.i64_in _ (by have := HF.out.2; omega)
      have HB2 : Hid (b2 = b + 20 ∧ b ≤ N) := ⟨hb2, hle⟩
      clear hb2 hle
      go_wp2_with fail
      refine (HSRT.out wr R E k a 20 b HI.out.2.1 HI.out.2.2.1 HI.out.2.2.2.1 HI.out.2.2.2.2.2 (by have := HB.out; have := HB2.out; have := HI.out.1; omega) HI.out.1).mono ?_
      rintro e w' ⟨rfl, M, k', hM, hMs, hw'⟩
      have HM : Hid (M.Perm (R.take 20) ∧ M.Pairwise (Before F) ∧ w' = SW w blk off (snds E ++ M ++ R.drop 20) k') := ⟨hM, hMs, hw'⟩
      clear hM hMs hw'
      go_wp2_with fail
      obtain ⟨i1, i2, i3, i4, i5, i6⟩ := HI.out
      obtain ⟨m1, m2, m3⟩ := HM.out
      have hn := HB.out
      have hb2 := HB2.out
      have hml := m1.length_eq
      have ht : (R.take 20).length = 20 := by rw [List.length_take]; omega
      refine ⟨⟨b, b2, k', E ++ [(R.take 20, M)], R.drop 20, rfl, rfl, hb2.1, by rw [snds_append, snds_cons, snds_nil]; simp; omega, by rw [i3, fsts_append, fsts_cons, fsts_nil]; simp, i4.append (OkC.one m1 m2 (by omega)), i5.snoc ht, by rw [m3, snds_append, snds_cons, snds_nil]; simp⟩, by simp [intOf]; omega⟩
    · have hlez : ¬ (b : Int) ≤ (N : Int) := by omega
      have HLE : Hid (¬ b ≤ N) := hle
      clear hle
      go_wp2_with fail
      refine (HSRT.out wr R E k a R.length N HI.out.2.1 HI.out.2.2.1 HI.out.2.2.2.1 HI.out.2.2.2.2.2 (Nat.le_refl _) HB.out).mono ?_
      rintro e w' ⟨rfl, M, k', hM, hMs, hw'⟩
      have HB0 : Hid (StB F l0 w blk off N (.int .i64 20) w') := by
        obtain ⟨i1, i2, i3, i4, i5, i6⟩ := HI.out
        have hn := HB.out
        have hle := HLE.out
        rw [List.take_length] at hM
        have hml := hM.length_eq
        by_cases hR : R = []
        · have hMe : M = [] := List.eq_nil_of_length_eq_zero (by rw [hml, hR]; rfl)
          exact ⟨20, k', E, rfl, Nat.le_refl _, by omega, by rw [i3, hR]; simp, i4, i5.shp, by rw [hw', hR, hMe]; simp⟩
        · have hRl := List.length_pos_iff.2 hR
          exact ⟨20, k', E ++ [(R, M)], rfl, Nat.le_refl _, by omega, by rw [i3, fsts_append, fsts_cons, fsts_nil]; simp, i4.append (OkC.one hM hMs hRl), i5.shp_last (by show R.length ≤ 20; omega), by rw [hw', snds_append, snds_cons, snds_nil]; simp⟩
      clear hM hMs hw'
      go_wp2_with fail
      go_loopw [6] (fun vs wr => StB F l0 w blk off N vs wr) (fun vs _ => 2 * N + 20 - (intOf vs).toNat)
      case atStart => exact HB0.out
      case round =>
        obtain ⟨bs, k2, G, rfl, hbs, hbs2, hl, hok, hshp, hwr⟩ := hrel
        have HJ : Hid (20 ≤ bs ∧ bs ≤ 2 * N + 20 ∧ l0 = fsts G ∧ OkC F G ∧ Shp bs G ∧ wr = SW w blk off (snds G) k2) := ⟨hbs, hbs2, hl, hok, hshp, hwr⟩
        clear hbs hbs2 hl hok hshp hwr
        by_cases hlt : bs < N
        · have hltz : (bs : Int) < (N : Int) := by omega
          obtain ⟨b2, hb2⟩ : ∃ b2, b2 = 2 * bs := ⟨_, rfl⟩
          have w2 : IntKind.i64.wrap (2 * (bs : Int)) = (b2 : Int) := by rw [show 2 * (bs : Int) = ((b2 : Nat) : Int) by omega]; exact IntWalk.i64_in _ (by have := HF.out; omega)
          have w3 : IntKind.i64.wrap ((bs : Int) * 2) = (b2 : Int) := by rw [show (bs : Int) * 2 = ((b2 : Nat) : Int) by omega]; exact IntWalk.i64_in _ (by have := HF.out; omega)
          have HBS : Hid (b2 = 2 * bs ∧ bs < N) := ⟨hb2, hlt⟩
          clear hb2 hlt
          go_wp2_with fail
          go_loopw [7, 8] (fun va vb wr => StC F l0 w blk off bs va vb wr) (fun va vb _ => N - (intOf va).toNat)
          case atStart => exact ⟨0, b2, k2, [], G, by go_num, rfl, by have := HBS.out.1; omega, rfl, by rw [HJ.out.2.2.1]; rfl, OkC.nil F, FullB.nil _, HJ.out.2.2.2.1, HJ.out.2.2.2.2.1, HJ.out.2.2.2.2.2⟩
          case round =>
            obtain ⟨a, b, k3, E3, G3, rfl, rfl, hb, ha, hl, hok, hfull, hokG, hshp, hwr⟩ := hrel
            have HK : Hid (b = a + 2 * bs ∧ a = (snds E3).length ∧ l0 = fsts E3 ++ fsts G3 ∧ OkC F E3 ∧ FullB (2 * bs) E3 ∧ OkC F G3 ∧ Shp bs G3 ∧ wr = SW w blk off (snds E3 ++ snds G3) k3) := ⟨hb, ha, hl, hok, hfull, hokG, hshp, hwr⟩
            have HB3 : Hid (N = a + (fsts G3).length) := by
              have := hok.len; have := HF.out.1; rw [hl] at this; simp at this; show _ = _; omega
            clear hb ha hl hok hfull hokG hshp hwr
            obtain ⟨m, hm⟩ : ∃ m, m = a + bs := ⟨_, rfl⟩
            have w4 : IntKind.i64.wrap ((a : Int) + (bs : Int)) = (m : Int) := by rw [show (a : Int) + (bs : Int) = ((m : Nat) : Int) by omega]; exact IntWalk.i64_in _ (by have := HF.out; have := HBS.out; have := HB3.out; omega)
            have HM0 : Hid (m = a + bs) := hm
            clear hm
            by_cases hle : b ≤ N
            · have hlez : (b : Int) ≤ (N : Int) := by omega
              obtain ⟨b3, hb3⟩ : ∃ b3, b3 = b + b2 := ⟨_, rfl⟩
              have w5 : IntKind.i64.wrap ((b : Int) + (b2 : Int)) = (b3 : Int) := by rw [show (b : Int) + (b2 : Int) = ((b3 : Nat) : Int) by omega]; exact IntWalk.i64_in _ (by have := HF.out; have := HBS.out; omega)
              have HB4 : Hid (b3 = b + b2 ∧ b ≤ N) := ⟨hb3, hle⟩
              clear hb3 hle
              obtain ⟨c, d, G4, hG4, hcl, hdl, hshp4⟩ : ∃ c d G4, G3 = c :: d :: G4 ∧ c.1.length = bs ∧ d.1.length = bs ∧ Shp bs G4 :=
                HK.out.2.2.2.2.2.2.1.two HK.out.2.2.2.2.2.1 (by have := HB3.out; have := HB4.out; have := HK.out.1; omega) (by have := HJ.out.1; omega)
              have HG4 : Hid (G3 = c :: d :: G4 ∧ c.1.length = bs ∧ d.1.length = bs ∧ Shp bs G4) := ⟨hG4, hcl, hdl, hshp4⟩
              clear hG4 hcl hdl hshp4
              go_wp2_with fail
              refine (HMRG.out wr E3 G4 c d k3 a m b HK.out.2.1 (by rw [← HG4.out.1]; exact HK.out.2.2.1) HK.out.2.2.2.1 (by rw [← HG4.out.1]; exact HK.out.2.2.2.2.2.1) (by rw [← HG4.out.1]; exact HK.out.2.2.2.2.2.2.2) (by rw [HG4.out.2.1]; exact HM0.out) (by have := HM0.out; have := HK.out.1; have := HG4.out.2.2.1; omega)).mono ?_
              rintro e w' ⟨rfl, M, k', hM, hMs, hw'⟩
              have HM : Hid (M.Perm (c.1 ++ d.1) ∧ M.Pairwise (Before F) ∧ w' = SW w blk off (snds (E3 ++ [(c.1 ++ d.1, M)]) ++ snds G4) k') := ⟨hM, hMs, hw'⟩
              clear hM hMs hw'
              go_wp2_with fail
              obtain ⟨i1, i2, i3, i4, i5, i6, i7, i8⟩ := HK.out
              obtain ⟨m1, m2, m3⟩ := HM.out
              obtain ⟨g1, g2, g3, g4⟩ := HG4.out
              have hml := m1.length_eq
              have hbs := HBS.out
              have hbb := HB4.out
              have hj := HJ.out.1
              rw [List.length_append] at hml
              rw [g1] at i3 i6
              refine ⟨⟨b, b3, k', E3 ++ [(c.1 ++ d.1, M)], G4, rfl, rfl, by omega, by rw [snds_append, snds_cons, snds_nil]; simp; omega, by rw [i3, fsts_append, fsts_cons, fsts_cons, fsts_cons, fsts_nil]; simp, i4.append (OkC.one m1 m2 (by rw [List.length_append]; omega)), i5.snoc (by show (c.1 ++ d.1).length = 2 * bs; rw [List.length_append]; omega), fun x hx => i6 x (List.mem_cons_of_mem _ (List.mem_cons_of_mem _ hx)), g4, m3⟩, by simp [intOf]; omega⟩
            · have hlez : ¬ (b : Int) ≤ (N : Int) := by omega
              have HLE3 : Hid (¬ b ≤ N) := hle
              clear hle
              by_cases hmn : m < N
              · have hmz : (m : Int) < (N : Int) := by omega
                obtain ⟨c, d, hG4, hcl, hdl⟩ : ∃ c d, G3 = [c, d] ∧ c.1.length = bs ∧ d.1.length < bs :=
                  HK.out.2.2.2.2.2.2.1.more HK.out.2.2.2.2.2.1 (by have := HB3.out; have := HM0.out; omega) (by have := HB3.out; have := HLE3.out; have := HK.out.1; omega)
                have HG4 : Hid (G3 = [c, d] ∧ c.1.length = bs ∧ d.1.length < bs) := ⟨hG4, hcl, hdl⟩
                have HND : Hid (N = m + d.1.length) := by
                  have := HB3.out; have := HM0.out; rw [hG4, fsts_cons, fsts_cons, fsts_nil] at *; simp at *; show _ = _; omega
                clear hG4 hcl hdl hmn
                go_wp2_with fail
                refine (HMRG.out wr E3 [] c d k3 a m N HK.out.2.1 (by rw [← HG4.out.1]; exact HK.out.2.2.1) HK.out.2.2.2.1 (by rw [← HG4.out.1]; exact HK.out.2.2.2.2.2.1) (by rw [← HG4.out.1]; exact HK.out.2.2.2.2.2.2.2) (by rw [HG4.out.2.1]; exact HM0.out) HND.out).mono ?_
                rintro e w' ⟨rfl, M, k', hM, hMs, hw'⟩
                have HM : Hid (M.Perm (c.1 ++ d.1) ∧ M.Pairwise (Before F) ∧ w' = SW w blk off (snds (E3 ++ [(c.1 ++ d.1, M)]) ++ snds []) k') := ⟨hM, hMs, hw'⟩
                clear hM hMs hw'
                go_wp2_with fail
                obtain ⟨i1, i2, i3, i4, i5, i6, i7, i8⟩ := HK.out
                obtain ⟨m1, m2, m3⟩ := HM.out
                obtain ⟨g1, g2, g3⟩ := HG4.out
                have hbs := HBS.out
                have hj := HJ.out
                rw [g1] at i3
                refine ⟨⟨b2, k', E3 ++ [(c.1 ++ d.1, M)], rfl, by omega, by omega, by rw [i3, fsts_append, fsts_cons, fsts_cons, fsts_cons, fsts_nil]; simp, i4.append (OkC.one m1 m2 (by rw [List.length_append]; omega)), by rw [hbs.1]; exact i5.shp_last (by show (c.1 ++ d.1).length ≤ 2 * bs; rw [List.length_append]; omega), by rw [m3, snds_nil, List.append_nil]⟩, by simp [intOf]; omega⟩
              · have hmz : ¬ (m : Int) < (N : Int) := by omega
                have HMN : Hid (¬ m < N) := hmn
                clear hmn
                go_wp2_with fail
                obtain ⟨i1, i2, i3, i4, i5, i6, i7, i8⟩ := HK.out
                have hbs := HBS.out
                have hj := HJ.out
                have hb3 := HB3.out
                have hm0 := HM0.out
                have hmn := HMN.out
                have hsh : Shp (2 * bs) (E3 ++ G3) := by
                  rcases i7.one i6 (by omega) with rfl | ⟨c, rfl⟩
                  · rw [List.append_nil]; exact i5.shp
                  · have h7 : c.1.length ≤ bs := i7
                    exact i5.shp_last (by omega)
                refine ⟨⟨b2, k3, E3 ++ G3, rfl, by omega, by omega, by rw [i3, fsts_append], i4.append i6, by rw [hbs.1]; exact hsh, by rw [i8, snds_append]⟩, by simp [intOf]; omega⟩
        · have hltz : ¬ (bs : Int) < (N : Int) := by omega
          go_wp2_with fail
          go_end0
          obtain ⟨j1, j2, j3, j4, j5, j6⟩ := HJ.out
          have hs : (snds G).Pairwise (Before F) := j5.sorted j4 (by rw [← j3, ← HF.out.1]; omega)
          have hp : (snds G).Perm l0 := by rw [j3]; exact j4.perm
          first | exact ⟨rfl, snds G, k2, hp, hs, j6⟩ | exact ⟨rfl, snds G, hp, hs, k2, j6⟩

theorem lim_sortStable (F : List Nat) (cb : Value) (blk off cap : Nat) (l0 : List Nat) (w : World) (N : Nat) (hc : CmpAt F cb w blk off l0.length) (hH : Holds encN w blk off l0.toArray) (hN : N = l0.length) (hsz : l0.length ≤ 2 ^ 40) (hup : l0.Pairwise (· < ·)) (hF : ∀ x ∈ l0, x < F.length) :
    Calls Try.prog 24 #[.slice (some ⟨blk, off, none⟩) N cap, .func (.func 25) #[] #[cb]] w fun e w' => e = .returned (.tuple #[]) ∧ ∃ M k, M.Perm l0 ∧ M.Pairwise (Before F) ∧ w' = SW w blk off M k := by
  have hs : Hid (Calls Try.prog 30 #[.slice (some ⟨blk, off, none⟩) N cap, .int .i64 N, .func (.func 25) #[] #[cb]] w fun e w' => e = .returned (.tuple #[]) ∧ ∃ M k, M.Perm l0 ∧ M.Pairwise (Before F) ∧ w' = SW w blk off M k) := lim_stable F cb blk off cap l0 w N hc hH hN hsz hup hF
  clear hc hH hN hsz hup hF
  go_enter Try.func24, Try.ntmps24
  go_wp2_with fail
  refine Calls.mono hs.out ?_
  rintro e w' ⟨rfl, M, k', hM, hMs, hw'⟩
  have HM : Hid (M.Perm l0 ∧ M.Pairwise (Before F) ∧ w' = SW w blk off M k') := ⟨hM, hMs, hw'⟩
  clear hM hMs hw'
  go_wp2_with fail
  go_end0
  obtain ⟨h1, h2, h3⟩ := HM.out
  first | exact ⟨rfl, M, k', h1, h2, h3⟩ | exact ⟨rfl, M, h1, h2, k', h3⟩
end Go.Proofs.Ytblbggdglndiiaa
