/- limit.Lengths where it answers: its walk. -/
import Derived.Test.YtblbggdglndiiaaLimLenA
import Derived.Test.YtblbggdglndiiaaLimPlain
namespace Go.Proofs.Ytblbggdglndiiaa
open Go.RowKit
set_option linter.unusedVariables false

/-- what is set ahead of the work. -/
def lenInit (P : List Nat) (s : Nat) : Nat := if P.length = 1 ∧ s ∈ P then 1 else 0
/-- a symbol's length, as the program reckons it. -/
def lenP (F P : List Nat) (i s : Nat) : Nat := lenInit P s + lenOf F P i s
def lensP (F P : List Nat) (i : Nat) : List Nat := (List.range F.length).map (lenP F P i)
/-- a row in memory that is not the box's. -/
def RowV (w5 wr : World) (v : Value) (l : List Nat) : Prop := ∃ og, Owns wr 3 1 v og l.length (intsL l) ∧ ∀ g, og = some g → w5.heap.size ≤ g
theorem RowV.keep {w5 wr w' : World} {v : Value} {l : List Nat} {S : Nat → Prop} (h : RowV w5 wr v l) (ht : Touch S wr w') (hS : ∀ k, S k → k < w5.heap.size) : RowV w5 w' v l := by
  obtain ⟨og, h1, h2⟩ := h
  exact ⟨og, h1.keep ht (fun g e hs => by have := h2 g e; have := hS g hs; omega), h2⟩
/-- the rows, as far as they are made. -/
def RowsI (W : List Nat) (w5 : World) (Bq L : Nat) (vi : Value) (wr : World) : Prop :=
  ∃ (i : Nat) (cur : Array Value) (rs : List (Value × Value)), vi = .int .i64 i ∧ i ≤ L ∧ rs.length = i ∧ wr.heap[Bq]? = some (.cells cur 45 (0, 0)) ∧ cur.size = 2 * L ∧
    (∀ j a b, rs[j]? = some (a, b) → cur[2 * j]? = some a ∧ cur[2 * j + 1]? = some b ∧ RowV w5 wr a (wts (rowL W j)) ∧ RowV w5 wr b (cnts (rowL W j))) ∧ Touch (fun k => k = Bq) w5 wr
def WtI (F P : List Nat) (w3 : World) (vo vi : Value) (wr : World) : Prop :=
  ∃ (j nn cc : Nat) (oa : Option Addr), vi = .int .i64 j ∧ vo = .slice oa nn cc ∧ j ≤ P.length ∧ nn = j ∧ IOn w3 (wtsOf F (P.take j)) (.slice oa nn cc) wr
theorem getD_at {l : List Nat} {j : Nat} (h : j < l.length) : l.getD j 0 = l[j] := by simp [List.getD, h]
theorem IOn.rowV {w w5 wr : World} {l : List Nat} {v : Value} (h : IOn w l v wr) (hs : w5.heap.size ≤ w.heap.size) : RowV w5 wr v l := by
  obtain ⟨og, h1, h2, _⟩ := h
  exact ⟨og, h1, fun g e => Nat.le_trans hs (h2 g e)⟩
theorem RowV.viewL {w5 wr : World} {l : List Nat} {v : Value} (h : RowV w5 wr v l) : ViewL wr v (intsL l) := h.choose_spec.1.viewL
theorem set2_ne {cur : Array Value} {a b k : Nat} (u v : Value) (h1 : k ≠ a) (h2 : k ≠ b) : ((cur.setIfInBounds a u).setIfInBounds b v)[k]? = cur[k]? := by
  rw [Array.getElem?_setIfInBounds_ne (Ne.symm h2), Array.getElem?_setIfInBounds_ne (Ne.symm h1)]
theorem set2_fst {cur : Array Value} {a b : Nat} (u v : Value) (h : a ≠ b) (ha : a < cur.size) : ((cur.setIfInBounds a u).setIfInBounds b v)[a]? = some u := by
  rw [Array.getElem?_setIfInBounds_ne (Ne.symm h), Array.getElem?_setIfInBounds_self_of_lt ha]
theorem set2_snd {cur : Array Value} {a b : Nat} (u v : Value) (hb : b < cur.size) : ((cur.setIfInBounds a u).setIfInBounds b v)[b]? = some v := by
  rw [Array.getElem?_setIfInBounds_self_of_lt (by simpa using hb)]
/-- one row more. -/
theorem rows_put {W : List Nat} {w5 wr w' : World} {Bq L i : Nat} {cur : Array Value} {rs : List (Value × Value)} {wv sv : Value} (hi : i < L) (hrs : rs.length = i) (hb : wr.heap[Bq]? = some (.cells cur 45 (0, 0))) (hc : cur.size = 2 * L)
    (hr : ∀ j a b, rs[j]? = some (a, b) → cur[2 * j]? = some a ∧ cur[2 * j + 1]? = some b ∧ RowV w5 wr a (wts (rowL W j)) ∧ RowV w5 wr b (cnts (rowL W j))) (ht : Touch (fun k => k = Bq) w5 wr) (hB : Bq < w5.heap.size)
    (h1 : IOn wr (wts (rowL W i)) wv w') (h2 : IOn wr (cnts (rowL W i)) sv w') : RowsI W w5 Bq L (.int .i64 ((i + 1 : Nat) : Int)) ((w'.setCell ⟨Bq, 2 * i, none⟩ wv).setCell ⟨Bq, 2 * i + 1, none⟩ sv) := by
  have hx := h1.toExt
  have hb' : w'.heap[Bq]? = some (.cells cur 45 (0, 0)) := hx.keep hb (fun f => f)
  have e1 := heap_setCell_at (a := ⟨Bq, 2 * i, none⟩) (u := wv) hb' rfl
  have e2 := heap_setCell_at (a := ⟨Bq, 2 * i + 1, none⟩) (u := sv) e1 rfl
  have ht2 : Touch (fun k => k = Bq) w' ((w'.setCell ⟨Bq, 2 * i, none⟩ wv).setCell ⟨Bq, 2 * i + 1, none⟩ sv) :=
    Touch.setCell (S := fun k => k = Bq) (a := ⟨Bq, 2 * i + 1, none⟩) (Touch.setCell (S := fun k => k = Bq) (a := ⟨Bq, 2 * i, none⟩) (Touch.refl _ w') (Or.inl rfl) _) (Or.inl rfl) _
  refine ⟨i + 1, _, rs ++ [(wv, sv)], rfl, hi, by simp [hrs], e2, by simp [hc], fun j a b hj => ?_, ?_⟩
  · by_cases hji : j < i
    · rw [List.getElem?_append_left (by omega)] at hj
      obtain ⟨q1, q2, q3, q4⟩ := hr j a b hj
      refine ⟨?_, ?_, (q3.keep hx (fun k f => f.elim)).keep ht2 (fun k e => by have e : k = Bq := e; omega), (q4.keep hx (fun k f => f.elim)).keep ht2 (fun k e => by have e : k = Bq := e; omega)⟩
      · exact (set2_ne (a := 2 * i) (b := 2 * i + 1) wv sv (by omega) (by omega)).trans q1
      · exact (set2_ne (a := 2 * i) (b := 2 * i + 1) wv sv (by omega) (by omega)).trans q2
    · rw [List.getElem?_append_right (by omega)] at hj
      have hj0 : j - rs.length = 0 := by
        rcases Nat.eq_zero_or_pos (j - rs.length) with h | h
        · exact h
        · rw [List.getElem?_eq_none (by simp; omega)] at hj; cases hj
      rw [hj0] at hj
      simp at hj
      obtain ⟨rfl, rfl⟩ := hj
      obtain rfl : j = i := by omega
      refine ⟨?_, ?_, (h1.rowV ht.size).keep ht2 (fun k e => by have e : k = Bq := e; omega), (h2.rowV ht.size).keep ht2 (fun k e => by have e : k = Bq := e; omega)⟩
      · exact set2_fst (a := 2 * j) (b := 2 * j + 1) wv sv (by omega) (by omega)
      · exact set2_snd (a := 2 * j) (b := 2 * j + 1) wv sv (by omega)
  · exact (ht.trans (hx.mono fun _ _ f => f.elim) (fun k _ e => e)).trans ht2 (fun k _ e => e)
/-- the lengths in memory. -/
def OutB (g0 N : Nat) (f : Nat → Nat) (wr : World) : Prop := Owns wr 5 1 (.slice (some ⟨g0, 0, none⟩) N N) (some g0) N (u8s ((List.range N).map f))
def OutI (Q W : List Nat) (L t0 N g0 : Nat) (w6 : World) (vt vi : Value) (wr : World) : Prop :=
  ∃ (i t : Nat) (ks : List Nat), vt = .int .i64 t ∧ vi = .int .i64 i ∧ i ≤ L ∧ ks.length = i ∧ (i < L → takes W (L - 1) t0 = ks ++ takes W (L - 1 - i) t ∧ t ≤ (rowL W (L - 1 - i)).length) ∧ (i = L → takes W (L - 1) t0 = ks) ∧
    OutB g0 N (fun s => lenInit Q s + outAt Q ks s) wr ∧ Touch (fun k => k = g0) w6 wr
def OutJ (Q ks : List Nat) (k N g0 : Nat) (w6 : World) (vj : Value) (wr : World) : Prop :=
  ∃ (j : Nat), vj = .int .i64 j ∧ j ≤ k ∧ OutB g0 N (fun s => lenInit Q s + outAt Q ks s + if s ∈ Q.take j then 1 else 0) wr ∧ Touch (fun k => k = g0) w6 wr
theorem OutB.get {g0 N : Nat} {f : Nat → Nat} {wr : World} (h : OutB g0 N f wr) (s : Nat) (hs : s < N) : wr.cell? ⟨g0, s, none⟩ = some (.int .u8 (f s : Nat)) ∧ wr.frozen? ⟨g0, s, none⟩ = false :=
  ⟨h.cell s _ (by simp [u8s, hs]), h.free s⟩
theorem OutB.put {g0 N : Nat} {f f' : Nat → Nat} {wr : World} (h : OutB g0 N f wr) (s : Nat) (hs : s < N) (h1 : ∀ k, k ≠ s → f' k = f k) : OutB g0 N f' (wr.setCell ⟨g0, s, none⟩ (.int .u8 (f' s : Nat))) := by
  have := h.set s (.int .u8 (f' s : Nat)) hs
  have e : (u8s ((List.range N).map f)).set s (.int .u8 (f' s : Nat)) = u8s ((List.range N).map f') := by
    apply List.ext_getElem
    · simp [u8s]
    · intro j hj1 hj2
      rw [List.getElem_set]
      by_cases hj : s = j
      · subst hj; simp [u8s]
      · rw [if_neg hj]; simp [u8s, h1 j (fun e => hj e.symm)]
  rw [e] at this
  exact this
theorem outAt_le (P ks : List Nat) (s : Nat) : outAt P ks s ≤ ks.length := List.length_filter_le _ _
theorem lenInit_le (P : List Nat) (s : Nat) : lenInit P s ≤ 1 := by unfold lenInit; split <;> omega
set_option maxHeartbeats 8000000 in
set_option maxRecDepth 100000 in
theorem lim_len (v : Value) (F P : List Nat) (L : Nat) (w : World) (hv : ViewL w v (intsL F)) (h1 : 1 ≤ L) (h17 : L ≤ 17) (hl : F.length ≤ 512) (hF : ∀ x ∈ F, x ≤ 2 ^ 40) (hP : IsOrd F P) (hn : P.length ≤ 2 ^ L) :
    Calls Try.prog 11 #[v, .int .i64 L] w fun e w' => ∃ ov, e = .returned (.tuple #[ov, .int .i64 0]) ∧ BO w (lensP F P (L - 1)) ov w' := by
  obtain ⟨fs, hfs⟩ : ∃ fs : List Int, fs = F.map fun (x : Nat) => (x : Int) := ⟨_, rfl⟩
  have hvi : ViewL w v (ints fs) := by rw [ints_nat hfs]; exact hv
  have hany : fs.any badF = false := by
    rw [List.any_eq_false]
    intro x hx
    rw [hfs, List.mem_map] at hx
    obtain ⟨y, hy, rfl⟩ := hx
    have := hF y hy
    simp [badF]
    omega
  have hc := lim_contains v fs w hvi (by rw [hfs, List.length_map]; omega)
  rw [hany] at hc
  have hr := lim_rarest v F w hv (by omega)
  obtain ⟨ao, cap, rfl⟩ := hv.shape
  rw [length_intsL] at *
  obtain ⟨N, hN⟩ : ∃ N, N = F.length := ⟨_, rfl⟩
  rw [← hN] at hv hl hc hr ⊢
  have HP := Lib.hid (show IsOrd F P ∧ P.length ≤ 2 ^ L ∧ (∀ x ∈ F, x ≤ 2 ^ 40) ∧ N = F.length ∧ N ≤ 512 ∧ 1 ≤ L ∧ L ≤ 17 from ⟨hP, hn, hF, hN, hl, h1, h17⟩)
  have HV := Lib.hid hv
  have h1z : ¬ (L : Int) < 1 := by omega
  have h2z : ¬ (17 : Int) < (L : Int) := by omega
  have h3z : ¬ (512 : Int) < (N : Int) := by omega
  have HR : Hid _ := hr
  clear hv hN hl hF hP hn hfs hvi hany h1 h17 hr
  go_enter Try.func11, Try.ntmps11
  go_wp2_with fail
  refine hc.mono ?_
  rintro e w' ⟨rfl, rfl⟩
  clear hc h1z h2z h3z
  go_wp2_with fail
  refine Calls.mono HR.out ?_
  rintro e w1 ⟨Q, ov, rfl, hQ, hio⟩
  obtain rfl : Q = P := ord_same hQ HP.out.1
  obtain ⟨pa, pc, rfl⟩ := hio.shape
  have HIO := Lib.hid hio
  obtain ⟨n, hn⟩ : ∃ n, n = Q.length := ⟨_, rfl⟩
  rw [← hn] at HIO ⊢
  obtain ⟨w2, hmk, hbo⟩ := make_u8 w1 N (by have := HP.out; omega)
  have HBO := Lib.hid hbo
  have hnN : n ≤ N := by rw [hn, HP.out.2.2.2.1, ord_len HP.out.1]; exact List.length_filter_le _ _
  have HN := Lib.hid (show n = Q.length ∧ n ≤ N from ⟨hn, hnN⟩)
  obtain ⟨m, hm⟩ : ∃ m, m = 2 ^ L := ⟨_, rfl⟩
  have hmz : (2 : Int) ^ L = (m : Int) := by rw [hm]; push_cast; rfl
  have hmb : m ≤ 2 ^ 17 := by rw [hm]; exact Nat.pow_le_pow_right (by decide) HP.out.2.2.2.2.2.2
  have hmw : IntKind.i64.wrap ((2 : Int) ^ (min L 64)) = (m : Int) := by rw [show min L 64 = L by have := HP.out; omega, hmz]; exact IntWalk.i64_in _ (by omega)
  have hmn : ¬ (m : Int) < (n : Int) := by have := HP.out.2.1; omega
  have hmn2 : ¬ m < n := by omega
  have hmd : decide ((m : Int) < (n : Int)) = false := decide_eq_false hmn
  clear hm hmb hmz hio hQ hn hbo hnN
  by_cases h0 : n = 0
  · have h0z : (n : Int) < 2 := by omega
    have h0e : ((n : Int) == 1) = false := by rw [beq_eq_false_iff_ne]; omega
    have H0 := Lib.hid h0
    clear h0
    go_wp2_with fail
    go_ret2
    refine ⟨_, rfl, ?_⟩
    obtain ⟨og, b1, b2, b3⟩ := HBO.out
    have hz : lensP F Q (L - 1) = List.replicate N 0 := by
      have hQ0 : Q = [] := List.eq_nil_of_length_eq_zero (by rw [← HN.out.1]; exact H0.out)
      rw [lensP, ← HP.out.2.2.2.1, hQ0]
      refine List.eq_replicate_iff.2 ⟨by simp, fun b hb => ?_⟩
      obtain ⟨s, _, rfl⟩ := List.mem_map.1 hb
      simp [lenP, lenInit, lenOf, outAt]
    rw [hz]
    exact ⟨og, b1, fun g e => Nat.le_trans HIO.out.toExt.size (b2 g e), HIO.out.toExt.trans b3⟩
  · by_cases hone : n = 1
    · have HONE := Lib.hid hone
      have H0 := Lib.hid h0
      have h1z : ((n : Int) == 1) = true := by rw [beq_iff_eq]; omega
      have h1y : (n : Int) < 2 := by omega
      have h0p : (0 : Int) < (n : Int) := by omega
      have h0q : 0 < n := by omega
      obtain ⟨b, o, hpa, _, hc⟩ := viewL_cells (HIO.out.viewL.ext HBO.out.toExt) (by rw [length_intsL, ← HN.out.1, hone]; decide)
      obtain ⟨s, hs⟩ : ∃ s, s = Q.getD 0 0 := ⟨_, rfl⟩
      have c1 : w2.cell? ⟨b, o, none⟩ = some (.int .i64 s) := by
        have := hc 0 (.int .i64 (Q.getD 0 0 : Nat)) (by
          have h : 0 < Q.length := by rw [← HN.out.1, hone]; decide
          simp [intsL, List.getD, h])
        rw [hs]; exact this
      have hsN : s < N := by
        rw [hs, HP.out.2.2.2.1]
        exact ((HP.out.1.mem _).1 (getD_mem (by rw [← HN.out.1, hone]; decide))).1
      have hsz : (s : Int) < (N : Int) := by omega
      have HZ := Lib.hid (show OutB w1.heap.size N (fun _ => 0) w2 from by
        obtain ⟨og, b1, b2, b3⟩ := HBO.out
        rw [List.length_replicate] at b1
        rcases b1.form with ⟨_, h, _⟩ | ⟨g, cap', cur', h1, h2, h3, _⟩
        · cases h
        · cases h2
          subst h1
          have e : (List.range N).map (fun _ => 0) = List.replicate N 0 := by
            refine List.eq_replicate_iff.2 ⟨by simp, fun b hb => ?_⟩
            obtain ⟨s, _, rfl⟩ := List.mem_map.1 hb
            rfl
          show Owns _ _ _ _ _ _ (u8s ((List.range N).map (fun _ => 0)))
          rw [e]; exact b1)
      obtain ⟨g1, g2⟩ := HZ.out.get s hsN
      obtain ⟨w3, hw3⟩ : ∃ w3, w3 = w2.setCell ⟨w1.heap.size, s, none⟩ (.int .u8 1) := ⟨_, rfl⟩
      have HB3 := Lib.hid (show BO w1 ((List.range F.length).map (lenInit Q)) (.slice (some ⟨w1.heap.size, 0, none⟩) N N) w3 from by
        have hQ : Q = [s] := by
          obtain ⟨y, hy⟩ := List.length_eq_one_iff.1 (show Q.length = 1 by rw [← HN.out.1]; exact hone)
          rw [hs, hy]; rfl
        have hput := HZ.out.put (f' := lenInit Q) s hsN (fun k hk => by rw [lenInit, if_neg (fun h => hk (by have := h.2; rw [hQ] at this; simpa using this))])
        have hv : lenInit Q s = 1 := by rw [lenInit, if_pos ⟨by rw [hQ]; rfl, by rw [hQ]; simp⟩]
        rw [hv] at hput
        refine ⟨some w1.heap.size, ?_, fun g e => by cases e; exact Nat.le_refl _, ?_⟩
        · rw [hw3, ← HP.out.2.2.2.1, show ((List.range N).map (lenInit Q)).length = N by simp]; exact hput
        · rw [hw3]; exact Touch.setCell (S := fun _ => False) HBO.out.toExt (Or.inr (Nat.le_refl _)) _)
      have HW3 := Lib.hid hw3
      clear h0 hone hw3 HBO HZ hc hs hsN
      have HPC := Lib.hid (show ∀ wr, Touch (fun k => k = w1.heap.size) w3 wr → ∀ j, j < n → ∃ b o, pa = some ⟨b, o, none⟩ ∧ wr.cell? ⟨b, o + j, none⟩ = some (.int .i64 (Q.getD j 0 : Nat)) from fun wr ht j hj => by
        obtain ⟨b, o, rfl, _, hc⟩ := viewL_cells HIO.out.viewL (by rw [length_intsL]; have := HN.out.1; omega)
        have hc' := hc j (.int .i64 (Q.getD j 0 : Nat)) (by rw [HN.out.1] at hj; simp [intsL, hj, List.getD])
        have hlt := World.block_lt_of_cell? _ _ hc'
        exact ⟨b, o, rfl, cell_touch ht (cell_touch HB3.out.toExt hc' (fun f => f)) (by simp at hlt ⊢; omega)⟩)
      have HFC := Lib.hid (show ∀ wr, Touch (fun k => k = w1.heap.size) w3 wr → ∀ j, j < N → ∃ b o, ao = some ⟨b, o, none⟩ ∧ wr.cell? ⟨b, o + j, none⟩ = some (.int .i64 (F.getD j 0 : Nat)) from fun wr ht j hj => by
        obtain ⟨b, o, rfl, _, hc⟩ := viewL_cells HV.out (by rw [length_intsL]; have := HP.out.2.2.2.1; omega)
        have hc' := hc j (.int .i64 (F.getD j 0 : Nat)) (by rw [HP.out.2.2.2.1] at hj; simp [intsL, hj, List.getD])
        have hlt := World.block_lt_of_cell? _ _ hc'
        exact ⟨b, o, rfl, cell_touch ht (cell_touch HB3.out.toExt (cell_touch HIO.out.toExt hc' (fun f => f)) (fun f => f)) (by have := HIO.out.toExt.size; simp at hlt ⊢; omega)⟩)
      have HQF := Lib.hid (show ∀ j, j < n → Q.getD j 0 < N from fun j hj => by
        rw [HP.out.2.2.2.1]
        exact ((HP.out.1.mem _).1 (getD_mem (by rw [← HN.out.1]; exact hj))).1)
      obtain ⟨i0, hi, hz0, hz1, hz2⟩ := info_parts info_int
      subst hpa
      go_wp2_with fail
      rw [show w2.setCell ⟨w1.heap.size, s, none⟩ (.int .u8 1) = w3 from HW3.out.symm]
      clear hmk hmw hmn hmn2 hmd h1z h1y h0p h0q hsz c1 g1 g2
      go_loopw [10, 62] (fun vo vi wr => WtI F Q w3 vo vi wr) (fun _ vi _ => n - (intOf vi).toNat)
      case atStart => exact ⟨0, 0, 0, none, by go_num, rfl, Nat.zero_le _, rfl, IOn.nil w3⟩
      case round =>
        obtain ⟨j, nn, cc, oa, rfl, rfl, hjn, hnn, hio⟩ := hrel
        have HI := Lib.hid (show j ≤ n ∧ nn = j ∧ IOn w3 (wtsOf F (Q.take j)) (.slice oa nn cc) wr from ⟨by rw [HN.out.1]; exact hjn, hnn, hio⟩)
        clear hjn hnn hio
        by_cases hlt : j < n
        · have hltz : (j : Int) < (n : Int) := by omega
          have ht3 : Touch (fun k => k = w1.heap.size) w3 wr := HI.out.2.2.toExt.mono (fun _ _ f => f.elim)
          obtain ⟨b, o, e1, c1⟩ := HPC.out wr ht3 j hlt
          cases e1
          have hsN := HQF.out j hlt
          obtain ⟨s, hs⟩ : ∃ s, s = Q.getD j 0 := ⟨_, rfl⟩
          rw [← hs] at c1 hsN
          obtain ⟨b2, o2, rfl, c2⟩ := HFC.out wr ht3 s hsN
          have hsz : (s : Int) < (N : Int) := by omega
          obtain ⟨x, hx⟩ : ∃ x, x = F.getD s 0 := ⟨_, rfl⟩
          rw [← hx] at c2
          have HS := Lib.hid (show s = Q.getD j 0 ∧ x = F.getD s 0 ∧ j < n from ⟨hs, hx, hlt⟩)
          have hj62 : (j : Int) + 1 < 4611686018427387904 := by have := HP.out; have := HN.out; omega
          have hlen : nn + 1 ≤ 1024 := by have := HI.out; have := HP.out; have := HN.out; omega
          have HW1 := Lib.hid (show wtsOf F (Q.take (j + 1)) = wtsOf F (Q.take j) ++ [x] from by
            have hj : j < Q.length := by rw [← HN.out.1]; exact HS.out.2.2
            rw [List.take_succ_eq_append_getElem hj, wtsOf, List.map_append]
            congr 1
            rw [HS.out.2.1, HS.out.1, getD_at hj]
            rfl)
          have HLW := Lib.hid (show (wtsOf F (Q.take j)).length = nn from by
            rw [wtsOf, List.length_map, List.length_take]; have := HI.out; have := HN.out.1; have := HS.out.2.2; omega)
          clear hs hx ht3 hlt hsN
          go_wp2_with (at_builtin; go_must (refine wpList_append_own_at _ rfl (.tmp 66) (.tmp 71) 24 rfl 0 3 i0 (.int .i64 0) 1 8 Try.underlying24 hi hz0 hz1 hz2 rfl (by decide) _ nn (intsL (wtsOf F (Q.take j))) rfl (by have := HI.out.2.2.choose_spec.1.1.alloc (.cells #[.int .i64 x] 3); rw [HLW.out] at this; exact this) ⟨wr.heap.size, 0, none⟩ 1 1 [.int .i64 x] rfl rfl (news _ _ _ _) (by simp [Value.oneCell']) (by unfold maxLen; omega) (by omega) (Nat.zero_le _) ?_))
          intro v' w5 hown' hgrow _ hat
          have HIO5 := Lib.hid (show IOn w3 (wtsOf F (Q.take (j + 1))) v' w5 from by
            rw [HW1.out]
            exact io_snoc HI.out.2.2 (by rw [HLW.out]; exact hown') hgrow hat)
          obtain ⟨a5, c5, rfl⟩ : ∃ a5 c5, v' = .slice a5 (nn + 1) c5 := by
            obtain ⟨a5, c5, e5⟩ := HIO5.out.shape
            exact ⟨a5, c5, by rw [e5, HW1.out, List.length_append, HLW.out]; rfl⟩
          clear hown' hgrow hat c1 c2 hlen
          go_wp2_with fail
          exact ⟨⟨j + 1, nn + 1, c5, a5, by go_num, rfl, by have := HS.out.2.2; have := HN.out.1; omega, by have := HI.out.2.1; omega, HIO5.out⟩, by simp [intOf]; have := HS.out.2.2; omega⟩
        · have hltz : ¬ (j : Int) < (n : Int) := by omega
          obtain ⟨W, hW⟩ : ∃ W, W = wtsOf F Q := ⟨_, rfl⟩
          have HIW := Lib.hid (show IOn w3 W (.slice oa nn cc) wr ∧ nn = n from by
            have h9 := HI.out.2.2
            have hjn : j = n := by have := HI.out.1; omega
            rw [List.take_of_length_le (by rw [hjn]; exact Nat.le_of_eq HN.out.1.symm), ← hW] at h9
            exact ⟨h9, by rw [HI.out.2.1, hjn]⟩)
          have HW := Lib.hid (show W = wtsOf F Q ∧ W.length = n ∧ (∀ x ∈ W, x ≤ 2 ^ 40) ∧ Rises W from ⟨hW, by rw [hW, wtsOf, List.length_map]; exact HN.out.1.symm, fun x hx => by
            rw [hW, wtsOf, List.mem_map] at hx
            obtain ⟨s, hs, rfl⟩ := hx
            have hsl := ((HP.out.1.mem s).1 hs).1
            exact HP.out.2.2.1 _ (getD_mem hsl), by rw [hW]; exact ord_rises HP.out.1⟩)
          clear hW hlt
          obtain ⟨w5, cur5, hmk5, hb5, hs5, hx5⟩ := make_rows wr L (by have := HP.out; omega)
          obtain ⟨Bq, hBq⟩ : ∃ Bq, Bq = wr.heap.size := ⟨_, rfl⟩
          obtain ⟨w4, hw4⟩ : ∃ w4, w4 = wr := ⟨_, rfl⟩
          rw [← hBq] at hmk5 hb5
          have H5 := Lib.hid (show w5.heap[Bq]? = some (.cells cur5 45 (0, 0)) ∧ cur5.size = 2 * L ∧ Ext w4 w5 ∧ Bq = w4.heap.size ∧ IOn w3 W (.slice oa nn cc) w4 from ⟨hb5, hs5, by rw [hw4]; exact hx5, by rw [hw4]; exact hBq, by rw [hw4]; exact HIW.out.1⟩)
          clear hb5 hs5 hx5 hBq hw4
          have HB5 := Lib.hid (show Bq < w5.heap.size from block_lt H5.out.1)
          have HWV := Lib.hid (show ∀ wr, Touch (fun k => k = Bq) w5 wr → ViewL wr (.slice oa nn cc) (intsL W) from fun wr ht => by
            obtain ⟨og, o1, o2, o3⟩ := H5.out.2.2.2.2
            exact ((o1.keep H5.out.2.2.1 (fun _ _ f => f)).keep ht (fun g e hg => by have := o1.lt g e; have := H5.out.2.2.2.1; omega)).viewL)
          have hLz : (L : Int) < 100 := by have := HP.out; omega
          go_wp2_with fail
          clear hmk5 hltz hLz
          go_loopw [77] (fun vi wr => RowsI W w5 Bq L vi wr) (fun vi _ => L - (intOf vi).toNat)
          case atStart => exact ⟨0, cur5, [], by go_num, Nat.zero_le _, rfl, H5.out.1, H5.out.2.1, fun j a b h => by simp at h, Touch.refl _ _⟩
          case round =>
            obtain ⟨i, cur, rs, rfl, hiL, hrs, hb, hcs, hr, ht⟩ := hrel
            have HI2 := Lib.hid (show i ≤ L ∧ rs.length = i ∧ wr.heap[Bq]? = some (.cells cur 45 (0, 0)) ∧ cur.size = 2 * L ∧ (∀ j a b, rs[j]? = some (a, b) → cur[2 * j]? = some a ∧ cur[2 * j + 1]? = some b ∧ RowV w5 wr a (wts (rowL W j)) ∧ RowV w5 wr b (cnts (rowL W j))) ∧ Touch (fun k => k = Bq) w5 wr from ⟨hiL, hrs, hb, hcs, hr, ht⟩)
            clear hiL hrs hb hcs hr ht
            by_cases hlt : i < L
            · have hltz : (i : Int) < (L : Int) := by omega
              obtain ⟨i1, hi1⟩ : ∃ i1, i1 = i + 1 := ⟨_, rfl⟩
              have wi1 : IntKind.i64.wrap ((i : Int) + 1) = (i1 : Int) := by rw [show (i : Int) + 1 = ((i1 : Nat) : Int) by omega]; exact IntWalk.i64_in _ (by have := HP.out; omega)
              have HI1 := Lib.hid hi1
              have HLT := Lib.hid hlt
              by_cases hi0 : i = 0
              · have hi0z : ¬ (0 : Int) < (i : Int) := by omega
                have hi0n : ¬ 0 < i := by omega
                have HI0 := Lib.hid hi0
                have hnx := lim_next (.slice oa nn cc) W [] (.slice none 0 0) (.slice none 0 0) wr (HWV.out wr HI2.out.2.2.2.2.2) ⟨none, 0, rfl, Nat.le_refl _, fun _ => rfl, fun h => by simp [intsL] at h⟩ (by have := HW.out; have := HP.out; have := HN.out; omega) (by simp) (fun x hx => by have := HW.out.2.2.1 x hx; omega) (fun x hx => by cases hx)
                have HNX := Lib.hid (show Calls Try.prog 18 #[.slice oa nn cc, .agg #[.slice none 0 0, .slice none 0 0]] wr fun e w' => ∃ wv sv, e = .returned (.agg #[wv, sv]) ∧ IOn wr (wts (rowL W i)) wv w' ∧ IOn wr (cnts (rowL W i)) sv w' from by rw [HI0.out]; exact hnx)
                clear hi0 hnx hlt hi1
                go_wp2_with fail
                refine Calls.mono HNX.out ?_
                rintro e w6 ⟨wv, sv, rfl, q1, q2⟩
                obtain ⟨wa, wc, hwv⟩ := q1.shape
                obtain ⟨sa, sc, hsv⟩ := q2.shape
                obtain ⟨nw, hnw⟩ : ∃ nw, nw = (wts (rowL W i)).length := ⟨_, rfl⟩
                obtain ⟨ns, hns⟩ : ∃ ns, ns = (cnts (rowL W i)).length := ⟨_, rfl⟩
                rw [← hnw] at hwv
                rw [← hns] at hsv
                subst hwv hsv
                have HQ := Lib.hid (And.intro q1 q2)
                have b6 : w6.heap[Bq]? = some (.cells cur 45 (0, 0)) := q1.toExt.keep HI2.out.2.2.1 (fun f => f)
                obtain ⟨x0, hx0⟩ : ∃ x0, cur[i * 2]? = some x0 := ⟨_, Array.getElem?_eq_getElem (by have := HI2.out.2.2.2.1; have := HLT.out; omega)⟩
                obtain ⟨x1, hx1⟩ : ∃ x1, cur[i * 2 + 1]? = some x1 := ⟨_, Array.getElem?_eq_getElem (by have := HI2.out.2.2.2.1; have := HLT.out; omega)⟩
                have d0 : w6.cell? ⟨Bq, i * 2, none⟩ = some x0 := by simp [World.cell?, b6, hx0]
                have d1 : w6.cell? ⟨Bq, i * 2 + 1, none⟩ = some x1 := by simp [World.cell?, b6, hx1]
                have d2 : w6.frozen? ⟨Bq, i * 2, none⟩ = false := by simp [World.frozen?, b6]
                have d3 : w6.frozen? ⟨Bq, i * 2 + 1, none⟩ = false := by simp [World.frozen?, b6]
                clear q1 q2 hnw hns b6 hx0 hx1 hi0z hi0n hltz
                go_wp2_with fail
                obtain ⟨a1, a2, a3, a4, a5, a6⟩ := HI2.out
                have hput := rows_put HLT.out a2 a3 a4 a5 a6 HB5.out HQ.out.1 HQ.out.2
                rw [Nat.mul_comm 2 i, ← HI1.out] at hput
                exact ⟨hput, by simp [intOf]; have := HLT.out; have := HI1.out; omega⟩
              · have hi0z : (0 : Int) < (i : Int) := by omega
                have hi0n : 0 < i := by omega
                obtain ⟨ip, hip⟩ : ∃ ip, i = ip + 1 := ⟨i - 1, by omega⟩
                have HIP := Lib.hid hip
                have wip : IntKind.i64.wrap ((i : Int) - 1) = (ip : Int) := by rw [show (i : Int) - 1 = ((ip : Nat) : Int) by omega]; exact IntWalk.i64_in _ (by have := HP.out; omega)
                have ipz : (ip : Int) < (L : Int) := by omega
                obtain ⟨⟨ra, rb⟩, hrr⟩ : ∃ ab, rs[ip]? = some ab := ⟨_, List.getElem?_eq_getElem (by have := HI2.out.2.1; omega)⟩
                obtain ⟨r1, r2, r3, r4⟩ := HI2.out.2.2.2.2.1 ip ra rb hrr
                have hnx := lim_next (.slice oa nn cc) W (wts (rowL W ip)) ra rb wr (HWV.out wr HI2.out.2.2.2.2.2) r3.viewL (by have := HW.out; have := HP.out; have := HN.out; omega) (by rw [wts_len]; have := row_short W ip; have := HW.out; have := HP.out; have := HN.out; omega) (fun x hx => by have := HW.out.2.2.1 x hx; omega) (fun x hx => by
                  have h8 := row_bound HW.out.2.2.1 ip x hx
                  have h9 : 2 ^ ip ≤ 2 ^ 16 := Nat.pow_le_pow_right (by decide) (by have := HLT.out; have := HP.out; omega)
                  have h10 : 2 ^ 40 * 2 ^ ip ≤ 2 ^ 40 * 2 ^ 16 := Nat.mul_le_mul_left _ h9
                  omega)
                have HNX := Lib.hid (show Calls Try.prog 18 #[.slice oa nn cc, .agg #[ra, rb]] wr fun e w' => ∃ wv sv, e = .returned (.agg #[wv, sv]) ∧ IOn wr (wts (rowL W i)) wv w' ∧ IOn wr (cnts (rowL W i)) sv w' from by rw [HIP.out]; exact hnx)
                have g0 : wr.cell? ⟨Bq, ip * 2, none⟩ = some ra := by rw [Nat.mul_comm]; simp [World.cell?, HI2.out.2.2.1, r1]
                have g1 : wr.cell? ⟨Bq, ip * 2 + 1, none⟩ = some rb := by rw [Nat.mul_comm]; simp [World.cell?, HI2.out.2.2.1, r2]
                clear hnx hlt r1 r2 r3 r4 hrr hi0 hip hi1
                go_wp2_with fail
                clear g0 g1 wip ipz
                refine Calls.mono HNX.out ?_
                rintro e w6 ⟨wv, sv, rfl, q1, q2⟩
                obtain ⟨wa, wc, hwv⟩ := q1.shape
                obtain ⟨sa, sc, hsv⟩ := q2.shape
                obtain ⟨nw, hnw⟩ : ∃ nw, nw = (wts (rowL W i)).length := ⟨_, rfl⟩
                obtain ⟨ns, hns⟩ : ∃ ns, ns = (cnts (rowL W i)).length := ⟨_, rfl⟩
                rw [← hnw] at hwv
                rw [← hns] at hsv
                subst hwv hsv
                have HQ := Lib.hid (And.intro q1 q2)
                have b6 : w6.heap[Bq]? = some (.cells cur 45 (0, 0)) := q1.toExt.keep HI2.out.2.2.1 (fun f => f)
                obtain ⟨x0, hx0⟩ : ∃ x0, cur[i * 2]? = some x0 := ⟨_, Array.getElem?_eq_getElem (by have := HI2.out.2.2.2.1; have := HLT.out; omega)⟩
                obtain ⟨x1, hx1⟩ : ∃ x1, cur[i * 2 + 1]? = some x1 := ⟨_, Array.getElem?_eq_getElem (by have := HI2.out.2.2.2.1; have := HLT.out; omega)⟩
                have d0 : w6.cell? ⟨Bq, i * 2, none⟩ = some x0 := by simp [World.cell?, b6, hx0]
                have d1 : w6.cell? ⟨Bq, i * 2 + 1, none⟩ = some x1 := by simp [World.cell?, b6, hx1]
                have d2 : w6.frozen? ⟨Bq, i * 2, none⟩ = false := by simp [World.frozen?, b6]
                have d3 : w6.frozen? ⟨Bq, i * 2 + 1, none⟩ = false := by simp [World.frozen?, b6]
                clear q1 q2 hnw hns b6 hx0 hx1 hi0z hi0n hltz
                go_wp2_with fail
                obtain ⟨a1, a2, a3, a4, a5, a6⟩ := HI2.out
                have hput := rows_put HLT.out a2 a3 a4 a5 a6 HB5.out HQ.out.1 HQ.out.2
                rw [Nat.mul_comm 2 i, ← HI1.out] at hput
                exact ⟨hput, by simp [intOf]; have := HLT.out; have := HI1.out; omega⟩
            · have hltz : ¬ (i : Int) < (L : Int) := by omega
              have HIL := Lib.hid (show i = L from by have := HI2.out.1; omega)
              obtain ⟨w6, hw6⟩ : ∃ w6, w6 = wr := ⟨_, rfl⟩
              have hg0 : w1.heap.size < w3.heap.size := by
                obtain ⟨og, b1, b2, b3⟩ := HB3.out
                rcases b1.form with ⟨_, h, _⟩ | ⟨g, cap', cur', h1, h2, h3, _⟩
                · cases h
                · cases h2; exact block_lt h3
              have hgB : w1.heap.size < Bq := by have := H5.out.2.2.2.1; have := H5.out.2.2.2.2.toExt.size; omega
              have HGB := Lib.hid (show w1.heap.size < Bq ∧ w1.heap.size < w5.heap.size from ⟨hgB, by have := HB5.out; omega⟩)
              have HALL := Lib.hid (show ∀ wr', Touch (fun k => k = w1.heap.size) w6 wr' → ∀ j, j < L → ∃ sv, wr'.cell? ⟨Bq, j * 2 + 1, none⟩ = some sv ∧ ViewL wr' sv (intsL (cnts (rowL W j))) from fun wr' ht j hj => by
                rw [hw6] at ht
                obtain ⟨a1, a2, a3, a4, a5, a6⟩ := HI2.out
                obtain ⟨⟨ra, rb⟩, hrr⟩ : ∃ ab, rs[j]? = some ab := ⟨_, List.getElem?_eq_getElem (by rw [a2, HIL.out]; exact hj)⟩
                obtain ⟨r1, r2, r3, r4⟩ := a5 j ra rb hrr
                have hb' := ht.keep a3 (by have := HGB.out.1; omega)
                refine ⟨rb, by rw [Nat.mul_comm]; simp [World.cell?, hb', r2], (r4.keep ht (fun k e => by have e : k = w1.heap.size := e; have := HGB.out.2; omega)).viewL⟩)
              have HOUT := Lib.hid (show OutB w1.heap.size N (lenInit Q) w6 from by
                rw [hw6]
                obtain ⟨og, b1, b2, b3⟩ := HB3.out
                rw [← HP.out.2.2.2.1, show ((List.range N).map (lenInit Q)).length = N by simp] at b1
                rcases b1.form with ⟨_, h, _⟩ | ⟨g, cap', cur', h1, h2, h3, _⟩
                · cases h
                · cases h2
                  subst h1
                  have c1 := (b1.keep H5.out.2.2.2.2.toExt (fun _ _ f => f)).keep H5.out.2.2.1 (fun _ _ f => f)
                  have c2 := c1.keep HI2.out.2.2.2.2.2 (fun g e h => by cases e; have h : w1.heap.size = Bq := h; have := HGB.out.1; omega)
                  exact c2)
              have HE6 := Lib.hid (show Touch (fun k => k = Bq) w5 w6 from by rw [hw6]; exact HI2.out.2.2.2.2.2)
              have HT3 := Lib.hid (show Ext w3 w5 from H5.out.2.2.2.2.toExt.trans H5.out.2.2.1)
              obtain ⟨t0, ht0⟩ : ∃ t0, t0 = 2 * n - 2 := ⟨_, rfl⟩
              obtain ⟨n2, hn2⟩ : ∃ n2, n2 = 2 * n := ⟨_, rfl⟩
              have wn2 : IntKind.i64.wrap (2 * (n : Int)) = (n2 : Int) := by rw [show 2 * (n : Int) = ((n2 : Nat) : Int) by omega]; exact IntWalk.i64_in _ (by have := HP.out; have := HN.out; omega)
              have wt0 : IntKind.i64.wrap ((n2 : Int) - 2) = (t0 : Int) := by rw [show (n2 : Int) - 2 = ((t0 : Nat) : Int) by have := H0.out; omega]; exact IntWalk.i64_in _ (by have := HP.out; have := HN.out; omega)
              have HT0 := Lib.hid (show t0 = 2 * n - 2 from ht0)
              have HLEN := Lib.hid (show t0 ≤ (rowL W (L - 1)).length from by
                have := row_enough W (L - 1) (by rw [HW.out.2.1, HN.out.1]; have h := HP.out.2.1; rw [show L - 1 + 1 = L by have := HP.out; omega]; exact h) (by rw [HW.out.2.1]; have := H0.out; omega)
                rw [HW.out.2.1] at this
                rw [ht0]; exact this)
              clear hgB ht0 hn2 hlt hg0
              go_wp2_with fail
              rw [← hw6]
              clear hw6 wn2 wt0 hltz
              go_loopw [15, 104] (fun vt vi wr => OutI Q W L t0 N w1.heap.size w6 vt vi wr) (fun _ vi _ => L - (intOf vi).toNat)
              case atStart => exact ⟨0, t0, [], by go_num, by go_num, Nat.zero_le _, rfl, fun _ => ⟨by simp, HLEN.out⟩, fun h => by have := HP.out; omega, by
                have e : (fun s => lenInit Q s + outAt Q [] s) = lenInit Q := funext fun s => by simp [outAt]
                rw [e]; exact HOUT.out, Touch.refl _ _⟩
              case round =>
                obtain ⟨i2, t, ks, rfl, rfl, hiL, hks, htk, htl, hob, ht⟩ := hrel
                have HI3 := Lib.hid (show i2 ≤ L ∧ ks.length = i2 ∧ (i2 < L → takes W (L - 1) t0 = ks ++ takes W (L - 1 - i2) t ∧ t ≤ (rowL W (L - 1 - i2)).length) ∧ (i2 = L → takes W (L - 1) t0 = ks) ∧ OutB w1.heap.size N (fun s => lenInit Q s + outAt Q ks s) wr ∧ Touch (fun k => k = w1.heap.size) w6 wr from ⟨hiL, hks, htk, htl, hob, ht⟩)
                clear hiL hks htk htl hob ht
                by_cases hlt : i2 < L
                · have hltz : (i2 : Int) < (L : Int) := by omega
                  obtain ⟨d, hd⟩ : ∃ d, d = L - 1 - i2 := ⟨_, rfl⟩
                  obtain ⟨Lp, hLp⟩ : ∃ Lp, Lp = L - 1 := ⟨_, rfl⟩
                  have wL : IntKind.i64.wrap ((L : Int) - 1) = (Lp : Int) := by rw [show (L : Int) - 1 = ((Lp : Nat) : Int) by omega]; exact IntWalk.i64_in _ (by have := HP.out; omega)
                  have wd : IntKind.i64.wrap ((Lp : Int) - (i2 : Int)) = (d : Int) := by rw [show (Lp : Int) - (i2 : Int) = ((d : Nat) : Int) by omega]; exact IntWalk.i64_in _ (by have := HP.out; omega)
                  have hdL : d < L := by omega
                  have hdz : (d : Int) < (L : Int) := by omega
                  obtain ⟨i3, hi3⟩ : ∃ i3, i3 = i2 + 1 := ⟨_, rfl⟩
                  have wi3 : IntKind.i64.wrap ((i2 : Int) + 1) = (i3 : Int) := by rw [show (i2 : Int) + 1 = ((i3 : Nat) : Int) by omega]; exact IntWalk.i64_in _ (by have := HP.out; omega)
                  have HD := Lib.hid (show d = L - 1 - i2 ∧ i2 < L ∧ i3 = i2 + 1 from ⟨hd, hlt, hi3⟩)
                  obtain ⟨sv, s1, s2⟩ := HALL.out wr HI3.out.2.2.2.2.2 d hdL
                  have htd : t ≤ (rowL W d).length := by rw [hd]; exact (HI3.out.2.2.1 hlt).2
                  have hrs := row_short W d
                  have htb : t ≤ 1024 := by have := HW.out.2.1; have := HP.out; have := HN.out; omega
                  have hfr := lim_first (cnts (rowL W d)) Bq (d * 2) t sv wr s1 s2 (by rw [cnts_len]; exact htd) (by rw [cnts_len]; have := HW.out.2.1; have := HP.out; have := HN.out; omega)
                  obtain ⟨k, hk⟩ : ∃ k, k = syms (rowL W d) t := ⟨_, rfl⟩
                  have hkn : (if t = 0 then (0 : Int) else (((cnts (rowL W d)).getD (t - 1) 0 : Nat) : Int)) = (k : Int) := by
                    rw [hk, ← cnts_get (rowL W d) t htd]
                    by_cases h : t = 0
                    · rw [if_pos h, if_pos h]; rfl
                    · rw [if_neg h, if_neg h]
                  rw [hkn] at hfr
                  have hkle : k ≤ n := by
                    rw [hk]
                    have hh : syms (rowL W d) t ≤ W.length := by
                      cases d with
                      | zero => exact (takes_end W t htd).2
                      | succ d' => exact (takes_step W d' t htd).2.2
                    rw [HW.out.2.1] at hh; exact hh
                  have hkt : k ≤ t := by rw [hk]; exact syms_le _ _
                  have hpc : n ≤ pc := by
                    obtain ⟨_, cap', e, hh, _⟩ := HIO.out.viewL
                    rw [length_intsL] at hh
                    cases e
                    have := HN.out.1; omega
                  obtain ⟨pb, pof, e1, _⟩ := HPC.out w3 (Touch.refl _ _) 0 (by have := H0.out; omega)
                  cases e1
                  have HK := Lib.hid (show k = syms (rowL W d) t ∧ k ≤ n ∧ k ≤ t ∧ t ≤ 1024 ∧ t ≤ (rowL W d).length from ⟨hk, hkle, hkt, htb, htd⟩)
                  have hkz : (k : Int) ≤ (pc : Int) := by omega
                  have hkc : ¬ (pc : Int) < (k : Int) := by omega
                  obtain ⟨tk, htk⟩ : ∃ tk, tk = t - k := ⟨_, rfl⟩
                  obtain ⟨tn, htn⟩ : ∃ tn, tn = 2 * (t - k) := ⟨_, rfl⟩
                  have wtk : IntKind.i64.wrap ((t : Int) - (k : Int)) = (tk : Int) := by rw [show (t : Int) - (k : Int) = ((tk : Nat) : Int) by omega]; exact IntWalk.i64_in _ (by omega)
                  have wtn : IntKind.i64.wrap (2 * (tk : Int)) = (tn : Int) := by rw [show 2 * (tk : Int) = ((tn : Nat) : Int) by omega]; exact IntWalk.i64_in _ (by omega)
                  have HTN := Lib.hid (show tn = 2 * (t - k) from htn)
                  have HFR := Lib.hid hfr
                  clear hd hLp hlt hi3 s1 s2 htd hrs htb hfr hk hkn hkle hkt hpc htk htn hdL
                  go_wp2_with fail
                  refine Calls.mono HFR.out ?_
                  rintro e wf ⟨rfl, rfl⟩
                  clear HFR
                  go_wp2_with fail
                  clear hkz hkc hdz wL wd
                  go_loopw [119] (fun vj wr => OutJ Q ks k N w1.heap.size w6 vj wr) (fun vj _ => k - (intOf vj).toNat)
                  case atStart => exact ⟨0, by go_num, Nat.zero_le _, by
                    have e : (fun s => lenInit Q s + outAt Q ks s + if s ∈ Q.take 0 then 1 else 0) = fun s => lenInit Q s + outAt Q ks s := funext fun s => by simp
                    rw [e]; exact HI3.out.2.2.2.2.1, HI3.out.2.2.2.2.2⟩
                  case round =>
                    obtain ⟨j, rfl, hjk, hob, ht⟩ := hrel
                    have HJ := Lib.hid (show j ≤ k ∧ OutB w1.heap.size N (fun s => lenInit Q s + outAt Q ks s + if s ∈ Q.take j then 1 else 0) wr ∧ Touch (fun k => k = w1.heap.size) w6 wr from ⟨hjk, hob, ht⟩)
                    clear hjk hob ht
                    by_cases hlt : j < k
                    · have hltz : (j : Int) < (k : Int) := by omega
                      have hjn : j < n := by have := HK.out.2.1; omega
                      have HTW := Lib.hid (show Touch (fun k => k = w1.heap.size) w3 wr from by
                        have h1 : Touch (fun k => k = w1.heap.size) w3 w6 := ((HT3.out.mono (fun _ _ f => f.elim)).trans HE6.out (fun k hk e => by have e : k = Bq := e; have := HT3.out.size; have := H5.out.2.2.2.1; have := H5.out.2.2.2.2.toExt.size; omega))
                        exact h1.trans HJ.out.2.2 (fun _ _ e => e))
                      obtain ⟨pb', po', e1, c1⟩ := HPC.out wr HTW.out j hjn
                      cases e1
                      have hsN := HQF.out j hjn
                      obtain ⟨s, hs⟩ : ∃ s, s = Q.getD j 0 := ⟨_, rfl⟩
                      rw [← hs] at c1 hsN
                      have hsz : (s : Int) < (N : Int) := by omega
                      obtain ⟨g1, g2⟩ := HJ.out.2.1.get s hsN
                      obtain ⟨x, hx⟩ : ∃ x, x = lenInit Q s + outAt Q ks s + (if s ∈ Q.take j then 1 else 0) := ⟨_, rfl⟩
                      rw [← hx] at g1
                      have hxb : x ≤ 100 := by
                        have h1 := lenInit_le Q s
                        have h2 := outAt_le Q ks s
                        have h3 := HI3.out.2.1
                        have h4 := HP.out
                        have h5 : (if s ∈ Q.take j then 1 else 0) ≤ 1 := by split <;> omega
                        omega
                      obtain ⟨x1, hx1⟩ : ∃ x1, x1 = x + 1 := ⟨_, rfl⟩
                      have wx : IntKind.u8.wrap ((x : Int) + 1) = (x1 : Int) := by rw [show (x : Int) + 1 = ((x1 : Nat) : Int) by omega]; exact IntWalk.u8_in _ (by omega)
                      obtain ⟨j1, hj1⟩ : ∃ j1, j1 = j + 1 := ⟨_, rfl⟩
                      have wj1 : IntKind.i64.wrap ((j : Int) + 1) = (j1 : Int) := by rw [show (j : Int) + 1 = ((j1 : Nat) : Int) by omega]; exact IntWalk.i64_in _ (by have := HK.out; omega)
                      have HS := Lib.hid (show s = Q.getD j 0 ∧ j < n ∧ s < N ∧ x = lenInit Q s + outAt Q ks s + (if s ∈ Q.take j then 1 else 0) ∧ x1 = x + 1 ∧ j1 = j + 1 ∧ j < k from ⟨hs, hjn, hsN, hx, hx1, hj1, hlt⟩)
                      clear hs hjn hsN hx hx1 hj1 hlt hxb
                      go_wp2_with fail
                      obtain ⟨q1, q2, q3, q4, q5, q6, q7⟩ := HS.out
                      have hjl : j < Q.length := by rw [← HN.out.1]; exact q2
                      have hnd := before_nodup HP.out.1.up
                      have hsj : s = Q[j] := by rw [q1, getD_at hjl]
                      have htake : Q.take j1 = Q.take j ++ [s] := by rw [q6, List.take_succ_eq_append_getElem hjl, hsj]
                      have hnot : s ∉ Q.take j := by
                        rw [hsj, mem_take_nodup hnd j j hjl]; omega
                      have hput := HJ.out.2.1.put (f' := fun s => lenInit Q s + outAt Q ks s + if s ∈ Q.take j1 then 1 else 0) s q3 (fun k hk => by
                        show _ + _ + _ = _ + _ + _
                        congr 1
                        rw [htake]
                        simp [hk])
                      have hval : lenInit Q s + outAt Q ks s + (if s ∈ Q.take j1 then 1 else 0) = x1 := by
                        rw [q5, q4, if_neg hnot, if_pos (by rw [htake]; simp)]
                      simp only [hval] at hput
                      exact ⟨⟨j1, rfl, by omega, hput, Touch.setCell (S := fun k => k = w1.heap.size) HJ.out.2.2 (Or.inl rfl) _⟩, by simp [intOf]; omega⟩
                    · have hltz : ¬ (j : Int) < (k : Int) := by omega
                      have HJK := Lib.hid (show j = k from by have := HJ.out.1; omega)
                      clear hlt
                      go_wp2_with fail
                      obtain ⟨a1, a2, a3, a4, a5, a6⟩ := HI3.out
                      obtain ⟨b1, b2, b3⟩ := HJ.out
                      obtain ⟨d1, d2, d3⟩ := HD.out
                      obtain ⟨k1, k2, k3, k4, k5⟩ := HK.out
                      obtain ⟨a3a, a3b⟩ := a3 d2
                      rw [← d1] at a3a a3b
                      refine ⟨⟨i3, tn, ks ++ [k], rfl, rfl, by omega, by rw [List.length_append, a2, d3]; rfl, fun h => ?_, fun h => ?_, ?_, b3⟩, by simp [intOf]; omega⟩
                      · obtain ⟨d', hd'⟩ : ∃ d', d = d' + 1 := ⟨d - 1, by omega⟩
                        rw [hd'] at a3a a3b k1
                        obtain ⟨z1, z2, z3⟩ := takes_step W d' t a3b
                        rw [show L - 1 - i3 = d' by omega, HTN.out, k1]
                        exact ⟨by rw [a3a, z1]; simp, z2⟩
                      · have hd0 : d = 0 := by omega
                        rw [hd0] at a3a a3b k1
                        rw [a3a, (takes_end W t a3b).1, k1]
                      · have e : (fun s => lenInit Q s + outAt Q (ks ++ [k]) s) = fun s => lenInit Q s + outAt Q ks s + if s ∈ Q.take j then 1 else 0 := funext fun s => by
                          rw [outAt_cons, HJK.out, Nat.add_assoc]
                        rw [e]; exact b2
                · have hltz : ¬ (i2 : Int) < (L : Int) := by omega
                  have HI2L := Lib.hid (show i2 = L from by have := HI3.out.1; omega)
                  clear hlt
                  go_wp2_with fail
                  go_ret2
                  obtain ⟨a1, a2, a3, a4, a5, a6⟩ := HI3.out
                  have hks := a4 HI2L.out
                  refine ⟨_, rfl, some w1.heap.size, ?_, fun g e => by cases e; exact HIO.out.toExt.size, ?_⟩
                  · have e : (List.range N).map (fun s => lenInit Q s + outAt Q ks s) = lensP F Q (L - 1) := by
                      rw [lensP, ← HP.out.2.2.2.1]
                      refine List.map_congr_left fun s _ => ?_
                      rw [lenP, lenOf, ← HW.out.1, ← HN.out.1, ← HT0.out, hks]
                    have el : (lensP F Q (L - 1)).length = N := by rw [← e]; simp
                    rw [el, ← e]
                    exact a5
                  · have h1 : Touch (fun k => k = w1.heap.size) w3 w6 := ((HT3.out.mono (fun _ _ f => f.elim)).trans HE6.out (fun k hk e => by have e : k = Bq := e; have := HT3.out.size; have := H5.out.2.2.2.1; have := H5.out.2.2.2.2.toExt.size; omega))
                    have h2 := h1.trans a6 (fun _ _ e => e)
                    exact (HIO.out.toExt.trans HB3.out.toExt).touch h2 (fun k hk e => by have e : k = w1.heap.size := e; have := HIO.out.toExt.size; omega)
    · have h0z : ¬ (n : Int) < 2 := by omega
      have h0e : ((n : Int) == 1) = false := by rw [beq_eq_false_iff_ne]; omega
      have H0 := Lib.hid h0
      have H1 := Lib.hid hone
      obtain ⟨w3, hw3⟩ : ∃ w3, w3 = w2 := ⟨_, rfl⟩
      have HB3 := Lib.hid (show BO w1 ((List.range F.length).map (lenInit Q)) (.slice (some ⟨w1.heap.size, 0, none⟩) N N) w3 from by
        have e : (List.range F.length).map (lenInit Q) = List.replicate N 0 := by
          refine List.eq_replicate_iff.2 ⟨by simp [HP.out.2.2.2.1], fun b hb => ?_⟩
          obtain ⟨s, _, rfl⟩ := List.mem_map.1 hb
          rw [lenInit, if_neg (fun h => H1.out (by rw [HN.out.1]; exact h.1))]
        rw [e, hw3]; exact HBO.out)
      rw [← hw3] at hmk
      clear h0 hone hw3 HBO
      have HPC := Lib.hid (show ∀ wr, Touch (fun k => k = w1.heap.size) w3 wr → ∀ j, j < n → ∃ b o, pa = some ⟨b, o, none⟩ ∧ wr.cell? ⟨b, o + j, none⟩ = some (.int .i64 (Q.getD j 0 : Nat)) from fun wr ht j hj => by
        obtain ⟨b, o, rfl, _, hc⟩ := viewL_cells HIO.out.viewL (by rw [length_intsL]; have := HN.out.1; omega)
        have hc' := hc j (.int .i64 (Q.getD j 0 : Nat)) (by rw [HN.out.1] at hj; simp [intsL, hj, List.getD])
        have hlt := World.block_lt_of_cell? _ _ hc'
        exact ⟨b, o, rfl, cell_touch ht (cell_touch HB3.out.toExt hc' (fun f => f)) (by simp at hlt ⊢; omega)⟩)
      have HFC := Lib.hid (show ∀ wr, Touch (fun k => k = w1.heap.size) w3 wr → ∀ j, j < N → ∃ b o, ao = some ⟨b, o, none⟩ ∧ wr.cell? ⟨b, o + j, none⟩ = some (.int .i64 (F.getD j 0 : Nat)) from fun wr ht j hj => by
        obtain ⟨b, o, rfl, _, hc⟩ := viewL_cells HV.out (by rw [length_intsL]; have := HP.out.2.2.2.1; omega)
        have hc' := hc j (.int .i64 (F.getD j 0 : Nat)) (by rw [HP.out.2.2.2.1] at hj; simp [intsL, hj, List.getD])
        have hlt := World.block_lt_of_cell? _ _ hc'
        exact ⟨b, o, rfl, cell_touch ht (cell_touch HB3.out.toExt (cell_touch HIO.out.toExt hc' (fun f => f)) (fun f => f)) (by have := HIO.out.toExt.size; simp at hlt ⊢; omega)⟩)
      have HQF := Lib.hid (show ∀ j, j < n → Q.getD j 0 < N from fun j hj => by
        rw [HP.out.2.2.2.1]
        exact ((HP.out.1.mem _).1 (getD_mem (by rw [← HN.out.1]; exact hj))).1)
      obtain ⟨i0, hi, hz0, hz1, hz2⟩ := info_parts info_int
      go_wp2_with fail
      clear hmk hmw hmn hmn2 hmd h0z h0e
      go_loopw [10, 62] (fun vo vi wr => WtI F Q w3 vo vi wr) (fun _ vi _ => n - (intOf vi).toNat)
      case atStart => exact ⟨0, 0, 0, none, by go_num, rfl, Nat.zero_le _, rfl, IOn.nil w3⟩
      case round =>
        obtain ⟨j, nn, cc, oa, rfl, rfl, hjn, hnn, hio⟩ := hrel
        have HI := Lib.hid (show j ≤ n ∧ nn = j ∧ IOn w3 (wtsOf F (Q.take j)) (.slice oa nn cc) wr from ⟨by rw [HN.out.1]; exact hjn, hnn, hio⟩)
        clear hjn hnn hio
        by_cases hlt : j < n
        · have hltz : (j : Int) < (n : Int) := by omega
          have ht3 : Touch (fun k => k = w1.heap.size) w3 wr := HI.out.2.2.toExt.mono (fun _ _ f => f.elim)
          obtain ⟨b, o, e1, c1⟩ := HPC.out wr ht3 j hlt
          cases e1
          have hsN := HQF.out j hlt
          obtain ⟨s, hs⟩ : ∃ s, s = Q.getD j 0 := ⟨_, rfl⟩
          rw [← hs] at c1 hsN
          obtain ⟨b2, o2, rfl, c2⟩ := HFC.out wr ht3 s hsN
          have hsz : (s : Int) < (N : Int) := by omega
          obtain ⟨x, hx⟩ : ∃ x, x = F.getD s 0 := ⟨_, rfl⟩
          rw [← hx] at c2
          have HS := Lib.hid (show s = Q.getD j 0 ∧ x = F.getD s 0 ∧ j < n from ⟨hs, hx, hlt⟩)
          have hj62 : (j : Int) + 1 < 4611686018427387904 := by have := HP.out; have := HN.out; omega
          have hlen : nn + 1 ≤ 1024 := by have := HI.out; have := HP.out; have := HN.out; omega
          have HW1 := Lib.hid (show wtsOf F (Q.take (j + 1)) = wtsOf F (Q.take j) ++ [x] from by
            have hj : j < Q.length := by rw [← HN.out.1]; exact HS.out.2.2
            rw [List.take_succ_eq_append_getElem hj, wtsOf, List.map_append]
            congr 1
            rw [HS.out.2.1, HS.out.1, getD_at hj]
            rfl)
          have HLW := Lib.hid (show (wtsOf F (Q.take j)).length = nn from by
            rw [wtsOf, List.length_map, List.length_take]; have := HI.out; have := HN.out.1; have := HS.out.2.2; omega)
          clear hs hx ht3 hlt hsN
          go_wp2_with (at_builtin; go_must (refine wpList_append_own_at _ rfl (.tmp 66) (.tmp 71) 24 rfl 0 3 i0 (.int .i64 0) 1 8 Try.underlying24 hi hz0 hz1 hz2 rfl (by decide) _ nn (intsL (wtsOf F (Q.take j))) rfl (by have := HI.out.2.2.choose_spec.1.1.alloc (.cells #[.int .i64 x] 3); rw [HLW.out] at this; exact this) ⟨wr.heap.size, 0, none⟩ 1 1 [.int .i64 x] rfl rfl (news _ _ _ _) (by simp [Value.oneCell']) (by unfold maxLen; omega) (by omega) (Nat.zero_le _) ?_))
          intro v' w5 hown' hgrow _ hat
          have HIO5 := Lib.hid (show IOn w3 (wtsOf F (Q.take (j + 1))) v' w5 from by
            rw [HW1.out]
            exact io_snoc HI.out.2.2 (by rw [HLW.out]; exact hown') hgrow hat)
          obtain ⟨a5, c5, rfl⟩ : ∃ a5 c5, v' = .slice a5 (nn + 1) c5 := by
            obtain ⟨a5, c5, e5⟩ := HIO5.out.shape
            exact ⟨a5, c5, by rw [e5, HW1.out, List.length_append, HLW.out]; rfl⟩
          clear hown' hgrow hat c1 c2 hlen
          go_wp2_with fail
          exact ⟨⟨j + 1, nn + 1, c5, a5, by go_num, rfl, by have := HS.out.2.2; have := HN.out.1; omega, by have := HI.out.2.1; omega, HIO5.out⟩, by simp [intOf]; have := HS.out.2.2; omega⟩
        · have hltz : ¬ (j : Int) < (n : Int) := by omega
          obtain ⟨W, hW⟩ : ∃ W, W = wtsOf F Q := ⟨_, rfl⟩
          have HIW := Lib.hid (show IOn w3 W (.slice oa nn cc) wr ∧ nn = n from by
            have h9 := HI.out.2.2
            have hjn : j = n := by have := HI.out.1; omega
            rw [List.take_of_length_le (by rw [hjn]; exact Nat.le_of_eq HN.out.1.symm), ← hW] at h9
            exact ⟨h9, by rw [HI.out.2.1, hjn]⟩)
          have HW := Lib.hid (show W = wtsOf F Q ∧ W.length = n ∧ (∀ x ∈ W, x ≤ 2 ^ 40) ∧ Rises W from ⟨hW, by rw [hW, wtsOf, List.length_map]; exact HN.out.1.symm, fun x hx => by
            rw [hW, wtsOf, List.mem_map] at hx
            obtain ⟨s, hs, rfl⟩ := hx
            have hsl := ((HP.out.1.mem s).1 hs).1
            exact HP.out.2.2.1 _ (getD_mem hsl), by rw [hW]; exact ord_rises HP.out.1⟩)
          clear hW hlt
          obtain ⟨w5, cur5, hmk5, hb5, hs5, hx5⟩ := make_rows wr L (by have := HP.out; omega)
          obtain ⟨Bq, hBq⟩ : ∃ Bq, Bq = wr.heap.size := ⟨_, rfl⟩
          obtain ⟨w4, hw4⟩ : ∃ w4, w4 = wr := ⟨_, rfl⟩
          rw [← hBq] at hmk5 hb5
          have H5 := Lib.hid (show w5.heap[Bq]? = some (.cells cur5 45 (0, 0)) ∧ cur5.size = 2 * L ∧ Ext w4 w5 ∧ Bq = w4.heap.size ∧ IOn w3 W (.slice oa nn cc) w4 from ⟨hb5, hs5, by rw [hw4]; exact hx5, by rw [hw4]; exact hBq, by rw [hw4]; exact HIW.out.1⟩)
          clear hb5 hs5 hx5 hBq hw4
          have HB5 := Lib.hid (show Bq < w5.heap.size from block_lt H5.out.1)
          have HWV := Lib.hid (show ∀ wr, Touch (fun k => k = Bq) w5 wr → ViewL wr (.slice oa nn cc) (intsL W) from fun wr ht => by
            obtain ⟨og, o1, o2, o3⟩ := H5.out.2.2.2.2
            exact ((o1.keep H5.out.2.2.1 (fun _ _ f => f)).keep ht (fun g e hg => by have := o1.lt g e; have := H5.out.2.2.2.1; omega)).viewL)
          have hLz : (L : Int) < 100 := by have := HP.out; omega
          go_wp2_with fail
          clear hmk5 hltz hLz
          go_loopw [77] (fun vi wr => RowsI W w5 Bq L vi wr) (fun vi _ => L - (intOf vi).toNat)
          case atStart => exact ⟨0, cur5, [], by go_num, Nat.zero_le _, rfl, H5.out.1, H5.out.2.1, fun j a b h => by simp at h, Touch.refl _ _⟩
          case round =>
            obtain ⟨i, cur, rs, rfl, hiL, hrs, hb, hcs, hr, ht⟩ := hrel
            have HI2 := Lib.hid (show i ≤ L ∧ rs.length = i ∧ wr.heap[Bq]? = some (.cells cur 45 (0, 0)) ∧ cur.size = 2 * L ∧ (∀ j a b, rs[j]? = some (a, b) → cur[2 * j]? = some a ∧ cur[2 * j + 1]? = some b ∧ RowV w5 wr a (wts (rowL W j)) ∧ RowV w5 wr b (cnts (rowL W j))) ∧ Touch (fun k => k = Bq) w5 wr from ⟨hiL, hrs, hb, hcs, hr, ht⟩)
            clear hiL hrs hb hcs hr ht
            by_cases hlt : i < L
            · have hltz : (i : Int) < (L : Int) := by omega
              obtain ⟨i1, hi1⟩ : ∃ i1, i1 = i + 1 := ⟨_, rfl⟩
              have wi1 : IntKind.i64.wrap ((i : Int) + 1) = (i1 : Int) := by rw [show (i : Int) + 1 = ((i1 : Nat) : Int) by omega]; exact IntWalk.i64_in _ (by have := HP.out; omega)
              have HI1 := Lib.hid hi1
              have HLT := Lib.hid hlt
              by_cases hi0 : i = 0
              · have hi0z : ¬ (0 : Int) < (i : Int) := by omega
                have hi0n : ¬ 0 < i := by omega
                have HI0 := Lib.hid hi0
                have hnx := lim_next (.slice oa nn cc) W [] (.slice none 0 0) (.slice none 0 0) wr (HWV.out wr HI2.out.2.2.2.2.2) ⟨none, 0, rfl, Nat.le_refl _, fun _ => rfl, fun h => by simp [intsL] at h⟩ (by have := HW.out; have := HP.out; have := HN.out; omega) (by simp) (fun x hx => by have := HW.out.2.2.1 x hx; omega) (fun x hx => by cases hx)
                have HNX := Lib.hid (show Calls Try.prog 18 #[.slice oa nn cc, .agg #[.slice none 0 0, .slice none 0 0]] wr fun e w' => ∃ wv sv, e = .returned (.agg #[wv, sv]) ∧ IOn wr (wts (rowL W i)) wv w' ∧ IOn wr (cnts (rowL W i)) sv w' from by rw [HI0.out]; exact hnx)
                clear hi0 hnx hlt hi1
                go_wp2_with fail
                refine Calls.mono HNX.out ?_
                rintro e w6 ⟨wv, sv, rfl, q1, q2⟩
                obtain ⟨wa, wc, hwv⟩ := q1.shape
                obtain ⟨sa, sc, hsv⟩ := q2.shape
                obtain ⟨nw, hnw⟩ : ∃ nw, nw = (wts (rowL W i)).length := ⟨_, rfl⟩
                obtain ⟨ns, hns⟩ : ∃ ns, ns = (cnts (rowL W i)).length := ⟨_, rfl⟩
                rw [← hnw] at hwv
                rw [← hns] at hsv
                subst hwv hsv
                have HQ := Lib.hid (And.intro q1 q2)
                have b6 : w6.heap[Bq]? = some (.cells cur 45 (0, 0)) := q1.toExt.keep HI2.out.2.2.1 (fun f => f)
                obtain ⟨x0, hx0⟩ : ∃ x0, cur[i * 2]? = some x0 := ⟨_, Array.getElem?_eq_getElem (by have := HI2.out.2.2.2.1; have := HLT.out; omega)⟩
                obtain ⟨x1, hx1⟩ : ∃ x1, cur[i * 2 + 1]? = some x1 := ⟨_, Array.getElem?_eq_getElem (by have := HI2.out.2.2.2.1; have := HLT.out; omega)⟩
                have d0 : w6.cell? ⟨Bq, i * 2, none⟩ = some x0 := by simp [World.cell?, b6, hx0]
                have d1 : w6.cell? ⟨Bq, i * 2 + 1, none⟩ = some x1 := by simp [World.cell?, b6, hx1]
                have d2 : w6.frozen? ⟨Bq, i * 2, none⟩ = false := by simp [World.frozen?, b6]
                have d3 : w6.frozen? ⟨Bq, i * 2 + 1, none⟩ = false := by simp [World.frozen?, b6]
                clear q1 q2 hnw hns b6 hx0 hx1 hi0z hi0n hltz
                go_wp2_with fail
                obtain ⟨a1, a2, a3, a4, a5, a6⟩ := HI2.out
                have hput := rows_put HLT.out a2 a3 a4 a5 a6 HB5.out HQ.out.1 HQ.out.2
                rw [Nat.mul_comm 2 i, ← HI1.out] at hput
                exact ⟨hput, by simp [intOf]; have := HLT.out; have := HI1.out; omega⟩
              · have hi0z : (0 : Int) < (i : Int) := by omega
                have hi0n : 0 < i := by omega
                obtain ⟨ip, hip⟩ : ∃ ip, i = ip + 1 := ⟨i - 1, by omega⟩
                have HIP := Lib.hid hip
                have wip : IntKind.i64.wrap ((i : Int) - 1) = (ip : Int) := by rw [show (i : Int) - 1 = ((ip : Nat) : Int) by omega]; exact IntWalk.i64_in _ (by have := HP.out; omega)
                have ipz : (ip : Int) < (L : Int) := by omega
                obtain ⟨⟨ra, rb⟩, hrr⟩ : ∃ ab, rs[ip]? = some ab := ⟨_, List.getElem?_eq_getElem (by have := HI2.out.2.1; omega)⟩
                obtain ⟨r1, r2, r3, r4⟩ := HI2.out.2.2.2.2.1 ip ra rb hrr
                have hnx := lim_next (.slice oa nn cc) W (wts (rowL W ip)) ra rb wr (HWV.out wr HI2.out.2.2.2.2.2) r3.viewL (by have := HW.out; have := HP.out; have := HN.out; omega) (by rw [wts_len]; have := row_short W ip; have := HW.out; have := HP.out; have := HN.out; omega) (fun x hx => by have := HW.out.2.2.1 x hx; omega) (fun x hx => by
                  have h8 := row_bound HW.out.2.2.1 ip x hx
                  have h9 : 2 ^ ip ≤ 2 ^ 16 := Nat.pow_le_pow_right (by decide) (by have := HLT.out; have := HP.out; omega)
                  have h10 : 2 ^ 40 * 2 ^ ip ≤ 2 ^ 40 * 2 ^ 16 := Nat.mul_le_mul_left _ h9
                  omega)
                have HNX := Lib.hid (show Calls Try.prog 18 #[.slice oa nn cc, .agg #[ra, rb]] wr fun e w' => ∃ wv sv, e = .returned (.agg #[wv, sv]) ∧ IOn wr (wts (rowL W i)) wv w' ∧ IOn wr (cnts (rowL W i)) sv w' from by rw [HIP.out]; exact hnx)
                have g0 : wr.cell? ⟨Bq, ip * 2, none⟩ = some ra := by rw [Nat.mul_comm]; simp [World.cell?, HI2.out.2.2.1, r1]
                have g1 : wr.cell? ⟨Bq, ip * 2 + 1, none⟩ = some rb := by rw [Nat.mul_comm]; simp [World.cell?, HI2.out.2.2.1, r2]
                clear hnx hlt r1 r2 r3 r4 hrr hi0 hip hi1
                go_wp2_with fail
                clear g0 g1 wip ipz
                refine Calls.mono HNX.out ?_
                rintro e w6 ⟨wv, sv, rfl, q1, q2⟩
                obtain ⟨wa, wc, hwv⟩ := q1.shape
                obtain ⟨sa, sc, hsv⟩ := q2.shape
                obtain ⟨nw, hnw⟩ : ∃ nw, nw = (wts (rowL W i)).length := ⟨_, rfl⟩
                obtain ⟨ns, hns⟩ : ∃ ns, ns = (cnts (rowL W i)).length := ⟨_, rfl⟩
                rw [← hnw] at hwv
                rw [← hns] at hsv
                subst hwv hsv
                have HQ := Lib.hid (And.intro q1 q2)
                have b6 : w6.heap[Bq]? = some (.cells cur 45 (0, 0)) := q1.toExt.keep HI2.out.2.2.1 (fun f => f)
                obtain ⟨x0, hx0⟩ : ∃ x0, cur[i * 2]? = some x0 := ⟨_, Array.getElem?_eq_getElem (by have := HI2.out.2.2.2.1; have := HLT.out; omega)⟩
                obtain ⟨x1, hx1⟩ : ∃ x1, cur[i * 2 + 1]? = some x1 := ⟨_, Array.getElem?_eq_getElem (by have := HI2.out.2.2.2.1; have := HLT.out; omega)⟩
                have d0 : w6.cell? ⟨Bq, i * 2, none⟩ = some x0 := by simp [World.cell?, b6, hx0]
                have d1 : w6.cell? ⟨Bq, i * 2 + 1, none⟩ = some x1 := by simp [World.cell?, b6, hx1]
                have d2 : w6.frozen? ⟨Bq, i * 2, none⟩ = false := by simp [World.frozen?, b6]
                have d3 : w6.frozen? ⟨Bq, i * 2 + 1, none⟩ = false := by simp [World.frozen?, b6]
                clear q1 q2 hnw hns b6 hx0 hx1 hi0z hi0n hltz
                go_wp2_with fail
                obtain ⟨a1, a2, a3, a4, a5, a6⟩ := HI2.out
                have hput := rows_put HLT.out a2 a3 a4 a5 a6 HB5.out HQ.out.1 HQ.out.2
                rw [Nat.mul_comm 2 i, ← HI1.out] at hput
                exact ⟨hput, by simp [intOf]; have := HLT.out; have := HI1.out; omega⟩
            · have hltz : ¬ (i : Int) < (L : Int) := by omega
              have HIL := Lib.hid (show i = L from by have := HI2.out.1; omega)
              obtain ⟨w6, hw6⟩ : ∃ w6, w6 = wr := ⟨_, rfl⟩
              have hg0 : w1.heap.size < w3.heap.size := by
                obtain ⟨og, b1, b2, b3⟩ := HB3.out
                rcases b1.form with ⟨_, h, _⟩ | ⟨g, cap', cur', h1, h2, h3, _⟩
                · cases h
                · cases h2; exact block_lt h3
              have hgB : w1.heap.size < Bq := by have := H5.out.2.2.2.1; have := H5.out.2.2.2.2.toExt.size; omega
              have HGB := Lib.hid (show w1.heap.size < Bq ∧ w1.heap.size < w5.heap.size from ⟨hgB, by have := HB5.out; omega⟩)
              have HALL := Lib.hid (show ∀ wr', Touch (fun k => k = w1.heap.size) w6 wr' → ∀ j, j < L → ∃ sv, wr'.cell? ⟨Bq, j * 2 + 1, none⟩ = some sv ∧ ViewL wr' sv (intsL (cnts (rowL W j))) from fun wr' ht j hj => by
                rw [hw6] at ht
                obtain ⟨a1, a2, a3, a4, a5, a6⟩ := HI2.out
                obtain ⟨⟨ra, rb⟩, hrr⟩ : ∃ ab, rs[j]? = some ab := ⟨_, List.getElem?_eq_getElem (by rw [a2, HIL.out]; exact hj)⟩
                obtain ⟨r1, r2, r3, r4⟩ := a5 j ra rb hrr
                have hb' := ht.keep a3 (by have := HGB.out.1; omega)
                refine ⟨rb, by rw [Nat.mul_comm]; simp [World.cell?, hb', r2], (r4.keep ht (fun k e => by have e : k = w1.heap.size := e; have := HGB.out.2; omega)).viewL⟩)
              have HOUT := Lib.hid (show OutB w1.heap.size N (lenInit Q) w6 from by
                rw [hw6]
                obtain ⟨og, b1, b2, b3⟩ := HB3.out
                rw [← HP.out.2.2.2.1, show ((List.range N).map (lenInit Q)).length = N by simp] at b1
                rcases b1.form with ⟨_, h, _⟩ | ⟨g, cap', cur', h1, h2, h3, _⟩
                · cases h
                · cases h2
                  subst h1
                  have c1 := (b1.keep H5.out.2.2.2.2.toExt (fun _ _ f => f)).keep H5.out.2.2.1 (fun _ _ f => f)
                  have c2 := c1.keep HI2.out.2.2.2.2.2 (fun g e h => by cases e; have h : w1.heap.size = Bq := h; have := HGB.out.1; omega)
                  exact c2)
              have HE6 := Lib.hid (show Touch (fun k => k = Bq) w5 w6 from by rw [hw6]; exact HI2.out.2.2.2.2.2)
              have HT3 := Lib.hid (show Ext w3 w5 from H5.out.2.2.2.2.toExt.trans H5.out.2.2.1)
              obtain ⟨t0, ht0⟩ : ∃ t0, t0 = 2 * n - 2 := ⟨_, rfl⟩
              obtain ⟨n2, hn2⟩ : ∃ n2, n2 = 2 * n := ⟨_, rfl⟩
              have wn2 : IntKind.i64.wrap (2 * (n : Int)) = (n2 : Int) := by rw [show 2 * (n : Int) = ((n2 : Nat) : Int) by omega]; exact IntWalk.i64_in _ (by have := HP.out; have := HN.out; omega)
              have wt0 : IntKind.i64.wrap ((n2 : Int) - 2) = (t0 : Int) := by rw [show (n2 : Int) - 2 = ((t0 : Nat) : Int) by have := H0.out; omega]; exact IntWalk.i64_in _ (by have := HP.out; have := HN.out; omega)
              have HT0 := Lib.hid (show t0 = 2 * n - 2 from ht0)
              have HLEN := Lib.hid (show t0 ≤ (rowL W (L - 1)).length from by
                have := row_enough W (L - 1) (by rw [HW.out.2.1, HN.out.1]; have h := HP.out.2.1; rw [show L - 1 + 1 = L by have := HP.out; omega]; exact h) (by rw [HW.out.2.1]; have := H0.out; omega)
                rw [HW.out.2.1] at this
                rw [ht0]; exact this)
              clear hgB ht0 hn2 hlt hg0
              go_wp2_with fail
              rw [← hw6]
              clear hw6 wn2 wt0 hltz
              go_loopw [15, 104] (fun vt vi wr => OutI Q W L t0 N w1.heap.size w6 vt vi wr) (fun _ vi _ => L - (intOf vi).toNat)
              case atStart => exact ⟨0, t0, [], by go_num, by go_num, Nat.zero_le _, rfl, fun _ => ⟨by simp, HLEN.out⟩, fun h => by have := HP.out; omega, by
                have e : (fun s => lenInit Q s + outAt Q [] s) = lenInit Q := funext fun s => by simp [outAt]
                rw [e]; exact HOUT.out, Touch.refl _ _⟩
              case round =>
                obtain ⟨i2, t, ks, rfl, rfl, hiL, hks, htk, htl, hob, ht⟩ := hrel
                have HI3 := Lib.hid (show i2 ≤ L ∧ ks.length = i2 ∧ (i2 < L → takes W (L - 1) t0 = ks ++ takes W (L - 1 - i2) t ∧ t ≤ (rowL W (L - 1 - i2)).length) ∧ (i2 = L → takes W (L - 1) t0 = ks) ∧ OutB w1.heap.size N (fun s => lenInit Q s + outAt Q ks s) wr ∧ Touch (fun k => k = w1.heap.size) w6 wr from ⟨hiL, hks, htk, htl, hob, ht⟩)
                clear hiL hks htk htl hob ht
                by_cases hlt : i2 < L
                · have hltz : (i2 : Int) < (L : Int) := by omega
                  obtain ⟨d, hd⟩ : ∃ d, d = L - 1 - i2 := ⟨_, rfl⟩
                  obtain ⟨Lp, hLp⟩ : ∃ Lp, Lp = L - 1 := ⟨_, rfl⟩
                  have wL : IntKind.i64.wrap ((L : Int) - 1) = (Lp : Int) := by rw [show (L : Int) - 1 = ((Lp : Nat) : Int) by omega]; exact IntWalk.i64_in _ (by have := HP.out; omega)
                  have wd : IntKind.i64.wrap ((Lp : Int) - (i2 : Int)) = (d : Int) := by rw [show (Lp : Int) - (i2 : Int) = ((d : Nat) : Int) by omega]; exact IntWalk.i64_in _ (by have := HP.out; omega)
                  have hdL : d < L := by omega
                  have hdz : (d : Int) < (L : Int) := by omega
                  obtain ⟨i3, hi3⟩ : ∃ i3, i3 = i2 + 1 := ⟨_, rfl⟩
                  have wi3 : IntKind.i64.wrap ((i2 : Int) + 1) = (i3 : Int) := by rw [show (i2 : Int) + 1 = ((i3 : Nat) : Int) by omega]; exact IntWalk.i64_in _ (by have := HP.out; omega)
                  have HD := Lib.hid (show d = L - 1 - i2 ∧ i2 < L ∧ i3 = i2 + 1 from ⟨hd, hlt, hi3⟩)
                  obtain ⟨sv, s1, s2⟩ := HALL.out wr HI3.out.2.2.2.2.2 d hdL
                  have htd : t ≤ (rowL W d).length := by rw [hd]; exact (HI3.out.2.2.1 hlt).2
                  have hrs := row_short W d
                  have htb : t ≤ 1024 := by have := HW.out.2.1; have := HP.out; have := HN.out; omega
                  have hfr := lim_first (cnts (rowL W d)) Bq (d * 2) t sv wr s1 s2 (by rw [cnts_len]; exact htd) (by rw [cnts_len]; have := HW.out.2.1; have := HP.out; have := HN.out; omega)
                  obtain ⟨k, hk⟩ : ∃ k, k = syms (rowL W d) t := ⟨_, rfl⟩
                  have hkn : (if t = 0 then (0 : Int) else (((cnts (rowL W d)).getD (t - 1) 0 : Nat) : Int)) = (k : Int) := by
                    rw [hk, ← cnts_get (rowL W d) t htd]
                    by_cases h : t = 0
                    · rw [if_pos h, if_pos h]; rfl
                    · rw [if_neg h, if_neg h]
                  rw [hkn] at hfr
                  have hkle : k ≤ n := by
                    rw [hk]
                    have hh : syms (rowL W d) t ≤ W.length := by
                      cases d with
                      | zero => exact (takes_end W t htd).2
                      | succ d' => exact (takes_step W d' t htd).2.2
                    rw [HW.out.2.1] at hh; exact hh
                  have hkt : k ≤ t := by rw [hk]; exact syms_le _ _
                  have hpc : n ≤ pc := by
                    obtain ⟨_, cap', e, hh, _⟩ := HIO.out.viewL
                    rw [length_intsL] at hh
                    cases e
                    have := HN.out.1; omega
                  obtain ⟨pb, pof, e1, _⟩ := HPC.out w3 (Touch.refl _ _) 0 (by have := H0.out; omega)
                  cases e1
                  have HK := Lib.hid (show k = syms (rowL W d) t ∧ k ≤ n ∧ k ≤ t ∧ t ≤ 1024 ∧ t ≤ (rowL W d).length from ⟨hk, hkle, hkt, htb, htd⟩)
                  have hkz : (k : Int) ≤ (pc : Int) := by omega
                  have hkc : ¬ (pc : Int) < (k : Int) := by omega
                  obtain ⟨tk, htk⟩ : ∃ tk, tk = t - k := ⟨_, rfl⟩
                  obtain ⟨tn, htn⟩ : ∃ tn, tn = 2 * (t - k) := ⟨_, rfl⟩
                  have wtk : IntKind.i64.wrap ((t : Int) - (k : Int)) = (tk : Int) := by rw [show (t : Int) - (k : Int) = ((tk : Nat) : Int) by omega]; exact IntWalk.i64_in _ (by omega)
                  have wtn : IntKind.i64.wrap (2 * (tk : Int)) = (tn : Int) := by rw [show 2 * (tk : Int) = ((tn : Nat) : Int) by omega]; exact IntWalk.i64_in _ (by omega)
                  have HTN := Lib.hid (show tn = 2 * (t - k) from htn)
                  have HFR := Lib.hid hfr
                  clear hd hLp hlt hi3 s1 s2 htd hrs htb hfr hk hkn hkle hkt hpc htk htn hdL
                  go_wp2_with fail
                  refine Calls.mono HFR.out ?_
                  rintro e wf ⟨rfl, rfl⟩
                  clear HFR
                  go_wp2_with fail
                  clear hkz hkc hdz wL wd
                  go_loopw [119] (fun vj wr => OutJ Q ks k N w1.heap.size w6 vj wr) (fun vj _ => k - (intOf vj).toNat)
                  case atStart => exact ⟨0, by go_num, Nat.zero_le _, by
                    have e : (fun s => lenInit Q s + outAt Q ks s + if s ∈ Q.take 0 then 1 else 0) = fun s => lenInit Q s + outAt Q ks s := funext fun s => by simp
                    rw [e]; exact HI3.out.2.2.2.2.1, HI3.out.2.2.2.2.2⟩
                  case round =>
                    obtain ⟨j, rfl, hjk, hob, ht⟩ := hrel
                    have HJ := Lib.hid (show j ≤ k ∧ OutB w1.heap.size N (fun s => lenInit Q s + outAt Q ks s + if s ∈ Q.take j then 1 else 0) wr ∧ Touch (fun k => k = w1.heap.size) w6 wr from ⟨hjk, hob, ht⟩)
                    clear hjk hob ht
                    by_cases hlt : j < k
                    · have hltz : (j : Int) < (k : Int) := by omega
                      have hjn : j < n := by have := HK.out.2.1; omega
                      have HTW := Lib.hid (show Touch (fun k => k = w1.heap.size) w3 wr from by
                        have h1 : Touch (fun k => k = w1.heap.size) w3 w6 := ((HT3.out.mono (fun _ _ f => f.elim)).trans HE6.out (fun k hk e => by have e : k = Bq := e; have := HT3.out.size; have := H5.out.2.2.2.1; have := H5.out.2.2.2.2.toExt.size; omega))
                        exact h1.trans HJ.out.2.2 (fun _ _ e => e))
                      obtain ⟨pb', po', e1, c1⟩ := HPC.out wr HTW.out j hjn
                      cases e1
                      have hsN := HQF.out j hjn
                      obtain ⟨s, hs⟩ : ∃ s, s = Q.getD j 0 := ⟨_, rfl⟩
                      rw [← hs] at c1 hsN
                      have hsz : (s : Int) < (N : Int) := by omega
                      obtain ⟨g1, g2⟩ := HJ.out.2.1.get s hsN
                      obtain ⟨x, hx⟩ : ∃ x, x = lenInit Q s + outAt Q ks s + (if s ∈ Q.take j then 1 else 0) := ⟨_, rfl⟩
                      rw [← hx] at g1
                      have hxb : x ≤ 100 := by
                        have h1 := lenInit_le Q s
                        have h2 := outAt_le Q ks s
                        have h3 := HI3.out.2.1
                        have h4 := HP.out
                        have h5 : (if s ∈ Q.take j then 1 else 0) ≤ 1 := by split <;> omega
                        omega
                      obtain ⟨x1, hx1⟩ : ∃ x1, x1 = x + 1 := ⟨_, rfl⟩
                      have wx : IntKind.u8.wrap ((x : Int) + 1) = (x1 : Int) := by rw [show (x : Int) + 1 = ((x1 : Nat) : Int) by omega]; exact IntWalk.u8_in _ (by omega)
                      obtain ⟨j1, hj1⟩ : ∃ j1, j1 = j + 1 := ⟨_, rfl⟩
                      have wj1 : IntKind.i64.wrap ((j : Int) + 1) = (j1 : Int) := by rw [show (j : Int) + 1 = ((j1 : Nat) : Int) by omega]; exact IntWalk.i64_in _ (by have := HK.out; omega)
                      have HS := Lib.hid (show s = Q.getD j 0 ∧ j < n ∧ s < N ∧ x = lenInit Q s + outAt Q ks s + (if s ∈ Q.take j then 1 else 0) ∧ x1 = x + 1 ∧ j1 = j + 1 ∧ j < k from ⟨hs, hjn, hsN, hx, hx1, hj1, hlt⟩)
                      clear hs hjn hsN hx hx1 hj1 hlt hxb
                      go_wp2_with fail
                      obtain ⟨q1, q2, q3, q4, q5, q6, q7⟩ := HS.out
                      have hjl : j < Q.length := by rw [← HN.out.1]; exact q2
                      have hnd := before_nodup HP.out.1.up
                      have hsj : s = Q[j] := by rw [q1, getD_at hjl]
                      have htake : Q.take j1 = Q.take j ++ [s] := by rw [q6, List.take_succ_eq_append_getElem hjl, hsj]
                      have hnot : s ∉ Q.take j := by
                        rw [hsj, mem_take_nodup hnd j j hjl]; omega
                      have hput := HJ.out.2.1.put (f' := fun s => lenInit Q s + outAt Q ks s + if s ∈ Q.take j1 then 1 else 0) s q3 (fun k hk => by
                        show _ + _ + _ = _ + _ + _
                        congr 1
                        rw [htake]
                        simp [hk])
                      have hval : lenInit Q s + outAt Q ks s + (if s ∈ Q.take j1 then 1 else 0) = x1 := by
                        rw [q5, q4, if_neg hnot, if_pos (by rw [htake]; simp)]
                      simp only [hval] at hput
                      exact ⟨⟨j1, rfl, by omega, hput, Touch.setCell (S := fun k => k = w1.heap.size) HJ.out.2.2 (Or.inl rfl) _⟩, by simp [intOf]; omega⟩
                    · have hltz : ¬ (j : Int) < (k : Int) := by omega
                      have HJK := Lib.hid (show j = k from by have := HJ.out.1; omega)
                      clear hlt
                      go_wp2_with fail
                      obtain ⟨a1, a2, a3, a4, a5, a6⟩ := HI3.out
                      obtain ⟨b1, b2, b3⟩ := HJ.out
                      obtain ⟨d1, d2, d3⟩ := HD.out
                      obtain ⟨k1, k2, k3, k4, k5⟩ := HK.out
                      obtain ⟨a3a, a3b⟩ := a3 d2
                      rw [← d1] at a3a a3b
                      refine ⟨⟨i3, tn, ks ++ [k], rfl, rfl, by omega, by rw [List.length_append, a2, d3]; rfl, fun h => ?_, fun h => ?_, ?_, b3⟩, by simp [intOf]; omega⟩
                      · obtain ⟨d', hd'⟩ : ∃ d', d = d' + 1 := ⟨d - 1, by omega⟩
                        rw [hd'] at a3a a3b k1
                        obtain ⟨z1, z2, z3⟩ := takes_step W d' t a3b
                        rw [show L - 1 - i3 = d' by omega, HTN.out, k1]
                        exact ⟨by rw [a3a, z1]; simp, z2⟩
                      · have hd0 : d = 0 := by omega
                        rw [hd0] at a3a a3b k1
                        rw [a3a, (takes_end W t a3b).1, k1]
                      · have e : (fun s => lenInit Q s + outAt Q (ks ++ [k]) s) = fun s => lenInit Q s + outAt Q ks s + if s ∈ Q.take j then 1 else 0 := funext fun s => by
                          rw [outAt_cons, HJK.out, Nat.add_assoc]
                        rw [e]; exact b2
                · have hltz : ¬ (i2 : Int) < (L : Int) := by omega
                  have HI2L := Lib.hid (show i2 = L from by have := HI3.out.1; omega)
                  clear hlt
                  go_wp2_with fail
                  go_ret2
                  obtain ⟨a1, a2, a3, a4, a5, a6⟩ := HI3.out
                  have hks := a4 HI2L.out
                  refine ⟨_, rfl, some w1.heap.size, ?_, fun g e => by cases e; exact HIO.out.toExt.size, ?_⟩
                  · have e : (List.range N).map (fun s => lenInit Q s + outAt Q ks s) = lensP F Q (L - 1) := by
                      rw [lensP, ← HP.out.2.2.2.1]
                      refine List.map_congr_left fun s _ => ?_
                      rw [lenP, lenOf, ← HW.out.1, ← HN.out.1, ← HT0.out, hks]
                    have el : (lensP F Q (L - 1)).length = N := by rw [← e]; simp
                    rw [el, ← e]
                    exact a5
                  · have h1 : Touch (fun k => k = w1.heap.size) w3 w6 := ((HT3.out.mono (fun _ _ f => f.elim)).trans HE6.out (fun k hk e => by have e : k = Bq := e; have := HT3.out.size; have := H5.out.2.2.2.1; have := H5.out.2.2.2.2.toExt.size; omega))
                    have h2 := h1.trans a6 (fun _ _ e => e)
                    exact (HIO.out.toExt.trans HB3.out.toExt).touch h2 (fun k hk e => by have e : k = w1.heap.size := e; have := HIO.out.toExt.size; omega)
end Go.Proofs.Ytblbggdglndiiaa
