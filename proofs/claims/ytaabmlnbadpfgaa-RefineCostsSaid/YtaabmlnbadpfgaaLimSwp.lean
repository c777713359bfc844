/- slices.swapRangeCmpFunc of ints: its walk. The row that is sorted, as a list; its world; what is asked of the comparison. slices.rotateCmpFunc of ints: its walk. slices.insertionSortCmpFunc of ints, by limit.rarest's comparison: its walk. -/
import Derived.Sort.WalkA
import Derived.Sort.WalkC
import Derived.BigRegion
import Derived.BigQuiet
import Derived.Deep.LoopGhost
import Derived.WalkKit
import Derived.Test.YtaabmlnbadpfgaaLimCmps
import Derived.Test.YtaabmlnbadpfgaaLimPlain
import Derived.Shelf.RegionOpenPlain
/-! slices.swapRangeCmpFunc of ints: its walk. -/
namespace Go.Proofs.Ytaabmlnbadpfgaa
open Go.RowKit Go.Sort
set_option linter.unusedVariables false

def encN (s : Nat) : Value := .int .i64 s
/-- so many exchanged, from two places on. -/
def swpR (d : Array Nat) (a b : Nat) : Nat → Array Nat
  | 0 => d
  | n + 1 => swp (swpR d a b n) (a + n) (b + n)
theorem size_swpR (d : Array Nat) (a b : Nat) : ∀ n, (swpR d a b n).size = d.size
  | 0 => rfl
  | n + 1 => by rw [swpR, size_swp, size_swpR d a b n]
set_option maxHeartbeats 1000000 in
theorem lim_swapRange (blk off cap a b n : Nat) (fv : Value) (d : Array Nat) (w : World) (hH : Holds encN w blk off d) (hab : a + n ≤ b) (hb : b + n ≤ d.size) (hsz : d.size ≤ 2 ^ 40) :
    Calls Try.prog 73 #[.slice (some ⟨blk, off, none⟩) d.size cap, .int .i64 a, .int .i64 b, .int .i64 n, fv] w fun e w' => e = .returned (.tuple #[]) ∧ ∃ m, w' = (putRow encN w blk off (swpR d a b n)).drewN m := by
  have HST : Hid (w = (putRow encN w blk off d).drewN 0) := (putRow_self encN w blk off d hH).symm
  have HH : Hid (Holds encN w blk off d) := hH
  clear hH
  go_enter Try.func73, Try.ntmps73
  go_wp2_with fail
  go_loopw [10] (fun vi wr => ∃ (i m : Nat), vi = .int .i64 i ∧ i ≤ n ∧ wr = (putRow encN w blk off (swpR d a b i)).drewN m) (fun vi _ => n - (intOf vi).toNat)
  case atStart => exact ⟨0, 0, by go_num, by omega, HST.out⟩
  case round =>
    obtain ⟨i, m, rfl, hi, hwr⟩ := hrel
    by_cases hlt : i < n
    · have hltz : (i : Int) < (n : Int) := by omega
      have hHj := holds_putRow encN w blk off d (swpR d a b i) HH.out (size_swpR d a b i)
      obtain ⟨ca, fa⟩ := hHj (a + i) (by rw [size_swpR]; omega)
      obtain ⟨cb, fb⟩ := hHj (b + i) (by rw [size_swpR]; omega)
      obtain ⟨xa, hxa⟩ : ∃ x, (swpR d a b i)[a + i]! = x := ⟨_, rfl⟩
      obtain ⟨xb, hxb⟩ : ∃ x, (swpR d a b i)[b + i]! = x := ⟨_, rfl⟩
      rw [hxa] at ca
      rw [hxb] at cb
      have za : (a : Int) + (i : Int) < (d.size : Int) := by omega
      have zb : (b : Int) + (i : Int) < (d.size : Int) := by omega
      have wa : IntKind.i64.wrap ((a : Int) + (i : Int)) = ((a + i : Nat) : Int) := by rw [show (a : Int) + (i : Int) = ((a + i : Nat) : Int) by omega]; exact IntWalk.i64_in _ (by omega)
      have wb : IntKind.i64.wrap ((b : Int) + (i : Int)) = ((b + i : Nat) : Int) := by rw [show (b : Int) + (i : Int) = ((b + i : Nat) : Int) by omega]; exact IntWalk.i64_in _ (by omega)
      have ca' : wr.cell? ⟨blk, off + (a + i), none⟩ = some (encN xa) := by rw [hwr]; exact ca
      have cb' : wr.cell? ⟨blk, off + (b + i), none⟩ = some (encN xb) := by rw [hwr]; exact cb
      have fa' : wr.frozen? ⟨blk, off + (a + i), none⟩ = false := by rw [hwr]; exact fa
      have fb' : wr.frozen? ⟨blk, off + (b + i), none⟩ = false := by rw [hwr]; exact fb
      have HW : Hid (wr = (putRow encN w blk off (swpR d a b i)).drewN m) := hwr
      obtain ⟨p, hp⟩ : ∃ p, p = a + i := ⟨_, rfl⟩
      obtain ⟨q, hq⟩ : ∃ q, q = b + i := ⟨_, rfl⟩
      rw [← hp] at ca' fa' wa
      rw [← hq] at cb' fb' wb
      have pz : (p : Int) < (d.size : Int) := by omega
      have qz : (q : Int) < (d.size : Int) := by omega
      have n1 : ¬ p = q := by omega
      have n2 : ¬ q = p := by omega
      have HP : Hid (p = a + i ∧ q = b + i) := ⟨hp, hq⟩
      simp only [encN] at ca' cb'
      clear hp hq hwr ca cb fa fb hHj
      go_wp2_with fail
      go_big_region
      all_goals go_wp2
      refine ⟨⟨i + 1, m + 1, by go_num, by omega, ?_⟩, by simp [intOf]; omega⟩
      rw [HP.out.1, HP.out.2, HW.out, ← hxa, ← hxb]
      exact swap_worldC encN w blk off (swpR d a b i) m (a + i) (b + i) (by rw [size_swpR]; omega) (by rw [size_swpR]; omega)
    · obtain rfl : i = n := by omega
      go_wp2_with fail
      go_end0
      exact ⟨rfl, m, rfl⟩
end Go.Proofs.Ytaabmlnbadpfgaa

/-! The row that is sorted, as a list; its world; what is asked of the comparison. -/
namespace Go.Proofs.Ytaabmlnbadpfgaa
open Go.RowKit Go.Sort
set_option linter.unusedVariables false

/-- the world in which the row is l, m draws on. -/
def SW (w : World) (blk off : Nat) (l : List Nat) (m : Nat) : World := (putRow encN w blk off l.toArray).drewN m
theorem get_toArray (l : List Nat) (j : Nat) : l.toArray[j]! = l.getD j 0 := by
  rw [List.getElem!_toArray, List.getD_eq_getElem?_getD]
  simp [getElem!_def]
  cases h : l[j]? <;> rfl
theorem SW_self {w : World} {blk off : Nat} {l : List Nat} (h : Holds encN w blk off l.toArray) : SW w blk off l 0 = w := putRow_self encN w blk off l.toArray h
theorem SW_drewN (w : World) (blk off : Nat) (l : List Nat) (m q : Nat) : (SW w blk off l m).drewN q = SW w blk off l (m + q) := by
  unfold SW; rw [World.drewN_drewN]
theorem SW_cell {w : World} {blk off : Nat} {l0 : List Nat} (h : Holds encN w blk off l0.toArray) {l : List Nat} (hl : l.length = l0.length) (m j : Nat) (hj : j < l0.length) :
    (SW w blk off l m).cell? ⟨blk, off + j, none⟩ = some (.int .i64 (l.getD j 0 : Nat)) := by
  have := (holds_putRow encN w blk off l0.toArray l.toArray h (by simpa using hl) j (by simpa using hl ▸ hj)).1
  rw [get_toArray] at this
  exact this
theorem SW_frozen {w : World} {blk off : Nat} {l0 : List Nat} (h : Holds encN w blk off l0.toArray) {l : List Nat} (hl : l.length = l0.length) (m j : Nat) (hj : j < l0.length) :
    (SW w blk off l m).frozen? ⟨blk, off + j, none⟩ = false :=
  (holds_putRow encN w blk off l0.toArray l.toArray h (by simpa using hl) j (by simpa using hl ▸ hj)).2
theorem SW_swap (w : World) (blk off : Nat) (l l' : List Nat) (m i j : Nat) (hi : i < l.length) (hj : j < l.length) (h : swp l.toArray i j = l'.toArray) :
    (((SW w blk off l m).setCell ⟨blk, off + i, none⟩ (.int .i64 (l.getD j 0 : Nat))).setCell ⟨blk, off + j, none⟩ (.int .i64 (l.getD i 0 : Nat))).drew = SW w blk off l' (m + 1) := by
  have := swap_worldC encN w blk off l.toArray m i j (by simpa using hi) (by simpa using hj)
  rw [get_toArray, get_toArray, h] at this
  exact this
theorem SW_of_holds {w : World} {blk off : Nat} {l0 : List Nat} (h : Holds encN w blk off l0.toArray) {l : List Nat} (hl : l.length = l0.length) (m : Nat) : Holds encN (SW w blk off l m) blk off l.toArray :=
  holds_putRow encN w blk off l0.toArray l.toArray h (by simpa using hl)
theorem SW_SW {w : World} {blk off : Nat} {l l' : List Nat} {m m' : Nat} (hl : l'.length = l.length) : SW (SW w blk off l m) blk off l' m' = SW w blk off l' (m + m') := by
  unfold SW
  rw [show putRow encN ((putRow encN w blk off l.toArray).drewN m) blk off l'.toArray = (putRow encN (putRow encN w blk off l.toArray) blk off l'.toArray).drewN m from rfl, putRow_putRow _ _ _ _ _ _ (by simpa using hl), World.drewN_drewN]
/-- two that lie beside each other, exchanged. -/
theorem swp_beside (A B : List Nat) (x y : Nat) : swp (A ++ x :: y :: B).toArray A.length (A.length + 1) = (A ++ y :: x :: B).toArray := by
  apply Array.toList_inj.1
  rw [swp, get_toArray, get_toArray]
  simp
theorem swp_beside' (A B : List Nat) (x y : Nat) : swp (A ++ x :: y :: B).toArray (A.length + 1) A.length = (A ++ y :: x :: B).toArray := by
  apply Array.toList_inj.1
  rw [swp, get_toArray, get_toArray]
  simp
theorem swp_apart (A B C : List Nat) (x y i j : Nat) (hi : i = A.length) (hj : j = (A ++ x :: B).length) : swp (A ++ x :: B ++ y :: C).toArray i j = (A ++ y :: B ++ x :: C).toArray := by
  subst hi hj
  apply Array.toList_inj.1
  rw [swp, get_toArray, get_toArray]
  have e1 : (A ++ x :: B ++ y :: C).getD A.length 0 = x := by simp
  have e2 : (A ++ x :: B ++ y :: C).getD (A ++ x :: B).length 0 = y := by
    rw [List.getD_eq_getElem?_getD, List.getElem?_append_right (Nat.le_refl _)]; simp
  rw [e1, e2]
  simp only [Array.toList_setIfInBounds]
  rw [List.append_assoc, List.set_append_right _ _ (Nat.le_refl _), Nat.sub_self]
  rw [show (x :: B ++ y :: C).set 0 y = y :: B ++ y :: C from rfl, ← List.append_assoc, List.set_append_right _ _ (by simp)]
  simp
/-- rows of like length, exchanged. -/
theorem swpR_lists (P Y S X Z : List Nat) (hl : X.length = Z.length) : ∀ t, t ≤ X.length → swpR (P ++ X ++ Y ++ Z ++ S).toArray P.length (P ++ X ++ Y).length t = (P ++ Z.take t ++ X.drop t ++ Y ++ X.take t ++ Z.drop t ++ S).toArray
  | 0, _ => by simp [swpR]
  | t + 1, h => by
    rw [swpR, swpR_lists P Y S X Z hl t (by omega)]
    have hx : X.drop t = X[t]'(by omega) :: X.drop (t + 1) := (List.drop_eq_getElem_cons (by omega))
    have hz : Z.drop t = Z[t]'(by omega) :: Z.drop (t + 1) := (List.drop_eq_getElem_cons (by omega))
    have hx2 : X.take (t + 1) = X.take t ++ [X[t]'(by omega)] := by rw [List.take_add_one, List.getElem?_eq_getElem (by omega)]; rfl
    have hz2 : Z.take (t + 1) = Z.take t ++ [Z[t]'(by omega)] := by rw [List.take_add_one, List.getElem?_eq_getElem (by omega)]; rfl
    have := swp_apart (P ++ Z.take t) (X.drop (t + 1) ++ Y ++ X.take t) (Z.drop (t + 1) ++ S) (X[t]'(by omega)) (Z[t]'(by omega)) (P.length + t) ((P ++ X ++ Y).length + t) (by simp; omega) (by simp; omega)
    rw [hx, hz, hx2, hz2]
    simp only [List.append_assoc, List.cons_append, List.nil_append] at this ⊢
    exact this
theorem swpR_all {P Y S X Z : List Nat} (hl : X.length = Z.length) {a b n : Nat} (ha : a = P.length) (hb : b = (P ++ X ++ Y).length) (hn : n = X.length) : swpR (P ++ X ++ Y ++ Z ++ S).toArray a b n = (P ++ Z ++ Y ++ X ++ S).toArray := by
  subst ha hb hn
  rw [swpR_lists P Y S X Z hl X.length (Nat.le_refl _)]
  rw [List.drop_length, List.take_length, hl, List.drop_length, List.take_length]
  simp
/-- the walk of an exchange of rows, in lists. -/
theorem lim_swapRange_l (blk off cap : Nat) (fv : Value) (l0 P Y S X Z : List Nat) (w : World) (m0 a b n N : Nat) (hH : Holds encN w blk off l0.toArray) (hN : N = l0.length) (hl0 : (P ++ X ++ Y ++ Z ++ S).length = l0.length) (hl : X.length = Z.length) (ha : a = P.length) (hb : b = (P ++ X ++ Y).length) (hn : n = X.length) (hsz : l0.length ≤ 2 ^ 40) :
    Calls Try.prog 73 #[.slice (some ⟨blk, off, none⟩) N cap, .int .i64 a, .int .i64 b, .int .i64 n, fv] (SW w blk off (P ++ X ++ Y ++ Z ++ S) m0) fun e w' => e = .returned (.tuple #[]) ∧ ∃ m, w' = SW w blk off (P ++ Z ++ Y ++ X ++ S) m := by
  have hs : (P ++ X ++ Y ++ Z ++ S).toArray.size = N := by rw [hN, ← hl0, List.size_toArray]
  have h := lim_swapRange blk off cap a b n fv (P ++ X ++ Y ++ Z ++ S).toArray (SW w blk off (P ++ X ++ Y ++ Z ++ S) m0) (SW_of_holds hH hl0 m0) (by subst ha hb hn; simp) (by rw [hs, hN, ← hl0]; subst hb hn; simp; omega) (by rw [hs, hN]; exact hsz)
  rw [hs] at h
  refine h.mono ?_
  rintro e w' ⟨rfl, m, rfl⟩
  refine ⟨rfl, m0 + m, ?_⟩
  rw [swpR_all hl ha hb hn]
  exact SW_SW (by simp; omega)
end Go.Proofs.Ytaabmlnbadpfgaa

/-! slices.rotateCmpFunc of ints: its walk. -/
namespace Go.Proofs.Ytaabmlnbadpfgaa
open Go.RowKit Go.Sort
set_option linter.unusedVariables false

set_option maxHeartbeats 1000000 in
theorem lim_rotate (blk off cap : Nat) (fv : Value) (l0 P L R S : List Nat) (w : World) (m0 a m b N : Nat) (hH : Holds encN w blk off l0.toArray) (hN : N = l0.length) (hl0 : (P ++ L ++ R ++ S).length = l0.length) (ha : a = P.length) (hm : m = (P ++ L).length) (hb : b = (P ++ L ++ R).length) (hL : L ≠ []) (hR : R ≠ []) (hsz : l0.length ≤ 2 ^ 40) :
    Calls Try.prog 72 #[.slice (some ⟨blk, off, none⟩) N cap, .int .i64 a, .int .i64 m, .int .i64 b, fv] (SW w blk off (P ++ L ++ R ++ S) m0) fun e w' => e = .returned (.tuple #[]) ∧ ∃ m, w' = SW w blk off (P ++ R ++ L ++ S) m := by
  have HH : Hid (Holds encN w blk off l0.toArray) := hH
  have mlt : m ≤ N := by rw [hN, ← hl0, hm]; simp; try omega
  have blt : b ≤ N := by rw [hN, ← hl0, hb]; simp; try omega
  have nlt : N ≤ 2 ^ 40 := by omega
  have i1 : IntKind.i64.wrap ((m : Int) - (a : Int)) = (L.length : Int) := by rw [show (m : Int) - (a : Int) = ((L.length : Nat) : Int) by subst ha hm; simp; try omega]; exact IntWalk.i64_in _ (by subst hm; simp at mlt; omega)
  have j1 : IntKind.i64.wrap ((b : Int) - (m : Int)) = (R.length : Int) := by rw [show (b : Int) - (m : Int) = ((R.length : Nat) : Int) by subst hb hm; simp; try omega]; exact IntWalk.i64_in _ (by subst hb; simp at blt; omega)
  have HF : Hid (N = l0.length ∧ (P ++ L ++ R ++ S).length = l0.length ∧ a = P.length ∧ m = (P ++ L).length ∧ b = (P ++ L ++ R).length ∧ L ≠ [] ∧ R ≠ [] ∧ N ≤ 2 ^ 40) := ⟨hN, hl0, ha, hm, hb, hL, hR, nlt⟩
  clear hH hl0 ha hm hb hL hR nlt blt mlt hN hsz
  go_enter Try.func72, Try.ntmps72
  go_wp2_with fail
  go_loopw [10, 11] (fun vi vj wr => ∃ (i j k : Nat) (X L' R' Y : List Nat), vi = .int .i64 i ∧ vj = .int .i64 j ∧ i = L'.length ∧ j = R'.length ∧ 0 < i ∧ 0 < j ∧ m = (P ++ X ++ L').length ∧ X ++ R' ++ L' ++ Y = R ++ L ∧ wr = SW w blk off (P ++ X ++ L' ++ R' ++ Y ++ S) k) (fun vi vj _ => (intOf vi).toNat + (intOf vj).toNat)
  case atStart =>
    obtain ⟨_, _, _, hm, _, hL, hR, _⟩ := HF.out
    exact ⟨L.length, R.length, m0, [], L, R, [], by go_num, by go_num, rfl, rfl, List.length_pos_iff.2 hL, List.length_pos_iff.2 hR, by simpa using hm, by simp, by simp⟩
  case round =>
    obtain ⟨i, j, k, X, L', R', Y, rfl, rfl, hi, hj, i0, j0, hm', hsum, hwr⟩ := hrel
    have HI : Hid (i = L'.length ∧ j = R'.length ∧ 0 < i ∧ 0 < j ∧ m = (P ++ X ++ L').length ∧ X ++ R' ++ L' ++ Y = R ++ L ∧ wr = SW w blk off (P ++ X ++ L' ++ R' ++ Y ++ S) k) := ⟨hi, hj, i0, j0, hm', hsum, hwr⟩
    clear hi hj i0 j0 hm' hsum hwr
    have bounds : i ≤ 2 ^ 40 ∧ j ≤ 2 ^ 40 ∧ m ≤ 2 ^ 40 ∧ N = l0.length ∧ N = (P ++ X ++ L' ++ R' ++ Y ++ S).length ∧ (P ++ X).length + i = m := by
      obtain ⟨a1, a2, a3, a4, a5, a6, a7, a8⟩ := HF.out
      obtain ⟨b1, b2, b3, b4, b5, b6, b7⟩ := HI.out
      have h1 := congrArg List.length b6
      simp only [List.length_append] at *
      omega
    have HB : Hid _ := bounds
    obtain ⟨p, hp⟩ : ∃ p, p = (P ++ X).length := ⟨_, rfl⟩
    obtain ⟨bi, bj, bm, hN, hN2, hpm⟩ := bounds
    rw [← hp] at hpm
    have HP : Hid (p = (P ++ X).length ∧ p + i = m) := ⟨hp, hpm⟩
    have e1 : IntKind.i64.wrap ((m : Int) - (i : Int)) = (p : Int) := by rw [show (m : Int) - (i : Int) = ((p : Nat) : Int) by omega]; exact IntWalk.i64_in _ (by omega)
    by_cases hij : i = j
    · have c1 : ((i : Int) == (j : Int)) = true := by rw [beq_iff_eq]; omega
      have HIJ : Hid (i = j) := hij
      clear bi bj bm hN hN2 hpm hp hij
      have hc : Calls Try.prog 73 #[.slice (some ⟨blk, off, none⟩) N cap, .int .i64 p, .int .i64 m, .int .i64 i, fv] wr fun e w' => e = .returned (.tuple #[]) ∧ ∃ m, w' = SW w blk off (P ++ R ++ L ++ S) m := by
        obtain ⟨b1, b2, b3, b4, b5, b6, b7⟩ := HI.out
        obtain ⟨a1, a2⟩ := HP.out
        obtain ⟨_, _, _, c4, c5, _⟩ := HB.out
        have hlen : L'.length = R'.length := by rw [← b1, ← b2]; exact HIJ.out
        rw [b7, show P ++ X ++ L' ++ R' ++ Y ++ S = (P ++ X) ++ L' ++ [] ++ R' ++ (Y ++ S) by simp]
        refine (lim_swapRange_l blk off cap fv l0 (P ++ X) [] (Y ++ S) L' R' w k p m i N HH.out c4 (by rw [← c4, c5]; simp) hlen a1 (by rw [b5]; simp) b1 (by have := HF.out; omega)).mono ?_
        rintro e w' ⟨rfl, q, rfl⟩
        refine ⟨rfl, q, ?_⟩
        congr 1
        rw [show P ++ R ++ L ++ S = P ++ (R ++ L) ++ S by simp, ← b6]
        simp
      go_wp2_with fail
      refine hc.mono ?_
      rintro e w' ⟨rfl, q, hq⟩
      have HQ : Hid (w' = SW w blk off (P ++ R ++ L ++ S) q) := hq
      clear hq hc
      go_wp2_with fail
      go_end0
      exact ⟨rfl, q, HQ.out⟩
    · have c1 : ((i : Int) == (j : Int)) = false := by rw [beq_eq_false_iff_ne]; omega
      by_cases hlt : j < i
      · have c2 : (j : Int) < (i : Int) := by omega
        have e2 : IntKind.i64.wrap ((i : Int) - (j : Int)) = ((i - j : Nat) : Int) := by rw [show (i : Int) - (j : Int) = ((i - j : Nat) : Int) by omega]; exact IntWalk.i64_in _ (by omega)
        have HIJ : Hid (j < i) := hlt
        clear bi bj bm hN hN2 hpm hp hij hlt
        obtain ⟨A, B, hAB, hA⟩ : ∃ A B, L' = A ++ B ∧ A.length = j := ⟨L'.take j, L'.drop j, (List.take_append_drop ..).symm, by rw [List.length_take]; have := HIJ.out; have := HI.out.1; omega⟩
        have HAB : Hid (L' = A ++ B ∧ A.length = j) := ⟨hAB, hA⟩
        clear hAB hA
        have hc : Calls Try.prog 73 #[.slice (some ⟨blk, off, none⟩) N cap, .int .i64 p, .int .i64 m, .int .i64 j, fv] wr fun e w' => e = .returned (.tuple #[]) ∧ ∃ k, w' = SW w blk off (P ++ (X ++ R') ++ B ++ A ++ Y ++ S) k := by
          obtain ⟨b1, b2, b3, b4, b5, b6, b7⟩ := HI.out
          obtain ⟨a1, a2⟩ := HP.out
          obtain ⟨_, _, _, c4, c5, _⟩ := HB.out
          obtain ⟨d1, d2⟩ := HAB.out
          rw [b7, show P ++ X ++ L' ++ R' ++ Y ++ S = (P ++ X) ++ A ++ B ++ R' ++ (Y ++ S) by rw [d1]; simp]
          refine (lim_swapRange_l blk off cap fv l0 (P ++ X) B (Y ++ S) A R' w k p m j N HH.out c4 (by rw [← c4, c5, d1]; simp) (by omega) a1 (by rw [b5, d1]; simp) d2.symm (by have := HF.out; omega)).mono ?_
          rintro e w' ⟨rfl, q, rfl⟩
          refine ⟨rfl, q, ?_⟩
          congr 1
          simp
        go_wp2_with fail
        refine hc.mono ?_
        rintro e w' ⟨rfl, q, hq⟩
        have HQ : Hid (w' = SW w blk off (P ++ (X ++ R') ++ B ++ A ++ Y ++ S) q) := hq
        clear hq hc
        go_wp2_with fail
        obtain ⟨b1, b2, b3, b4, b5, b6, b7⟩ := HI.out
        obtain ⟨d1, d2⟩ := HAB.out
        have hlt := HIJ.out
        refine ⟨⟨i - j, j, q, X ++ R', B, A, Y, rfl, rfl, by rw [b1, d1]; simp; omega, d2.symm, by omega, b4, by rw [b5, d1]; simp; omega, by rw [← b6, d1]; simp, HQ.out⟩, by simp [intOf]; omega⟩
      · have c2 : ¬ (j : Int) < (i : Int) := by omega
        have e2 : IntKind.i64.wrap ((j : Int) - (i : Int)) = ((j - i : Nat) : Int) := by rw [show (j : Int) - (i : Int) = ((j - i : Nat) : Int) by omega]; exact IntWalk.i64_in _ (by omega)
        obtain ⟨ms, hms⟩ : ∃ ms, ms = m + j := ⟨_, rfl⟩
        have e3 : IntKind.i64.wrap ((m : Int) + (j : Int)) = (ms : Int) := by rw [show (m : Int) + (j : Int) = ((ms : Nat) : Int) by omega]; exact IntWalk.i64_in _ (by omega)
        have e4 : IntKind.i64.wrap ((ms : Int) - (i : Int)) = ((m + (j - i) : Nat) : Int) := by
          rw [show (ms : Int) - (i : Int) = ((m + (j - i) : Nat) : Int) by omega]
          exact IntWalk.i64_in _ (by omega)
        have HIJ : Hid (i < j) := (by omega : i < j)
        obtain ⟨mj, hmj⟩ : ∃ mj, mj = m + (j - i) := ⟨_, rfl⟩
        rw [← hmj] at e4
        have HM : Hid (mj = m + (j - i)) := hmj
        clear bi bj bm hN hN2 hpm hp hij hlt hmj hms
        obtain ⟨A, B, hAB, hA⟩ : ∃ A B, R' = A ++ B ∧ B.length = i := ⟨R'.take (j - i), R'.drop (j - i), (List.take_append_drop ..).symm, by rw [List.length_drop]; have := HIJ.out; have := HI.out.2.1; omega⟩
        have HAB : Hid (R' = A ++ B ∧ B.length = i) := ⟨hAB, hA⟩
        clear hAB hA
        have hc : Calls Try.prog 73 #[.slice (some ⟨blk, off, none⟩) N cap, .int .i64 p, .int .i64 mj, .int .i64 i, fv] wr fun e w' => e = .returned (.tuple #[]) ∧ ∃ k, w' = SW w blk off (P ++ X ++ B ++ A ++ (L' ++ Y) ++ S) k := by
          obtain ⟨b1, b2, b3, b4, b5, b6, b7⟩ := HI.out
          obtain ⟨a1, a2⟩ := HP.out
          obtain ⟨_, _, _, c4, c5, _⟩ := HB.out
          obtain ⟨d1, d2⟩ := HAB.out
          have hd := HIJ.out
          have he := congrArg List.length d1
          rw [List.length_append] at he
          rw [b7, show P ++ X ++ L' ++ R' ++ Y ++ S = (P ++ X) ++ L' ++ A ++ B ++ (Y ++ S) by rw [d1]; simp]
          refine (lim_swapRange_l blk off cap fv l0 (P ++ X) A (Y ++ S) L' B w k p mj i N HH.out c4 (by rw [← c4, c5, d1]; simp) (by omega) a1 (by rw [HM.out, b5]; simp at *; omega) b1 (by have := HF.out; omega)).mono ?_
          rintro e w' ⟨rfl, q, rfl⟩
          refine ⟨rfl, q, ?_⟩
          congr 1
          simp
        go_wp2_with fail
        refine hc.mono ?_
        rintro e w' ⟨rfl, q, hq⟩
        have HQ : Hid (w' = SW w blk off (P ++ X ++ B ++ A ++ (L' ++ Y) ++ S) q) := hq
        clear hq hc
        go_wp2_with fail
        obtain ⟨b1, b2, b3, b4, b5, b6, b7⟩ := HI.out
        obtain ⟨d1, d2⟩ := HAB.out
        have hlt := HIJ.out
        have he := congrArg List.length d1
        rw [List.length_append] at he
        refine ⟨⟨i, j - i, q, X, B, A, L' ++ Y, rfl, rfl, d2.symm, by omega, b3, by omega, by rw [b5]; simp at *; omega, by rw [← b6, d1]; simp, HQ.out⟩, by simp [intOf]; omega⟩
end Go.Proofs.Ytaabmlnbadpfgaa

/-! slices.insertionSortCmpFunc of ints, by limit.rarest's comparison: its walk. -/
namespace Go.Proofs.Ytaabmlnbadpfgaa
open Go.RowKit Go.Sort
set_option linter.unusedVariables false

/-- what is asked of the comparison, in the worlds that the sort passes through. -/
def CmpAt (F : List Nat) (cb : Value) (w : World) (blk off n : Nat) : Prop :=
  ∀ (l : List Nat) (m x y : Nat), l.length = n → x < F.length → y < F.length → Calls Try.prog 65 #[.int .i64 x, .int .i64 y, cb] (SW w blk off l m) fun e w' => e = .returned (.int .i64 (cmpI (F.getD x 0) (F.getD y 0))) ∧ ∃ q, w' = (SW w blk off l m).drewN q
theorem cmpI_neg (x y : Int) : cmpI x y < 0 ↔ x < y := by unfold cmpI; split <;> simp_all; split <;> omega
theorem getD_mid (A B : List Nat) (x j : Nat) (hj : j = A.length) : (A ++ x :: B).getD j 0 = x := by subst hj; simp

set_option maxHeartbeats 1000000 in
theorem lim_insertion (F : List Nat) (cb : Value) (blk off cap : Nat) (l0 P L S : List Nat) (w : World) (m0 a b N : Nat) (hc : CmpAt F cb w blk off l0.length) (hH : Holds encN w blk off l0.toArray) (hN : N = l0.length) (hl0 : (P ++ L ++ S).length = l0.length) (ha : a = P.length) (hb : b = (P ++ L).length)
    (hF : ∀ x ∈ L, x < F.length) (hup : L.Pairwise (· < ·)) (hsz : l0.length ≤ 2 ^ 40) :
    Calls Try.prog 70 #[.slice (some ⟨blk, off, none⟩) N cap, .int .i64 a, .int .i64 b, .func (.func 65) #[] #[cb]] (SW w blk off (P ++ L ++ S) m0) fun e w' => e = .returned (.tuple #[]) ∧ ∃ M k, M.Perm L ∧ M.Pairwise (Before F) ∧ w' = SW w blk off (P ++ M ++ S) k := by
  have HC : Hid (CmpAt F cb w blk off l0.length) := hc
  have HH : Hid (Holds encN w blk off l0.toArray) := hH
  have hbN : b ≤ N := by rw [hN, ← hl0, hb]; simp
  have haN : a ≤ b := by rw [ha, hb]; simp
  have hN4 : N ≤ 2 ^ 40 := by omega
  have HF : Hid (N = l0.length ∧ (P ++ L ++ S).length = l0.length ∧ a = P.length ∧ b = (P ++ L).length) := ⟨hN, hl0, ha, hb⟩
  have HU : Hid ((∀ x ∈ L, x < F.length) ∧ L.Pairwise (· < ·)) := ⟨hF, hup⟩
  have HST : Hid (SW w blk off (P ++ L ++ S) m0 = SW w blk off (P ++ L ++ S) m0) := rfl
  generalize hw0 : SW w blk off (P ++ L ++ S) m0 = w0
  have HW0 : Hid (w0 = SW w blk off (P ++ L ++ S) m0) := hw0.symm
  clear hc hH hl0 ha hb hF hup hN hw0 HST hsz
  by_cases hLe : L = []
  · have hab : b = a := by obtain ⟨_, _, h1, h2⟩ := HF.out; rw [h1, h2, hLe]; simp
    have HL : Hid (L = []) := hLe
    clear hLe
    subst hab
    have h1 : ¬ ((b : Int) + 1 < (b : Int)) := by omega
    go_enter Try.func70, Try.ntmps70
    go_wp2_with fail
    go_loopw [8] (fun vi wr => vi = .int .i64 ((b : Int) + 1) ∧ wr = w0) (fun vi _ => 0)
    case atStart => exact ⟨by go_num, rfl⟩
    case round =>
      obtain ⟨rfl, rfl⟩ := hrel
      go_wp2_with fail
      go_end0
      exact ⟨rfl, L, m0, List.Perm.refl _, by rw [HL.out]; exact List.Pairwise.nil, HW0.out⟩
  · obtain ⟨x0, L0, hL0⟩ : ∃ x L0, L = x :: L0 := by cases L with | nil => exact (hLe rfl).elim | cons x L0 => exact ⟨x, L0, rfl⟩
    have HL : Hid (L = x0 :: L0) := hL0
    clear hLe hL0
    go_enter Try.func70, Try.ntmps70
    go_wp2_with fail
    go_loopw [8] (fun vi wr => ∃ (i k : Nat) (A A0 B : List Nat), vi = .int .i64 i ∧ i = (P ++ A).length ∧ a < i ∧ i ≤ b ∧ L = A0 ++ B ∧ A.Perm A0 ∧ A.Pairwise (Before F) ∧ wr = SW w blk off (P ++ A ++ B ++ S) k) (fun vi _ => b - (intOf vi).toNat)
    case atStart =>
      obtain ⟨h1, h2, h3, h4⟩ := HF.out
      have h5 := HL.out
      exact ⟨a + 1, m0, [x0], [x0], L0, by go_num, by simp [h3], by omega, by rw [h3, h4, h5]; simp, by rw [h5]; rfl, List.Perm.refl _, List.pairwise_singleton .., by rw [HW0.out, h5]; simp⟩
    case round =>
      obtain ⟨i, k, A, A0, B, rfl, hi, hai, hib, hLB, hperm, hsort, hwr⟩ := hrel
      have HI : Hid (i = (P ++ A).length ∧ L = A0 ++ B ∧ A.Perm A0 ∧ A.Pairwise (Before F) ∧ wr = SW w blk off (P ++ A ++ B ++ S) k) := ⟨hi, hLB, hperm, hsort, hwr⟩
      clear hi hLB hperm hsort hwr
      by_cases hlt : i < b
      · have hltz : (i : Int) < (b : Int) := by omega
        obtain ⟨x, B', hB⟩ : ∃ x B', B = x :: B' := by
          cases B with
          | nil =>
            obtain ⟨h1, h2, h3, h4⟩ := HF.out
            obtain ⟨i1, i2, i3, _⟩ := HI.out
            have := i3.length_eq
            rw [h4, i2] at hlt
            simp at hlt i1
            omega
          | cons x B' => exact ⟨x, B', rfl⟩
        have HB : Hid (B = x :: B') := hB
        clear hB
        go_wp2_with fail
        go_loopw [9] (fun vj wr2 => ∃ (j m : Nat) (A1 A2 : List Nat), vj = .int .i64 j ∧ j = (P ++ A1).length ∧ a ≤ j ∧ j ≤ i ∧ (A1 ++ A2).Perm A0 ∧ (A1 ++ A2).Pairwise (Before F) ∧ (∀ y ∈ A2, Before F x y) ∧ wr2 = SW w blk off (P ++ A1 ++ x :: A2 ++ B' ++ S) m) (fun vj _ => (intOf vj).toNat)
        case atStart =>
          obtain ⟨i1, i2, i3, i4, i5⟩ := HI.out
          exact ⟨i, k, A, [], rfl, i1, by omega, Nat.le_refl _, by simpa using i3, by simpa using i4, by simp, by rw [i5, HB.out]; simp⟩
        case round =>
          obtain ⟨j, m, A1, A2, rfl, hj, haj, hji, hperm, hsort, hbef, hwr⟩ := hrel
          have HJ : Hid (j = (P ++ A1).length ∧ (A1 ++ A2).Perm A0 ∧ (A1 ++ A2).Pairwise (Before F) ∧ (∀ y ∈ A2, Before F x y) ∧ wr = SW w blk off (P ++ A1 ++ x :: A2 ++ B' ++ S) m) := ⟨hj, hperm, hsort, hbef, hwr⟩
          clear hj hperm hsort hbef hwr
          have HOUT : Hid ((A1 = [] ∨ ∃ z A1', A1 = A1' ++ [z] ∧ ¬ F.getD x 0 < F.getD z 0) → ∃ (i' k' : Nat) (A' A0' B2 : List Nat), i' = i + 1 ∧ i' = (P ++ A').length ∧ a < i' ∧ i' ≤ b ∧ L = A0' ++ B2 ∧ A'.Perm A0' ∧ A'.Pairwise (Before F) ∧ wr = SW w blk off (P ++ A' ++ B2 ++ S) m) := by
            intro hs
            obtain ⟨i1, i2, i3, i4, i5⟩ := HI.out
            obtain ⟨j1, j2, j3, j4, j5⟩ := HJ.out
            obtain ⟨h1, h2, h3, h4⟩ := HF.out
            obtain ⟨u1, u2⟩ := HU.out
            have hb := HB.out
            have hlen := j2.length_eq
            have hlen2 := i3.length_eq
            refine ⟨i + 1, 0, A1 ++ x :: A2, A0 ++ [x], B', rfl, ?_, by omega, by omega, by rw [i2, hb]; simp, ?_, ?_, by rw [j5]; simp⟩
            · rw [i1]; simp at hlen ⊢; omega
            · exact (List.perm_middle.trans (List.Perm.cons x j2)).trans (List.perm_append_singleton x A0).symm
            · refine put_in j3 j4 ?_
              intro z hz
              rcases hs with rfl | ⟨z', A1', rfl, hlt⟩
              · cases hz
              · have : z' = z := by simpa using hz
                subst this
                refine put_stays ?_ hlt
                have hz0 : z' ∈ A0 := j2.mem_iff.1 (by simp)
                rw [i2, hb] at u2
                exact (List.pairwise_append.1 u2).2.2 z' hz0 x (List.mem_cons_self ..)
          by_cases hA : A1 = []
          · have hja : a = j := by obtain ⟨_, _, h3, _⟩ := HF.out; obtain ⟨j1, _⟩ := HJ.out; rw [h3, j1, hA]; simp
            have hjaz : ¬ (a : Int) < (j : Int) := by omega
            have hjaz2 : decide ((j : Int) > (a : Int)) = false := decide_eq_false (by omega)
            have hjan : ¬ a < j := by omega
            have HA : Hid (A1 = []) := hA
            clear hA hja
            go_wp2_with fail
            have hmx : Try.prog.follows .mixedOrders = true := by kernel_rfl
            go_big_region_o
            all_goals go_wp2
            obtain ⟨i', k', A', A0', B2, g1, g2, g3, g4, g5, g6, g7, g8⟩ := HOUT.out (Or.inl HA.out)
            refine ⟨⟨i', m + 1, A', A0', B2, by rw [g1]; go_num, g2, g3, g4, g5, g6, g7, ?_⟩, by simp [intOf]; omega⟩
            rw [g8]
            rfl
          · obtain ⟨A1', z, hA1⟩ : ∃ A1' z, A1 = A1' ++ [z] := ⟨A1.dropLast, A1.getLast hA, (List.dropLast_concat_getLast hA).symm⟩
            obtain ⟨jp, rfl⟩ : ∃ jp, j = jp + 1 := ⟨j - 1, by obtain ⟨j1, _⟩ := HJ.out; rw [hA1] at j1; simp at j1; omega⟩
            have hjp : jp = (P ++ A1').length := by obtain ⟨j1, _⟩ := HJ.out; rw [hA1] at j1; simp at j1 ⊢; omega
            have HA : Hid (A1 = A1' ++ [z] ∧ jp = (P ++ A1').length) := ⟨hA1, hjp⟩
            clear hA hA1 hjp
            have facts : (P ++ A1 ++ x :: A2 ++ B' ++ S).length = l0.length ∧ jp + 1 < l0.length ∧ (P ++ A1 ++ x :: A2 ++ B' ++ S).getD (jp + 1) 0 = x ∧ (P ++ A1 ++ x :: A2 ++ B' ++ S).getD jp 0 = z ∧ x < F.length ∧ z < F.length ∧ N = l0.length := by
              obtain ⟨i1, i2, i3, i4, i5⟩ := HI.out
              obtain ⟨j1, j2, j3, j4, j5⟩ := HJ.out
              obtain ⟨h1, h2, h3, h4⟩ := HF.out
              obtain ⟨u1, u2⟩ := HU.out
              have hb := HB.out
              obtain ⟨a1, a2⟩ := HA.out
              have hlen := j2.length_eq
              have e1 : (P ++ A1 ++ x :: A2 ++ B' ++ S).length = l0.length := by rw [← h2, i2, hb]; simp at hlen ⊢; omega
              refine ⟨e1, ?_, ?_, ?_, u1 x (by rw [i2, hb]; simp), u1 z (by rw [i2]; exact List.mem_append_left _ (j2.mem_iff.1 (by rw [a1]; simp))), h1⟩
              · rw [← e1, j1]; simp
              · rw [show P ++ A1 ++ x :: A2 ++ B' ++ S = (P ++ A1) ++ x :: (A2 ++ B' ++ S) by simp]; exact getD_mid _ _ _ _ j1
              · rw [a1, show P ++ (A1' ++ [z]) ++ x :: A2 ++ B' ++ S = (P ++ A1') ++ z :: (x :: A2 ++ B' ++ S) by simp]; exact getD_mid _ _ _ _ a2
            obtain ⟨f1, f2, f3, f4, f5, f6, f7⟩ := facts
            have hwr := HJ.out.2.2.2.2
            have cj' : wr.cell? ⟨blk, off + (jp + 1), none⟩ = some (.int .i64 x) := by rw [hwr, SW_cell HH.out f1 m (jp + 1) f2, f3]
            have cp' : wr.cell? ⟨blk, off + jp, none⟩ = some (.int .i64 z) := by rw [hwr, SW_cell HH.out f1 m jp (by omega), f4]
            have fj' : wr.frozen? ⟨blk, off + (jp + 1), none⟩ = false := by rw [hwr]; exact SW_frozen HH.out f1 m (jp + 1) f2
            have fp' : wr.frozen? ⟨blk, off + jp, none⟩ = false := by rw [hwr]; exact SW_frozen HH.out f1 m jp (by omega)
            obtain ⟨c, hcv⟩ : ∃ c, cmpI (F.getD x 0) (F.getD z 0) = c := ⟨_, rfl⟩
            have hc : ∀ n, Calls Try.prog 65 #[.int .i64 x, .int .i64 z, cb] (wr.drewN n) fun e w' => e = .returned (.int .i64 c) ∧ ∃ q, w' = (wr.drewN n).drewN q := by
              intro n
              rw [hwr, SW_drewN, ← hcv]
              exact HC.out _ _ _ _ f1 f5 f6
            have hcn : c < 0 ↔ F.getD x 0 < F.getD z 0 := by rw [← hcv, cmpI_neg]; omega
            have HV : Hid (c < 0 ↔ F.getD x 0 < F.getD z 0) := hcn
            have hjaz : (a : Int) < (jp : Int) + 1 := by
              obtain ⟨_, _, h3, _⟩ := HF.out
              obtain ⟨a1, a2⟩ := HA.out
              rw [h3, a2]; simp; omega
            have hwp : IntKind.i64.wrap (jp : Int) = (jp : Int) := by rw [IntKind.wrap_i64]; omega
            have jz : (jp : Int) + 1 < (N : Int) := by omega
            have jz1 : (jp : Int) < (N : Int) := by omega
            have HFF : Hid ((P ++ A1 ++ x :: A2 ++ B' ++ S).length = l0.length ∧ jp + 1 < l0.length ∧ (P ++ A1 ++ x :: A2 ++ B' ++ S).getD (jp + 1) 0 = x ∧ (P ++ A1 ++ x :: A2 ++ B' ++ S).getD jp 0 = z) := ⟨f1, f2, f3, f4⟩
            clear f1 f2 f3 f4 f5 f6 f7 hwr hcv hcn
            by_cases hcz : c < 0
            · go_wp2_with fail
              go_quiet (first | (go_at_call 65; refine Calls.quiet_of (hc _)))
              go_wp2_with fail
              have hw2 : wr.drewN nq = SW w blk off (P ++ A1 ++ x :: A2 ++ B' ++ S) (m + nq) := by rw [HJ.out.2.2.2.2, SW_drewN]
              have cj2 : (wr.drewN nq).cell? ⟨blk, off + (jp + 1), none⟩ = some (.int .i64 x) := cj'
              have cp2 : (wr.drewN nq).cell? ⟨blk, off + jp, none⟩ = some (.int .i64 z) := cp'
              have fj2 : (wr.drewN nq).frozen? ⟨blk, off + (jp + 1), none⟩ = false := fj'
              have fp2 : (wr.drewN nq).frozen? ⟨blk, off + jp, none⟩ = false := fp'
              clear cj' cp' fj' fp' hc
              generalize wr.drewN nq = wq2 at hw2 cj2 cp2 fj2 fp2 ⊢
              obtain ⟨j1, hj1⟩ : ∃ j1, j1 = jp + 1 := ⟨_, rfl⟩
              have e0 : ((jp : Int) + 1).toNat = jp + 1 := by omega
              rw [← hj1] at cj2 fj2 e0
              have J1 : Hid (j1 = jp + 1) := hj1
              have HW2 : Hid (wq2 = SW w blk off (P ++ A1 ++ x :: A2 ++ B' ++ S) (m + nq)) := hw2
              clear hj1 hw2
              go_big_region
              all_goals go_wp2
              obtain ⟨f1, f2, f3, f4⟩ := HFF.out
              obtain ⟨i1, i2, i3, i4, i5⟩ := HI.out
              obtain ⟨q1, q2, q3, q4, q5⟩ := HJ.out
              obtain ⟨a1, a2⟩ := HA.out
              have hlx : F.getD x 0 < F.getD z 0 := HV.out.1 hcz
              rw [a1] at q3
              obtain ⟨s1, s2⟩ := put_step q3 q4 hlx
              refine ⟨⟨jp, m + nq + 1, A1', z :: A2, rfl, a2, by omega, by omega, by rw [a1] at q2; simpa using q2, s1, s2, ?_⟩, by simp [intOf]⟩
              rw [J1.out, HW2.out]
              have hsw := SW_swap w blk off (P ++ A1 ++ x :: A2 ++ B' ++ S) (P ++ A1' ++ x :: z :: A2 ++ B' ++ S) (m + nq) (jp + 1) jp (by omega) (by omega) (by
                rw [a1, show P ++ (A1' ++ [z]) ++ x :: A2 ++ B' ++ S = (P ++ A1') ++ z :: x :: (A2 ++ B' ++ S) by simp, a2, swp_beside']
                simp)
              rw [f3, f4] at hsw
              exact hsw
            · go_wp2_with fail
              go_quiet (first | (go_at_call 65; refine Calls.quiet_of (hc _)))
              go_wp2_with fail
              obtain ⟨i', k', A', A0', B2, g1, g2, g3, g4, g5, g6, g7, g8⟩ := HOUT.out (Or.inr ⟨z, A1', HA.out.1, fun h => by have := HV.out.2 h; omega⟩)
              refine ⟨⟨i', m + nq, A', A0', B2, by rw [g1]; go_num, g2, g3, g4, g5, g6, g7, ?_⟩, by simp [intOf]; omega⟩
              rw [g8, SW_drewN]
      · have hltz : ¬ (i : Int) < (b : Int) := by omega
        go_wp2_with fail
        go_end0
        obtain ⟨i1, i2, i3, i4, i5⟩ := HI.out
        obtain ⟨h1, h2, h3, h4⟩ := HF.out
        have hlen := i3.length_eq
        have hB : B = [] := by
          rw [h4, i2] at hib hlt
          rw [i1] at hib hlt
          simp at hib hlt
          exact List.eq_nil_of_length_eq_zero (by omega)
        rw [hB] at i2 i5
        exact ⟨rfl, A, (by rw [i2]; simpa using i3), i4, k, (by simpa using i5)⟩
end Go.Proofs.Ytaabmlnbadpfgaa
