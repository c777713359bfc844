/- What a reader of bits is in memory. lsb.Reader: New, Align, At, Left, Get. lsb.Reader.Get: its walk. prefix.Table: GetLow: its walk. -/
import Derived.Test.YtbbcphloafmldaaGreatBnd1
import Derived.Test.YtbbcphloafmldaaGreatBits
import Derived.Test.YtbbcphloafmldaaGreatBnd5
import Derived.Test.YtbbcphloafmldaaGreatRows
import Derived.Outline
import Derived.Deep.DeepMust
import Derived.BigQuiet
/-! What a reader of bits is in memory. -/
namespace Go.Proofs.YtbbcphloafmldaaGreat
open Go.RowKit

/-- nothing but draws. -/
def Drew (w w' : World) : Prop := ∃ q, w' = w.drewN q
theorem Drew.touch {w w' : World} (h : Drew w w') (S : Nat → Prop) : Touch S w w' := by obtain ⟨q, rfl⟩ := h; exact (Touch.refl S w).drewN q
/-- block B is a reader (of type T) of the bytes bs, which lie in block og; it stands at bit i. -/
def IsR (T : Nat) (w : World) (B : Nat) (og : Option Nat) (bs : List Nat) (i : Nat) : Prop :=
  ∃ v, w.heap[B]? = some (.cells #[v, .int .i64 i] T (0, 0)) ∧ Owns w 5 1 v og bs.length (u8s bs) ∧ og ≠ some B
theorem IsR.keep {T : Nat} {w w' : World} {B : Nat} {og : Option Nat} {bs : List Nat} {i : Nat} {S : Nat → Prop} (h : IsR T w B og bs i) (ht : Touch S w w') (hB : ¬ S B) (hg : ∀ g, og = some g → ¬ S g) : IsR T w' B og bs i := by
  obtain ⟨v, h1, h2, h3⟩ := h
  exact ⟨v, ht.keep h1 hB, h2.keep ht hg, h3⟩
theorem IsR.lt {T : Nat} {w : World} {B : Nat} {og : Option Nat} {bs : List Nat} {i : Nat} (h : IsR T w B og bs i) : B < w.heap.size := block_lt h.choose_spec.1
theorem IsR.glt {T : Nat} {w : World} {B : Nat} {og : Option Nat} {bs : List Nat} {i : Nat} (h : IsR T w B og bs i) : ∀ g, og = some g → g < w.heap.size := by
  obtain ⟨v, _, h2, _⟩ := h; exact h2.lt
/-- what an act on a reader leaves. -/
def RPost (T : Nat) (w : World) (B : Nat) (og : Option Nat) (bs : List Nat) (i' : Nat) (w' : World) : Prop := IsR T w' B og bs i' ∧ Touch (fun k => k = B) w w'
theorem RPost.refl {T : Nat} {w : World} {B : Nat} {og : Option Nat} {bs : List Nat} {i : Nat} (h : IsR T w B og bs i) : RPost T w B og bs i w := ⟨h, Touch.refl _ _⟩
theorem RPost.drewN {T : Nat} {w w' : World} {B : Nat} {og : Option Nat} {bs : List Nat} {i : Nat} (h : RPost T w B og bs i w') (n : Nat) : RPost T w B og bs i (w'.drewN n) := ⟨h.1, h.2.drewN n⟩
theorem RPost.drew {T : Nat} {w w' : World} {B : Nat} {og : Option Nat} {bs : List Nat} {i : Nat} (h : RPost T w B og bs i w') : RPost T w B og bs i w'.drew := ⟨h.1, h.2.drew⟩
theorem RPost.step {T : Nat} {w w' w'' : World} {B : Nat} {og : Option Nat} {bs : List Nat} {i i' : Nat} (h : RPost T w B og bs i w') (k : RPost T w' B og bs i' w'') : RPost T w B og bs i' w'' := ⟨k.1, h.2.trans k.2 fun _ _ h => h⟩
theorem rset_post {T : Nat} {w : World} {B : Nat} {og : Option Nat} {bs : List Nat} {i : Nat} (h : IsR T w B og bs i) (i' : Nat) : RPost T w B og bs i' (w.setCell ⟨B, 1, none⟩ (.int .i64 i')) := by
  obtain ⟨v, h1, h2, h3⟩ := h
  have ht : Touch (fun k => k = B) w (w.setCell ⟨B, 1, none⟩ (.int .i64 i')) := (Touch.refl (fun k => k = B) w).setCell (Or.inl rfl) _
  refine ⟨⟨v, ?_, h2.keep ht (fun g e hk => h3 (by rw [e]; exact congrArg some hk)), h3⟩, ht⟩
  have e := heap_setCell_at (w := w) (a := ⟨B, 1, none⟩) (u := .int .i64 i') h1 rfl
  rw [e]; simp
/-- a new reader. -/
def NewR (T : Nat) (w : World) (bs : List Nat) (e : Ending) (w' : World) : Prop :=
  ∃ B og, e = .returned (.pointer (some ⟨B, 0, none⟩)) ∧ IsR T w' B og bs 0 ∧ w.heap.size ≤ B ∧ (∀ g, og = some g → w.heap.size ≤ g) ∧ Touch (fun _ => False) w w'
theorem new_post {T : Nat} {w w' : World} {bs : List Nat} {u : Value} {og : Option Nat} (h1 : Owns w' 5 1 u og bs.length (u8s bs)) (h2 : ∀ g, og = some g → w.heap.size ≤ g) (h3 : Touch (fun _ => False) w w') :
    NewR T w bs (.returned (.pointer (some ⟨w'.heap.size, 0, none⟩))) (w'.alloc (.cells #[u, .int .i64 0] T)) := by
  have ht : Touch (fun _ => False) w' (w'.alloc (.cells #[u, .int .i64 0] T)) := (Touch.refl _ w').alloc _
  refine ⟨w'.heap.size, og, rfl, ⟨u, ?_, h1.keep ht (fun _ _ h => h), fun e => ?_⟩, h3.size, h2, h3.trans ht (fun _ _ h => h)⟩
  · exact heap_alloc_new w' _
  · have := h1.lt _ e; omega
theorem IsR.ext {T : Nat} {w w' : World} {B : Nat} {og : Option Nat} {bs : List Nat} {i : Nat} (h : IsR T w B og bs i) (ht : Ext w w') : IsR T w' B og bs i := h.keep ht (fun f => f) (fun _ _ f => f)
theorem Drew.ext {w w' : World} (h : Drew w w') : Ext w w' := h.touch _
end Go.Proofs.YtbbcphloafmldaaGreat

/-! lsb.Reader: New, Align, At, Left, Get. -/
namespace Go.Proofs.YtbbcphloafmldaaGreat
open Go.RowKit

theorem lsb_new (v : Value) (bs : List Nat) (w : World) (hv : View w v bs) (hl : bs.length ≤ 2 ^ 46) :
    Calls Tryz.prog 54 #[v] w (NewR 107 w bs) := by
  have HV := Lib.hid hv; clear hv
  go_enter Tryz.func54, Tryz.ntmps54
  go_wp2_with fail
  refine (clone v bs w HV.out hl).mono ?_
  rintro e w' ⟨u, og', rfl, k1, k2, k3⟩
  obtain ⟨ao, cap, rfl⟩ := k1.shape
  have K1 := Lib.hid k1
  have K2 := Lib.hid k2
  have K3 := Lib.hid k3
  clear k1 k2 k3
  go_wp2_with fail
  go_ret
  exact new_post K1.out K2.out K3.out
theorem lsb_at (B : Nat) (og : Option Nat) (bs : List Nat) (i : Nat) (w : World) (hr : IsR 107 w B og bs i) :
    Calls Tryz.prog 61 #[.pointer (some ⟨B, 0, none⟩)] w fun e w' => e = .returned (.int .i64 i) ∧ w = w' := by
  obtain ⟨v, h1, _, _⟩ := hr
  have hc1 : w.cell? ⟨B, 1, none⟩ = some (.int .i64 i) := by simp [World.cell?, h1]
  clear h1
  go_enter Tryz.func61, Tryz.ntmps61
  go_wp2_with fail
  go_ret
  exact ⟨rfl, rfl⟩
theorem lsb_at_nil (w : World) : Calls Tryz.prog 61 #[.pointer none] w fun e w' => e = .returned (.int .i64 0) ∧ w = w' := by
  go_enter Tryz.func61, Tryz.ntmps61
  go_wp2_with fail
  go_ret
  exact ⟨rfl, rfl⟩
theorem lsb_left (B : Nat) (og : Option Nat) (bs : List Nat) (i : Nat) (w : World) (hr : IsR 107 w B og bs i) (hl : bs.length ≤ 2 ^ 46) (hi : i ≤ 8 * bs.length) :
    Calls Tryz.prog 118 #[.pointer (some ⟨B, 0, none⟩)] w fun e w' => e = .returned (.int .i64 (8 * bs.length - i)) ∧ Drew w w' := by
  obtain ⟨v, h1, h2, _⟩ := hr
  have hc0 : w.cell? ⟨B, 0, none⟩ = some v := by simp [World.cell?, h1]
  have hc1 : w.cell? ⟨B, 1, none⟩ = some (.int .i64 i) := by simp [World.cell?, h1]
  obtain ⟨ao, cap, rfl⟩ : ∃ ao cap, v = .slice ao bs.length cap := by
    rcases h2.form with ⟨_, rfl, h0, _⟩ | ⟨g, cap, _, _, rfl, _⟩
    · exact ⟨none, 0, by rw [h0]⟩
    · exact ⟨_, _, rfl⟩
  clear h1 h2
  have k1 : IntKind.i64.wrap (8 * (bs.length : Int)) = 8 * (bs.length : Int) := IntWalk.i64_in _ (by omega)
  have k2 : IntKind.i64.wrap (8 * (bs.length : Int) - i) = 8 * (bs.length : Int) - i := IntWalk.i64_in _ (by omega)
  go_enter Tryz.func118, Tryz.ntmps118
  go_wp2_with fail
  go_quiet (fail)
  go_wp2_with fail
  go_ret
  exact ⟨rfl, ⟨_, rfl⟩⟩
theorem lsb_left_nil (w : World) : Calls Tryz.prog 118 #[.pointer none] w fun e w' => e = .returned (.int .i64 0) ∧ w = w' := by
  go_enter Tryz.func118, Tryz.ntmps118
  go_wp2_with fail
  go_ret
  exact ⟨rfl, rfl⟩
theorem lsb_ralign (B : Nat) (og : Option Nat) (bs : List Nat) (i : Nat) (w : World) (hr : IsR 107 w B og bs i) (hl : bs.length ≤ 2 ^ 46) (hi : i ≤ 8 * bs.length) :
    Calls Tryz.prog 80 #[.pointer (some ⟨B, 0, none⟩)] w fun e w' => e = .returned (.tuple #[]) ∧ RPost 107 w B og bs ((i + 7) / 8 * 8) w' := by
  have HP := Lib.hid (rset_post hr ((i + 7) / 8 * 8))
  obtain ⟨v, h1, _, _⟩ := hr
  have hc1 : w.cell? ⟨B, 1, none⟩ = some (.int .i64 i) := by simp [World.cell?, h1]
  have hf1 : w.frozen? ⟨B, 1, none⟩ = false := by simp [World.frozen?, h1]
  clear h1
  go_enter Tryz.func80, Tryz.ntmps80
  go_wp2_with fail
  go_end0
  exact ⟨rfl, by simpa using HP.out⟩
theorem lsb_ralign_nil (w : World) : Calls Tryz.prog 80 #[.pointer none] w fun e w' => e = .returned (.tuple #[]) ∧ w = w' := by
  go_enter Tryz.func80, Tryz.ntmps80
  go_wp2_with fail
  go_end0
  exact ⟨rfl, rfl⟩
end Go.Proofs.YtbbcphloafmldaaGreat

/-! lsb.Reader.Get: its walk. -/
namespace Go.Proofs.YtbbcphloafmldaaGreat
open Go.RowKit

theorem lsb_get_nil (n : Int) (w : World) : Calls Tryz.prog 89 #[.pointer none, .int .i64 n] w fun e w' => e = .returned (.tuple #[.int .u32 0, .int .i64 8]) ∧ w = w' := by
  go_enter Tryz.func89, Tryz.ntmps89
  go_wp2_with fail
  go_ret2
  exact ⟨rfl, rfl⟩
set_option maxHeartbeats 400000 in
theorem lsb_get_neg (B : Nat) (n : Int) (w : World) (h : n < 0) : Calls Tryz.prog 89 #[.pointer (some ⟨B, 0, none⟩), .int .i64 n] w fun e w' => e = .returned (.tuple #[.int .u32 0, .int .i64 5]) ∧ w = w' := by
  go_enter Tryz.func89, Tryz.ntmps89
  go_wp2_with fail
  go_ret2
  exact ⟨rfl, rfl⟩
set_option maxHeartbeats 400000 in
theorem lsb_get_big (B : Nat) (n : Int) (w : World) (h : 32 < n) : Calls Tryz.prog 89 #[.pointer (some ⟨B, 0, none⟩), .int .i64 n] w fun e w' => e = .returned (.tuple #[.int .u32 0, .int .i64 5]) ∧ w = w' := by
  have h0 : ¬ n < 0 := by omega
  go_enter Tryz.func89, Tryz.ntmps89
  go_wp2_with fail
  go_ret2
  exact ⟨rfl, rfl⟩
set_option maxHeartbeats 400000 in
theorem lsb_get_far (B : Nat) (og : Option Nat) (bs : List Nat) (i n : Nat) (w : World) (hr : IsR 107 w B og bs i) (hl : bs.length ≤ 2 ^ 46) (hi : i ≤ 8 * bs.length) (hn : n ≤ 32) (h : 8 * bs.length < i + n) :
    Calls Tryz.prog 89 #[.pointer (some ⟨B, 0, none⟩), .int .i64 n] w fun e w' => e = .returned (.tuple #[.int .u32 0, .int .i64 2]) ∧ Drew w w' := by
  have h0 : ¬ (n : Int) < 0 := by omega
  have h1 : ¬ (32 : Int) < (n : Int) := by omega
  have h2 : 8 * (bs.length : Int) - i < (n : Int) := by omega
  go_enter Tryz.func89, Tryz.ntmps89
  go_wp2_with fail
  refine (lsb_left B og bs i w hr hl hi).mono ?_
  rintro e w' ⟨rfl, q, rfl⟩
  clear hr
  go_wp2_with fail
  go_ret2
  exact ⟨rfl, q, rfl⟩
set_option maxHeartbeats 800000 in
theorem lsb_get_ok (B : Nat) (og : Option Nat) (bs : List Nat) (i n : Nat) (w : World) (hr : IsR 107 w B og bs i) (hl : bs.length ≤ 2 ^ 46) (hb : ∀ b ∈ bs, b < 256) (hn : n ≤ 32) (h : i + n ≤ 8 * bs.length) :
    Calls Tryz.prog 89 #[.pointer (some ⟨B, 0, none⟩), .int .i64 n] w fun e w' => e = .returned (.tuple #[.int .u32 (numOf false (bitsAt false bs i n)), .int .i64 0]) ∧ RPost 107 w B og bs (i + n) w' := by
  have h0 : ¬ (n : Int) < 0 := by omega
  have h1 : ¬ (32 : Int) < (n : Int) := by omega
  have h2 : ¬ 8 * (bs.length : Int) - i < (n : Int) := by omega
  have HR := Lib.hid hr
  clear hr
  have HB := Lib.hid hb; clear hb
  go_enter Tryz.func89, Tryz.ntmps89
  go_wp2_with fail
  refine (lsb_left B og bs i w HR.out hl (by omega)).mono ?_
  rintro e w' ⟨rfl, q, rfl⟩
  go_wp2_with fail
  go_loopw [6, 25] (fun v i' wr => ∃ k : Nat, k ≤ n ∧ i' = .int .i64 k ∧ v = .int .u32 (numOf false (bitsAt false bs i k)) ∧ RPost 107 w B og bs (i + k) wr) (fun _ i' _ => n - (intOf i').toNat)
  case atStart => exact ⟨0, Nat.zero_le _, rfl, rfl, by simpa using (RPost.refl HR.out).drewN q⟩
  case round =>
    obtain ⟨k, hk, rfl, rfl, hp⟩ := hrel
    by_cases hlt : k < n
    · obtain ⟨⟨v, c1, c2, c3⟩, ht⟩ := id hp
      obtain ⟨p, hpk⟩ : ∃ p, p = i + k := ⟨_, rfl⟩
      rw [← hpk] at hp c1
      rcases c2.form with ⟨_, _, hz, _⟩ | ⟨g, cap, cur, rfl, rfl, _⟩
      · omega
      have hc0 : wr.cell? ⟨B, 0, none⟩ = some (.slice (some ⟨g, 0, none⟩) bs.length cap) := by simp [World.cell?, c1]
      have hc1 : wr.cell? ⟨B, 1, none⟩ = some (.int .i64 p) := by simp [World.cell?, c1]
      have hf1 : wr.frozen? ⟨B, 1, none⟩ = false := by simp [World.frozen?, c1]
      obtain ⟨ob, hob⟩ : ∃ ob, ob = bs.getD (p / 8) 0 := ⟨_, rfl⟩
      have hcg : wr.cell? ⟨g, p / 8, none⟩ = some (.int .u8 ob) := c2.cell _ _ (by rw [getElem?_u8s _ _ (by omega), hob])
      have k1 : IntKind.i64.wrap ((p : Int) / 8) = (p : Int) / 8 := IntWalk.i64_in _ (by omega)
      have k2 : ((p : Int) / 8).toNat = p / 8 := by omega
      have k3 : (0 : Int) ≤ (p : Int) / 8 := by omega
      have k4 : (p : Int) / 8 < (bs.length : Int) := by omega
      have k5 : (p : Int).tmod 8 = (p : Int) % 8 := Int.tmod_eq_emod_of_nonneg (by omega)
      have k6 : (0 : Int) ≤ (p : Int) % 8 := by omega
      have hp50 : p < 2 ^ 50 := by omega
      have HP := Lib.hid hp; clear hp
      have HPK := Lib.hid hpk; clear hpk
      have HOB := Lib.hid hob; clear hob
      clear c1 c2 ht
      obtain ⟨acc, hacc⟩ : ∃ acc, acc = numOf false (bitsAt false bs i k) := ⟨_, rfl⟩
      rw [← hacc]
      have HACC := Lib.hid hacc; clear hacc
      go_wp2_with fail
      go_quiet (fail)
      clear k1 k2 k3 k4 k5 k6
      go_wp2_with fail
      have hob : ob < 256 := HOB.out ▸ getD_lt HB.out _
      have hstep := low_step ob p k (bitsAt false bs i k) hob (length_bitsAt _ _ _ _) (by omega)
      rw [← HACC.out] at hstep
      go_roundw
      case rel =>
        refine ⟨k + 1, by omega, by go_num, ?_, ?_⟩
        · rw [hstep, bitsAt_succ, rbit, ← HPK.out, ← HOB.out]
        · have hs := rset_post HP.out.1 (p + 1)
          have e : i + (k + 1) = p + 1 := by have := HPK.out; omega
          rw [e]
          exact RPost.step (HP.out.drewN nq) (rset_post (HP.out.drewN nq).1 (p + 1))
      case measure => simp [intOf]; omega
    · go_wp2_with fail
      go_ret2
      obtain rfl : k = n := by omega
      exact ⟨rfl, hp⟩
/-- whatever number of bits. -/
theorem lsb_get (B : Nat) (og : Option Nat) (bs : List Nat) (i : Nat) (n : Int) (w : World) (hr : IsR 107 w B og bs i) (hl : bs.length ≤ 2 ^ 46) (hb : ∀ b ∈ bs, b < 256) (hi : i ≤ 8 * bs.length) :
    Calls Tryz.prog 89 #[.pointer (some ⟨B, 0, none⟩), .int .i64 n] w fun e w' => e = .returned (.tuple #[.int .u32 (getR false bs i n).1, .int .i64 (getR false bs i n).2.2]) ∧ RPost 107 w B og bs (getR false bs i n).2.1 w' := by
  by_cases h0 : n < 0
  · have hm : getR false bs i n = (0, i, 5) := by rw [getR, if_pos (Or.inl h0)]
    rw [hm]
    refine (lsb_get_neg B n w h0).mono ?_
    rintro e w' ⟨rfl, rfl⟩
    exact ⟨rfl, RPost.refl hr⟩
  by_cases h1 : 32 < n
  · have hm : getR false bs i n = (0, i, 5) := by rw [getR, if_pos (Or.inr h1)]
    rw [hm]
    refine (lsb_get_big B n w h1).mono ?_
    rintro e w' ⟨rfl, rfl⟩
    exact ⟨rfl, RPost.refl hr⟩
  obtain ⟨N, rfl⟩ := Int.eq_ofNat_of_zero_le (show 0 ≤ n by omega)
  by_cases h2 : 8 * bs.length < i + N
  · have hm : getR false bs i N = (0, i, 2) := by rw [getR, if_neg (by omega), if_pos (by omega)]
    rw [hm]
    refine (lsb_get_far B og bs i N w hr hl hi (by omega) h2).mono ?_
    rintro e w' ⟨rfl, q, rfl⟩
    exact ⟨rfl, (RPost.refl hr).drewN q⟩
  · have hm : getR false bs i N = (numOf false (bitsAt false bs i N), i + N, 0) := by rw [getR, if_neg (by omega), if_neg (by omega), Int.toNat_natCast]
    rw [hm]
    exact lsb_get_ok B og bs i N w hr hl hb (by omega) (by omega)
end Go.Proofs.YtbbcphloafmldaaGreat

/-! prefix.Table: GetLow: its walk. -/
namespace Go.Proofs.YtbbcphloafmldaaGreat
open Go.RowKit
set_option linter.unusedVariables false

theorem rx_row {L : List Nat} {x : List Bool} {a : Int} (hg : Good L) (h : RX (rowsL L) x a) : x.length ≤ 20 := by
  have hr : ∀ (i : Nat) (r : List Bool), (rowsL L)[i]? = some r → r.length ≤ 20 := fun i r hr => by
    have hi : i < L.length := by have := (List.getElem?_eq_some_iff.1 hr).1; rwa [length_rowsL] at this
    rw [rowsL_get L i hi] at hr
    cases hr
    rw [length_rowOf, List.getD, List.getElem?_eq_getElem hi]; exact hg.1 _ (List.getElem_mem _)
  rcases h with ⟨_, i, h, _⟩ | ⟨_, i, r, h, _, h2⟩
  · exact hr i x h
  · have := hr i r h; omega
theorem rx_lt {L : List Nat} {x : List Bool} (hg : Good L) (h : RX (rowsL L) x (-1)) : x.length < 20 := by
  rcases h with ⟨_, i, h, h3⟩ | ⟨_, i, r, h, _, h2⟩
  · omega
  · have := rx_row hg (Or.inl ⟨(fun e => by rw [e] at h2; simp at h2), i, h, rfl⟩ : RX (rowsL L) r i); omega
theorem rx_hit {rows : List (List Bool)} {x : List Bool} {a : Int} (h : RX rows x a) (h0 : 0 ≤ a) : Hit rows x a.toNat ∧ ((a.toNat : Nat) : Int) = a := by
  rcases h with ⟨h1, i, h2, h3⟩ | ⟨h1, _⟩
  · subst h3; exact ⟨⟨by simpa using h2, h1⟩, by simp⟩
  · omega
theorem rx_beg {rows : List (List Bool)} (hf : PFree rows) {x : List Bool} (h : RX rows x (-1)) : (¬ ∃ i, Hit rows x i) ∧ Beg rows x := by
  rcases h with ⟨h1, i, h2, h3⟩ | ⟨_, i, r, h1, h2, h3⟩
  · omega
  · have hr : r ≠ [] := fun e => by rw [e] at h3; simp at h3
    refine ⟨?_, i, r, h1, hr, h2⟩
    rintro ⟨j, k1, k2⟩
    have := hf j i x r k1 h1 k2 h2
    subst this
    rw [k1] at h1; cases h1; omega
theorem rx_none {rows : List (List Bool)} {x : List Bool} (h : ∀ a, ¬ RX rows x a) : (¬ ∃ i, Hit rows x i) ∧ ¬ Beg rows x := by
  have h1 : ¬ ∃ i, Hit rows x i := fun ⟨i, k1, k2⟩ => h i (Or.inl ⟨k2, i, k1, rfl⟩)
  refine ⟨h1, ?_⟩
  rintro ⟨i, r, k1, k2, k3⟩
  by_cases hl : x.length < r.length
  · exact h (-1) (Or.inr ⟨rfl, i, r, k1, k3, hl⟩)
  · have e : x = r := k3.eq_of_length (by have := k3.length_le; omega)
    exact h1 ⟨i, by rw [e]; exact k1, by rw [e]; exact k2⟩
theorem rx_fun {rows : List (List Bool)} (hf : PFree rows) {x : List Bool} {a b : Int} (h : RX rows x a) (k : RX rows x b) : a = b := by
  by_cases ha : 0 ≤ a
  · obtain ⟨h1, h2⟩ := rx_hit h ha
    by_cases hb : 0 ≤ b
    · obtain ⟨k1, k2⟩ := rx_hit k hb
      rw [← h2, ← k2, hit_one hf h1 k1]
    · have : b = -1 := by
        rcases k with ⟨_, i, _, k2⟩ | ⟨k1, _⟩
        · omega
        · exact k1
      subst this
      exact ((rx_beg hf k).1 ⟨_, h1⟩).elim
  · have e : a = -1 := by
      rcases h with ⟨_, i, _, k2⟩ | ⟨k1, _⟩
      · omega
      · exact k1
    subst e
    by_cases hb : 0 ≤ b
    · obtain ⟨k1, k2⟩ := rx_hit k hb
      exact ((rx_beg hf h).1 ⟨_, k1⟩).elim
    · rcases k with ⟨_, i, _, k2⟩ | ⟨k1, _⟩
      · omega
      · exact k1.symm
theorem rt_fun {rows : List (List Bool)} (hf : PFree rows) {v k : Nat} {a b : Int} (h : RT rows v k a) (h2 : RT rows v k b) : a = b := by
  obtain ⟨x, rfl, rfl, h1⟩ := h
  exact rx_fun hf h1 ((rt_iff _ _ _).1 h2)
/-- 'v, ok := m[word]', however many answers were drawn. -/
theorem MapIs.lookN {w : World} {b v k : Nat} {R : Nat → Nat → Int → Prop} (h : MapIs w b R) (hf : ∀ a b, R v k a → R v k b → a = b) (hv : v < 4294967296) (hk : k < 256) :
    (∃ a, R v k a ∧ ∀ n, (Instr.lookup 152 (.map (some b)) (wk v k) true).run Tryz.prog (w.drewN n) = .ok (.tuple #[.int .i64 a, .bool true]) (w.drewN n)) ∨
    ((∀ a, ¬ R v k a) ∧ ∀ n, (Instr.lookup 152 (.map (some b)) (wk v k) true).run Tryz.prog (w.drewN n) = .ok (.tuple #[.int .i64 0, .bool false]) (w.drewN n)) := by
  have hn : ∀ n, MapIs (w.drewN n) b R := fun n => h.keep ((Ext.refl w).drewN n) (fun f => f)
  by_cases hx : ∃ a, R v k a
  · obtain ⟨a, ha⟩ := hx
    refine Or.inl ⟨a, ha, fun n => ?_⟩
    rcases (hn n).look hv hk with ⟨a', h1, h2⟩ | ⟨h1, _⟩
    · rw [h2, hf a a' ha h1]
    · exact (h1 a ha).elim
  · refine Or.inr ⟨fun a ha => hx ⟨a, ha⟩, fun n => ?_⟩
    rcases (hn n).look hv hk with ⟨a', h1, h2⟩ | ⟨_, h2⟩
    · exact (hx ⟨a', h1⟩).elim
    · exact h2
theorem xAt_bits (hi : Bool) (bs : List Nat) (p n : Nat) (h : p + n ≤ 8 * bs.length) : xAt (ofBits hi bs) p n = bitsAt hi bs p n := ofBits_at hi bs p n h
theorem numOf_one (hi : Bool) (b : Bool) : numOf hi [b] = b.toNat := by cases hi <;> cases b <;> rfl
theorem shl_or (X : Nat) (b : Bool) (h : X < 2 ^ 20) : bits .or .u32 ((X : Int) * 2) ((b.toNat : Nat) : Int) = ((2 * X + b.toNat : Nat) : Int) := by
  have hb := bool_le b
  have e1 : (X : Int) * 2 = ((X * 2 : Nat) : Int) := by simp
  rw [e1, u32_or_nat _ _ (by omega) (by omega)]
  have h2 := or_low b.toNat X 1 (by omega)
  rw [Nat.or_comm, show X * 2 = X * 2 ^ 1 by rfl, h2]
  simp only [Nat.pow_one]
  omega

set_option maxHeartbeats 1000000 in
theorem pre_lsb_read_nil (T : Value) (R : Option Addr) (f : Value) (w : World) (hT : T = .pointer none ∨ R = none) (hp : ∃ a, T = .pointer a) :
    Calls Tryz.prog 127 #[T, .pointer R, f] w fun e w' => e = .returned (.tuple #[.int .i64 0, .int .i64 8]) ∧ w = w' := by
  obtain ⟨a, rfl⟩ := hp
  cases a with
  | none =>
    go_enter Tryz.func127, Tryz.ntmps127
    go_wp2_with fail
    go_ret2
    exact ⟨rfl, rfl⟩
  | some a =>
    obtain rfl : R = none := by
      rcases hT with h | h
      · cases h
      · exact h
    go_enter Tryz.func127, Tryz.ntmps127
    go_wp2_with fail
    go_ret2
    exact ⟨rfl, rfl⟩
set_option maxHeartbeats 4000000 in
set_option maxRecDepth 100000 in
theorem pre_lsb_read (T : Nat) (og og2 : Option Nat) (m : Nat) (L : List Nat) (B : Nat) (ow : Option Nat) (bs : List Nat) (p : Nat) (w : World) (ht : IsT w T og og2 m L) (hg : Good L) (hr : IsR 107 w B ow bs p) (hd : ∀ k, TB T og og2 m k → ¬ FP B ow k)
    (hl : bs.length ≤ 2 ^ 40) (hb : ∀ b ∈ bs, b < 256) (hp : p ≤ 8 * bs.length) :
    Calls Tryz.prog 127 #[.pointer (some ⟨T, 0, none⟩), .pointer (some ⟨B, 0, none⟩), .func (.func 89) #[.pointer (some ⟨B, 0, none⟩)] #[]] w fun e w' =>
      ∃ (s q : Nat) (er : Int), e = .returned (.tuple #[.int .i64 s, .int .i64 er]) ∧ IsDec (rowsL L) (ofBits false bs) p s q er ∧ RPost 107 w B ow bs q w' := by
  have HT := Lib.hid ht
  have HR := Lib.hid hr
  have HD := Lib.hid hd
  have HB := Lib.hid hb
  have HPF := Lib.hid (rows_pf hg)
  have hBw := hr.lt
  have hTw := ht.lt T (Or.inl rfl)
  have hTB : T ≠ B := fun e => hd T (Or.inl rfl) (Or.inl e)
  clear ht hr hd hb
  go_enter Tryz.func127, Tryz.ntmps127
  go_wp2_with fail
  go_loopw [8] (fun pv wr => ∃ n P : Nat, pv = .pointer (some ⟨P, 0, none⟩) ∧ n ≤ 20 ∧ p + n ≤ 8 * bs.length ∧ (∀ j, j < n → GoOn (rowsL L) (ofBits false bs) p j) ∧
      wr.heap[P]? = some (.cells #[.int .u32 (numOf true (bitsAt false bs p n)), .int .u8 n] 156 (0, 0)) ∧ w.heap.size ≤ P ∧ RPost 107 w B ow bs (p + n) wr) (fun pv wr => 21 - (match pv with | .pointer (some a) => (match wr.cell? ⟨a.block, 1, none⟩ with | some (.int _ n) => n.toNat | _ => 0) | _ => 0))
  case atStart => exact ⟨0, _, rfl, by omega, by omega, fun j hj => by omega, heap_alloc_new w _, Nat.le_refl _, ⟨HR.out.ext ((Ext.refl w).alloc _), (Touch.refl _ w).alloc _⟩⟩
  case round =>
    obtain ⟨n, P, rfl, hn, hpn, hgo, hP, hPw, hrp⟩ := hrel
    have cP0 : wr.cell? ⟨P, 0, none⟩ = some (.int .u32 (numOf true (bitsAt false bs p n))) := by simp [World.cell?, hP]
    have cP1 : wr.cell? ⟨P, 1, none⟩ = some (.int .u8 n) := by simp [World.cell?, hP]
    have fP0 : wr.frozen? ⟨P, 0, none⟩ = false := by simp [World.frozen?, hP]
    have fP1 : wr.frozen? ⟨P, 1, none⟩ = false := by simp [World.frozen?, hP]
    have ht2 := HT.out.keep hrp.2 (fun k hk e => HD.out k hk (Or.inl e))
    have HGO := Lib.hid hgo
    have HP := Lib.hid hP
    have HRP := Lib.hid hrp
    have hwrs := hrp.2.size
    obtain ⟨lv, wv, g1, g2, g3, g4⟩ := ht2
    have cT : wr.cell? ⟨T, 2, none⟩ = some (.map (some m)) := by simp [World.cell?, g1]
    have hX := numOf_lt true (bitsAt false bs p n)
    rw [length_bitsAt] at hX
    have hX20 : numOf true (bitsAt false bs p n) < 2 ^ 20 := Nat.lt_of_lt_of_le hX (Nat.pow_le_pow_right (by decide) hn)
    have hlk := g4.lookN (fun _ _ => rt_fun HPF.out) (v := numOf true (bitsAt false bs p n)) (k := n) (by omega) (by omega)
    have hrt : ∀ a, RT (rowsL L) (numOf true (bitsAt false bs p n)) n a ↔ RX (rowsL L) (bitsAt false bs p n) a := fun a => by
      have := rt_iff (rowsL L) (bitsAt false bs p n) a
      rwa [length_bitsAt] at this
    have hbx := xAt_bits false bs p n hpn
    have hst := numOf_high (bitsAt false bs p n) (rbit false bs (p + n))
    rw [← bitsAt_succ] at hst
    have HST := Lib.hid hst
    have HBX := Lib.hid hbx
    have HRT := Lib.hid hrt
    clear g1 g2 g3 g4 hgo hP hrp hX hrt hbx hst
    obtain ⟨X, hXX⟩ : ∃ X, X = numOf true (bitsAt false bs p n) := ⟨_, rfl⟩
    rw [← hXX] at cP0 hX20 hlk HST HRT
    have HXX := Lib.hid hXX.symm
    clear hXX
    simp only [wk] at hlk
    rcases hlk with ⟨a, ha, hrun⟩ | ⟨ha, hrun⟩
    · have ha2 := (HRT.out a).1 ha
      by_cases ha0 : 0 ≤ a
      · obtain ⟨hh, hae⟩ := rx_hit ha2 ha0
        have HF := Lib.hid (show IsDec (rowsL L) (ofBits false bs) p a.toNat (p + n) 0 from ⟨n, rfl, by rw [length_ofBits]; exact hpn, HGO.out, Or.inl ⟨rfl, by rw [HBX.out]; exact hh⟩⟩)
        have HR2 := Lib.hid (show ∀ q, RPost 107 w B ow bs (p + n) (wr.drewN q) from HRP.out.drewN)
        obtain ⟨s, hs⟩ : ∃ s, s = a.toNat := ⟨_, rfl⟩
        rw [← hs] at hae HF
        subst hae
        clear ha ha2 hh hs
        have h0s : (0 : Int) ≤ (s : Int) := Int.natCast_nonneg s
        go_wp2_with fail
        go_quiet (fail)
        clear hrun
        go_wp2_with fail
        go_ret2
        exact ⟨s, p + n, 0, rfl, HF.out, HR2.out nq⟩
      · obtain rfl : a = -1 := by
          rcases ha2 with ⟨_, i, _, k2⟩ | ⟨k1, _⟩
          · omega
          · exact k1
        obtain ⟨hnh, hbeg⟩ := rx_beg HPF.out ha2
        have hn20 := rx_lt hg ha2
        rw [length_bitsAt] at hn20
        have HNH := Lib.hid hnh
        have HBG := Lib.hid hbeg
        clear ha ha2 hnh hbeg ha0
        go_wp2_with fail
        go_quiet (fail)
        clear hrun cT
        by_cases hend : 8 * bs.length < p + n + 1
        · have HF := Lib.hid (show IsDec (rowsL L) (ofBits false bs) p 0 (p + n) 2 from ⟨n, rfl, by rw [length_ofBits]; exact hpn, HGO.out, Or.inr ⟨rfl, rfl, by rw [HBX.out]; exact HNH.out, Or.inr (by rw [length_ofBits]; omega)⟩⟩)
          go_wp2_with fail
          refine (lsb_get_far B ow bs (p + n) 1 _ (HRP.out.drewN nq).1 (by omega) hpn (by decide) hend).mono ?_
          rintro e w5 ⟨rfl, q5, rfl⟩
          have HR5 := Lib.hid (HRP.out.drewN (nq + q5))
          go_wp2_with fail
          go_ret2
          exact ⟨0, p + n, 2, rfl, HF.out, HR5.out⟩
        · go_wp2_with fail
          refine (lsb_get_ok B ow bs (p + n) 1 _ (HRP.out.drewN nq).1 (by omega) HB.out (by decide) (by omega)).mono ?_
          rintro e w5 ⟨rfl, r5⟩
          have hPB : ¬ P = B := by omega
          have hP5 := r5.2.keep (b := P) HP.out hPB
          have cP0 : w5.cell? ⟨P, 0, none⟩ = some (.int .u32 (numOf true (bitsAt false bs p n))) := by simp [World.cell?, hP5]
          rw [HXX.out] at cP0
          have cP1 : w5.cell? ⟨P, 1, none⟩ = some (.int .u8 n) := by simp [World.cell?, hP5]
          have fP0 : w5.frozen? ⟨P, 0, none⟩ = false := by simp [World.frozen?, hP5]
          have fP1 : w5.frozen? ⟨P, 1, none⟩ = false := by simp [World.frozen?, hP5]
          have HR5 := Lib.hid ((HRP.out.drewN nq).step r5)
          clear hP5 r5
          obtain ⟨b, hb⟩ : ∃ b, b = rbit false bs (p + n) := ⟨_, rfl⟩
          rw [show bitsAt false bs (p + n) 1 = [b] by rw [hb]; rfl, numOf_one]
          rw [← hb] at HST
          have HBB := Lib.hid hb
          clear hb
          have hbl := bool_le b
          have hgo : ∀ j, j < n + 1 → GoOn (rowsL L) (ofBits false bs) p j := fun j hj => by
            by_cases hjn : j < n
            · exact HGO.out j hjn
            · obtain rfl : j = n := by omega
              exact ⟨by rw [HBX.out]; exact HNH.out, by rw [HBX.out]; exact HBG.out, by rw [length_ofBits]; omega⟩
          have HGO2 := Lib.hid hgo
          clear hgo
          go_wp2_with fail
          rw [shl_or X b hX20, ← HST.out]
          have hPw5 : P < w5.heap.size := World.block_lt_of_cell? _ _ cP0
          have hwr : wr.cell? ⟨P, 1, none⟩ = some (.int .u8 n) := by simp [World.cell?, HP.out]
          obtain ⟨w6, hw6⟩ : ∃ w6, w6 = (w5.setCell ⟨P, 0, none⟩ (.int .u32 (numOf true (bitsAt false bs p (n + 1))))).setCell ⟨P, 1, none⟩ (.int .u8 ((n : Int) + 1)) := ⟨_, rfl⟩
          rw [← hw6]
          have hT6 : Touch (fun k => k = P) w5 w6 := by rw [hw6]; exact ((Touch.refl (fun k => k = P) w5).setCell (Or.inl rfl) _).setCell (Or.inl rfl) _
          have hz6 : w6.heap.size = w5.heap.size := by rw [hw6]; simp [World.setCell]
          have hR6 : RPost 107 w B ow bs (p + (n + 1)) w6 := by
            obtain ⟨r1, r2⟩ := HR5.out
            refine ⟨r1.keep hT6 (fun e => hPB e.symm) (fun g e e2 => ?_), ⟨hT6.os.trans r2.os, hT6.tape.trans r2.tape, hT6.output.trans r2.output, Nat.le_trans r2.size hT6.size, fun k hk hn => (hT6.block k (Nat.lt_of_lt_of_le hk r2.size) (by omega)).trans (r2.block k hk hn)⟩⟩
            have := HR.out.glt g e; omega
          have hal := heap_alloc_new w6 (.cells #[.int .u32 (numOf true (bitsAt false bs p (n + 1))), .int .u8 ((n : Int) + 1)] 156)
          refine ⟨⟨n + 1, w5.heap.size, rfl, by omega, by omega, HGO2.out, ?_, by omega, ⟨hR6.1.ext ((Ext.refl _).alloc _), hR6.2.alloc _⟩⟩, ?_⟩
          · rw [← hz6]; exact hal
          · have hc6 : (w6.alloc (.cells #[.int .u32 (numOf true (bitsAt false bs p (n + 1))), .int .u8 ((n : Int) + 1)] 156)).cell? ⟨w5.heap.size, 1, none⟩ = some (.int .u8 ((n : Int) + 1)) := by
              rw [← hz6]; simp only [World.cell?, hal]; rfl
            simp only [hc6, hwr]
            omega
    · obtain ⟨hnh, hnb⟩ := rx_none (fun a h => ha a ((HRT.out a).2 h))
      have HF := Lib.hid (show IsDec (rowsL L) (ofBits false bs) p 0 (p + n) 2 from ⟨n, rfl, by rw [length_ofBits]; exact hpn, HGO.out, Or.inr ⟨rfl, rfl, by rw [HBX.out]; exact hnh, Or.inl (by rw [HBX.out]; exact hnb)⟩⟩)
      have HR2 := Lib.hid (show ∀ q, RPost 107 w B ow bs (p + n) (wr.drewN q) from HRP.out.drewN)
      clear ha hnh hnb
      go_wp2_with fail
      go_quiet (fail)
      clear hrun
      go_wp2_with fail
      go_ret2
      exact ⟨0, p + n, 2, rfl, HF.out, HR2.out nq⟩
/-- GetLow. -/
theorem pre_lsb_get (T : Nat) (og og2 : Option Nat) (m : Nat) (L : List Nat) (B : Nat) (ow : Option Nat) (bs : List Nat) (p : Nat) (w : World) (ht : IsT w T og og2 m L) (hg : Good L) (hr : IsR 107 w B ow bs p) (hd : ∀ k, TB T og og2 m k → ¬ FP B ow k)
    (hl : bs.length ≤ 2 ^ 40) (hb : ∀ b ∈ bs, b < 256) (hp : p ≤ 8 * bs.length) :
    Calls Tryz.prog 104 #[.pointer (some ⟨T, 0, none⟩), .pointer (some ⟨B, 0, none⟩)] w fun e w' =>
      ∃ (s q : Nat) (er : Int), e = .returned (.tuple #[.int .i64 s, .int .i64 er]) ∧ IsDec (rowsL L) (ofBits false bs) p s q er ∧ RPost 107 w B ow bs q w' := by
  have HT := Lib.hid ht
  have HR := Lib.hid hr
  have HD := Lib.hid hd
  have HB := Lib.hid hb
  clear ht hr hd hb
  go_enter Tryz.func104, Tryz.ntmps104
  go_wp2_with fail
  refine (pre_lsb_read T og og2 m L B ow bs p _ HT.out hg HR.out HD.out hl HB.out hp).mono ?_
  rintro e w' ⟨s, q, er, rfl, hd, hr⟩
  have HP := Lib.hid hd
  have HQ := Lib.hid hr
  clear hd hr
  go_wp2_with fail
  go_ret2
  exact ⟨s, q, er, rfl, HP.out, HQ.out⟩
theorem pre_lsb_get_nil (T : Value) (R : Option Addr) (w : World) (hT : T = .pointer none ∨ R = none) (hp : ∃ a, T = .pointer a) :
    Calls Tryz.prog 104 #[T, .pointer R] w fun e w' => e = .returned (.tuple #[.int .i64 0, .int .i64 8]) ∧ w = w' := by
  have HT := Lib.hid hT
  have HP := Lib.hid hp
  clear hT hp
  go_enter Tryz.func104, Tryz.ntmps104
  go_wp2_with fail
  refine (pre_lsb_read_nil T R _ _ HT.out HP.out).mono ?_
  rintro e w' ⟨rfl, rfl⟩
  go_wp2_with fail
  go_ret2
  exact ⟨rfl, rfl⟩
end Go.Proofs.YtbbcphloafmldaaGreat
