/- tables.PutSelectors: its walk. -/
import Derived.Test.YteabjmebnbaonaaTabInts
import Derived.Test.YteabjmebnbaonaaTabPutL
namespace Go.Proofs.Yteabjmebnbaonaa
open Go.RowKit
set_option linter.unusedVariables false

/-- a writer and a mover's list, while selectors are put. -/
def SelI (w : World) (B : Nat) (og : Option Nat) (C A : Nat) (L : List Bool) (lst : List Nat) (wr : World) : Prop :=
  ∃ og', IsW 30 true wr B og' L ∧ Near og og' w ∧ Touch (FP B og) w wr ∧ IsM wr C A lst ∧ ¬ FP B og' C ∧ ¬ FP B og' A ∧ w.heap.size ≤ A
theorem SelI.wpost {w : World} {B : Nat} {og : Option Nat} {C A : Nat} {L : List Bool} {lst : List Nat} {wr : World} (h : SelI w B og C A L lst wr) : WPost 30 true w B og L wr := by
  obtain ⟨og', h1, h2, h3, _⟩ := h
  exact ⟨og', h1, h2, h3⟩
theorem SelI.isM {w : World} {B : Nat} {og : Option Nat} {C A : Nat} {L : List Bool} {lst : List Nat} {wr : World} (h : SelI w B og C A L lst wr) : IsM wr C A lst := by
  obtain ⟨og', h1, h2, h3, h4, _⟩ := h
  exact h4
theorem fp_after {og og' : Option Nat} {w : World} {B c : Nat} (hn : Near og og' w) (hc : c < w.heap.size) (h : ¬ FP B og c) : ¬ FP B og' c := by
  rintro (e | e)
  · exact h (Or.inl e)
  · rcases hn with h1 | ⟨g, h1, hg⟩
    · rw [h1] at e; exact h (Or.inr e)
    · rw [h1] at e; cases e; omega
theorem sel_put {w : World} {B : Nat} {og : Option Nat} {C A : Nat} {L : List Bool} {lst : List Nat} {wr : World} (h : SelI w B og C A L lst wr) (v n : Nat) (hl : L.length + 32 < 2 ^ 40) (hv : v < 2 ^ 32) (hn : n ≤ 32) (hvn : v < 2 ^ n) :
    Calls Try.prog 19 #[.pointer (some ⟨B, 0, none⟩), .int .u32 v, .int .i64 n] wr fun e w' => e = .returned (.int .i64 0) ∧ SelI w B og C A (L ++ bitsOf true v n) lst w' := by
  obtain ⟨og', h1, h2, h3, h4, h5, h6, h7⟩ := h
  refine (msb_put_ok B v n og' L wr h1 hl hn hv hvn).mono ?_
  rintro e w' ⟨rfl, og2, k1, k2, k3⟩
  have hs := h3.size
  exact ⟨rfl, og2, k1, h2.trans k2 h3.size, h3.trans k3 (fun i hi => h2.fp B i hi), h4.keep k3 h5 h6, fp_after k2 h4.lt.1 h5, fp_after k2 h4.lt.2 h6, h7⟩
theorem sel_at {w : World} {B : Nat} {og : Option Nat} {C A : Nat} {L : List Bool} {lst : List Nat} {wr : World} (h : SelI w B og C A L lst wr) (k : Nat) (hk : k < 6) :
    Calls Try.prog 66 #[.int .i64 k, .pointer (some ⟨C, 0, none⟩)] wr fun e w' => e = .returned (.int .i64 (lst.getD k 0 : Nat)) ∧ SelI w B og C A L (mtf lst k) w' := by
  obtain ⟨og', h1, h2, h3, h4, h5, h6, h7⟩ := h
  refine (tab_at C A k lst wr h4 hk).mono ?_
  rintro e w' ⟨rfl, k1, k2⟩
  exact ⟨rfl, og', h1.keep k2 (fun e => h6 (Or.inl e.symm)) (fun g e e2 => h6 (Or.inr (by rw [e, e2]))), h2, h3.trans k2 (fun i hi e => by omega), k1, h5, h6, h7⟩
theorem IsM.viewL {w : World} {C A : Nat} {l : List Nat} (h : IsM w C A l) : ViewL w (.slice (some ⟨A, 0, none⟩) 6 6) (i64s l) := by
  refine ⟨_, 6, by rw [length_i64s, h.2.2.1], by rw [length_i64s, h.2.2.1]; exact Nat.le_refl _, fun e => (by cases e), fun _ => ⟨A, 0, rfl, fun j u hu => ?_⟩⟩
  have hj : j < l.length := by have := (List.getElem?_eq_some_iff.1 hu).1; rwa [length_i64s] at this
  rw [Nat.zero_add, h.cell j (by have := h.2.2.1; omega), ← getElem?_i64s l j hj, hu]
theorem tab_puts_nil (v : Value) (n : Int) (w : World) : Calls Try.prog 30 #[.pointer none, v, .int .i64 n] w fun e w' => e = .returned (.int .i64 8) ∧ w = w' := by
  go_enter Try.func30, Try.ntmps30
  go_wp2_with fail
  go_ret
  exact ⟨rfl, rfl⟩
theorem bits_one1 : bitsOf true 1 1 = [true] := by decide
set_option maxHeartbeats 4000000 in
set_option maxRecDepth 100000 in
theorem tab_puts_ok (B : Nat) (og : Option Nat) (l : List Bool) (v : Value) (vs : List Nat) (n : Nat) (w : World) (hw : IsW 30 true w B og l) (hv : ViewL w v (i64s vs)) (hd : ∀ b o n cap, v = .slice (some ⟨b, o, none⟩) n cap → ¬ FP B og b) (hl : l.length ≤ 2 ^ 20) (hm : MayN vs n) :
    Calls Try.prog 30 #[.pointer (some ⟨B, 0, none⟩), v, .int .i64 n] w fun e w' => e = .returned (.int .i64 0) ∧ WPost 30 true w B og (l ++ selBits vs) w' := by
  have hal : Try.prog.arrayLen 90 = 6 := by kernel_rfl
  obtain ⟨ao, cap, rfl⟩ := hv.shape
  rw [length_i64s] at *
  obtain ⟨m1, m2, m3, m4, m5⟩ := hm
  have hmin := tab_imin _ (vs.map fun (b : Nat) => (b : Int)) w (by rw [← i64s_ints]; exact hv) (by simpa using m3) (by simp; omega)
  have hmax := tab_imax _ (vs.map fun (b : Nat) => (b : Int)) w (by rw [← i64s_ints]; exact hv) (by simpa using m3) (by simp; omega)
  have HW := Lib.hid hw
  have HC := Lib.hid (show ∀ (wr : World), Touch (FP B og) w wr → ∀ (k x : Nat), vs[k]? = some x → ∃ b o, ao = some ⟨b, o, none⟩ ∧ wr.cell? ⟨b, o + k, none⟩ = some (.int .i64 x) from fun wr ht k x hx => by
    obtain ⟨b, o, rfl, _, hc⟩ := viewL_cells hv (by rw [length_i64s]; omega)
    exact ⟨b, o, rfl, cell_touch ht (hc k (.int .i64 x) (by simp [i64s, hx])) (hd b o _ _ rfl)⟩)
  have HBW := Lib.hid hw.lt
  have HGW := Lib.hid hw.glt
  have HM5 := Lib.hid m5
  clear hw hv hd m5
  have h1 : ¬ (n : Int) < 2 := by omega
  have h2 : ¬ (6 : Int) < (n : Int) := by omega
  have h3 : ((vs.length : Int) == 0) = false := by rw [beq_eq_false_iff_ne]; omega
  have h4 : ¬ (32767 : Int) < (vs.length : Int) := by omega
  go_enter Try.func30, Try.ntmps30
  go_wp2_with fail
  refine hmin.mono ?_
  clear hmin
  rintro e w' ⟨m, rfl, hmem, _, rfl⟩
  have hm0 : ¬ m < 0 := by obtain ⟨x, _, rfl⟩ := List.mem_map.1 hmem; omega
  clear hmem
  go_wp2_with fail
  refine hmax.mono ?_
  clear hmax
  rintro e w' ⟨M, rfl, hmem, _, rfl⟩
  have hM0 : ¬ (n : Int) ≤ M := by obtain ⟨x, hx, rfl⟩ := List.mem_map.1 hmem; have := HM5.out x hx; omega
  clear hmem
  have k32 : IntKind.u32.wrap (vs.length : Int) = (vs.length : Int) := IntWalk.u32_in _ (by omega)
  go_wp2_with fail
  refine (msb_put_ok B vs.length 15 og l _ HW.out (by omega) (by decide) (by omega) (by omega)).mono ?_
  rintro e w1 ⟨rfl, og1, p1, n1, t1⟩
  have HP1 := Lib.hid p1
  have HN1 := Lib.hid n1
  have HT1 := Lib.hid t1
  clear p1 n1 t1 k32 h1 h2 h3 h4 hm0 hM0
  go_wp2_with fail
  refine (tab_mover w1).mono ?_
  rintro e w2 ⟨C, A, rfl, q1, q2, q3, q4⟩
  have hs1 := HT1.out.size
  have HS := Lib.hid (show SelI w B og C A (l ++ bitsOf true vs.length 15) lst0 w2 from
    ⟨og1, HP1.out.ext q2, HN1.out, HT1.out.trans q2 (fun _ _ f => f.elim), q1, fun h => (by rcases h with h | h; (have := HP1.out.lt; omega); (have := HP1.out.glt _ h; omega)), fun h => (by rcases h with h | h; (have := HP1.out.lt; omega); (have := HP1.out.glt _ h; omega)), by omega⟩)
  clear q1 q2 q3 q4 HP1 HN1 HT1 hs1
  have HL15 := Lib.hid (show selBits vs = bitsOf true vs.length 15 ++ selFrom lst0 vs from rfl)
  go_wp2_with fail
  go_loopw [10, 11, 52] (fun _ _ iv wr => ∃ (k : Nat) (lst : List Nat) (acc : List Bool), iv = .int .i64 k ∧ k ≤ vs.length ∧ acc.length ≤ 6 * k ∧ SelI w B og C A (l ++ (bitsOf true vs.length 15 ++ acc)) lst wr ∧ Good n lst ∧ Hid (selFrom lst0 vs = acc ++ selFrom lst (vs.drop k))) (fun _ _ iv _ => vs.length - (intOf iv).toNat)
  case atStart => exact ⟨0, lst0, [], rfl, Nat.zero_le _, Nat.le_refl _, by simpa using HS.out, good0 n m1 m2, Lib.hid rfl⟩
  case round =>
    obtain ⟨k, lst, acc, rfl, hk, hal6, hsi, hgood, HE⟩ := hrel
    have HSI := Lib.hid hsi
    have HGD := Lib.hid hgood
    clear hsi hgood
    by_cases hlt : k < vs.length
    · have hlti : (k : Int) < (vs.length : Int) := by omega
      obtain ⟨x, hx⟩ : ∃ x, vs[k]? = some x := ⟨_, List.getElem?_eq_getElem hlt⟩
      obtain ⟨b, o, e0, c1⟩ := HC.out _ HSI.out.wpost.choose_spec.2.2 k x hx
      cases e0
      have hxn := HM5.out x (List.mem_of_getElem? hx)
      have hdrop : vs.drop k = x :: vs.drop (k + 1) := by
        rw [List.drop_eq_getElem_cons hlt]; congr 1
        have := List.getElem?_eq_getElem hlt; rw [hx] at this; cases this; rfl
      have HEX := Lib.hid (show selFrom lst (vs.drop k) = List.replicate (idx lst x) true ++ false :: selFrom (mtf lst (idx lst x)) (vs.drop (k + 1)) by rw [hdrop, selFrom])
      have hidx := HGD.out.idx m2 hxn
      have hxl : x ∈ lst := by
        have h6 := HGD.out.len
        have := hidx.2
        rw [← this, List.getD, List.getElem?_eq_getElem (show idx lst x < lst.length by omega)]
        exact List.getElem_mem _
      have HIX := Lib.hid (tab_index _ lst x wr HSI.out.isM.viewL hxl (by have := HGD.out.len; omega))
      have HI2 := Lib.hid hidx.2
      have HG2 := Lib.hid (HGD.out.mtf m2 hidx.1)
      have hi6 := hidx.1
      obtain ⟨K, hK⟩ : ∃ K, K = idx lst x := ⟨_, rfl⟩
      rw [← hK] at HEX HIX HI2 HG2 hi6
      clear hx hdrop hidx hxl hK
      go_wp2_with fail
      refine HIX.out.mono ?_
      rintro e w3 ⟨rfl, rfl⟩
      go_wp2_with fail
      refine (sel_at HSI.out K (by omega)).mono ?_
      rintro e w4 ⟨rfl, s4⟩
      have HS4 := Lib.hid s4
      clear s4 c1
      go_wp2_with fail
      go_loopw [65] (fun jv wr => ∃ j : Nat, jv = .int .i64 j ∧ j ≤ K ∧ SelI w B og C A (l ++ (bitsOf true vs.length 15 ++ (acc ++ List.replicate j true))) (mtf lst K) wr) (fun jv _ => K - (intOf jv).toNat)
      case atStart => exact ⟨0, rfl, Nat.zero_le _, by simpa using HS4.out⟩
      case round =>
        obtain ⟨j, rfl, hj, hsj⟩ := hrel
        have HSJ := Lib.hid hsj
        clear hsj
        by_cases hjk : j < K
        · have hjki : (j : Int) < (K : Int) := by omega
          go_wp2_with fail
          refine (sel_put HSJ.out 1 1 (by simp only [List.length_append, length_bitsOf, List.length_replicate]; omega) (by decide) (by decide) (by decide)).mono ?_
          rw [bits_one1]
          rintro e w5 ⟨rfl, s5⟩
          have HS5 := Lib.hid s5
          clear s5
          go_wp2_with fail
          go_roundw
          case rel => exact ⟨j + 1, by go_num, by omega, by rw [List.replicate_succ']; have := HS5.out; simpa [List.append_assoc] using this⟩
          case measure => simp [intOf]; omega
        · obtain rfl : j = K := by omega
          go_wp2_with fail
          refine (sel_put HSJ.out 0 1 (by simp only [List.length_append, length_bitsOf, List.length_replicate]; omega) (by decide) (by decide) (by decide)).mono ?_
          rw [bits_end]
          rintro e w5 ⟨rfl, s5⟩
          have HS5 := Lib.hid s5
          clear s5
          go_wp2_with fail
          go_roundw
          case rel => exact ⟨k + 1, mtf lst j, acc ++ (List.replicate j true ++ [false]), by go_num, by omega, by simp only [List.length_append, List.length_replicate, List.length_cons, List.length_nil]; omega, by have := HS5.out; simpa [List.append_assoc] using this, HG2.out, Lib.hid (by rw [HE.out, HEX.out]; simp)⟩
          case measure => simp [intOf]; omega
    · obtain rfl : k = vs.length := by omega
      have hfin : acc = selFrom lst0 vs := by rw [HE.out, List.drop_length, selFrom, List.append_nil]
      have HF := Lib.hid (show WPost 30 true w B og (l ++ selBits vs) wr by rw [HL15.out, ← hfin]; exact HSI.out.wpost)
      clear hfin
      go_wp2_with fail
      go_ret
      exact ⟨rfl, HF.out⟩
end Go.Proofs.Yteabjmebnbaonaa
