/- refine.flat and the document's Flat: a code whose lengths are all the same. A region that draws its order and ends in ONE operation (c) that turns memory and waits for all others, which only make memory: what c finds is told with the values that stand in the slots. No program is named here. refine.Choose: its walk. refine: the three choices may be; two flat codes are cheap: plain. refine's laws: 'counts': its walk. -/
import Derived.Test.YtaabmlnbadpfgaaBnd6
import Derived.Test.YtaabmlnbadpfgaaBO
import Derived.Test.YtaabmlnbadpfgaaBnd2
import Derived.Test.YtaabmlnbadpfgaaGrowInZ
import Derived.OwnWalk
import Derived.BigQuiet
import Derived.Test.YtaabmlnbadpfgaaBnd8
import Derived.Test.YtaabmlnbadpfgaaBnd7
/-! refine.flat and the document's Flat: a code whose lengths are all the same. -/
namespace Go.Proofs.Ytaabmlnbadpfgaa
open Go.RowKit
set_option linter.unusedVariables false

/-- bits of n symbols' words, all of one length. -/
def flatK (n : Nat) : Nat := if n ≤ 2 then 1 else if n ≤ 4 then 2 else if n ≤ 8 then 3 else if n ≤ 16 then 4 else if n ≤ 32 then 5 else if n ≤ 64 then 6 else if n ≤ 128 then 7 else if n ≤ 256 then 8 else 9
theorem flatK_le (n : Nat) : 1 ≤ flatK n ∧ flatK n ≤ 9 := by
  unfold flatK
  repeat' split
  all_goals omega
theorem flatK_room {n : Nat} (h : n ≤ 512) : n ≤ 2 ^ flatK n := by
  unfold flatK
  repeat' split
  all_goals simp only [Nat.reducePow]; omega
theorem flatK_lt {n k : Nat} (h3 : 3 ≤ n) (h : k < flatK n) : 2 ^ k < n := by
  have hp : 2 ^ k ≤ 2 ^ (flatK n - 1) := Nat.pow_le_pow_right (by decide) (by omega)
  refine Nat.lt_of_le_of_lt hp ?_
  unfold flatK
  repeat' split
  all_goals simp only [Nat.reduceSub, Nat.reducePow]; omega
/-- a flat code. -/
def flatL (n : Nat) : List Nat := List.replicate n (flatK n)
def FK (n : Nat) (w : World) (vk : Value) (wr : World) : Prop := ∃ k : Nat, vk = .int .u8 k ∧ 1 ≤ k ∧ k ≤ flatK n ∧ wr = w
set_option maxHeartbeats 1000000 in
theorem ref_flat (n : Nat) (w : World) (h3 : 3 ≤ n) (hn : n ≤ 258) :
    Calls Try.prog 30 #[.int .i64 n] w fun e w' => ∃ v, e = .returned v ∧ BO w (flatL n) v w' := by
  have HN := Lib.hid (And.intro h3 hn)
  clear h3 hn
  go_enter Try.func30, Try.ntmps30
  go_wp2_with fail
  go_loopw [3] (fun vk wr => FK n w vk wr) (fun vk _ => flatK n - (intOf vk).toNat)
  case atStart => exact ⟨1, rfl, Nat.le_refl _, (flatK_le n).1, rfl⟩
  case round =>
    obtain ⟨k, rfl, h1, hk, hwr⟩ := hrel
    obtain rfl : w = wr := hwr.symm
    have hk9 := (flatK_le n).2
    obtain ⟨P, hP⟩ : ∃ P, P = 2 ^ k := ⟨_, rfl⟩
    have hp9 : P ≤ 512 := by
      rw [hP]
      exact Nat.le_trans (Nat.pow_le_pow_right (by decide) (show k ≤ 9 by omega)) (by decide)
    have hsh : wrap64 ((2 : Int) ^ k) = (P : Int) := by
      rw [show (2 : Int) ^ k = ((P : Nat) : Int) by rw [hP]; simp]
      exact IntWalk.wrap64_in (P : Int) (by omega)
    have hk9' : k ≤ 9 := by omega
    by_cases hlt : k < flatK n
    · have hlp : P < n := by rw [hP]; exact flatK_lt HN.out.1 hlt
      have hlz : (P : Int) < (n : Int) := by omega
      have HL := Lib.hid hlt
      clear hlt hlp hk hk9 hP
      have hw1 : IntKind.u8.wrap ((k : Int) + 1) = ((k + 1 : Nat) : Int) := by rw [show (k : Int) + 1 = ((k + 1 : Nat) : Int) by omega]; exact IntWalk.u8_in _ (by omega)
      go_wp2_with fail
      go_roundw
      case rel => exact ⟨k + 1, by go_num, by omega, HL.out, rfl⟩
      case measure => simp [intOf]; have := HL.out; omega
    · obtain rfl : k = flatK n := by omega
      have hlp : ¬ (P : Int) < (n : Int) := by have := flatK_room (n := n) (by have := HN.out; omega); rw [← hP] at this; omega
      obtain ⟨K, hK⟩ : ∃ K, K = flatK n := ⟨_, rfl⟩
      rw [← hK] at hsh h1 hk9' ⊢
      have HK := Lib.hid hK
      clear hlt hK hk hk9 hP
      go_wp2_with fail
      refine (rep_repeat w.heap.size K n _ (heap_alloc_new w _) (by have := HN.out; omega) (by have := HN.out; omega)).mono ?_
      rintro e w2 ⟨v, og, rfl, r1, r2, r3⟩
      have HF := Lib.hid (show BO w (flatL n) v w2 from ⟨og, by rw [flatL, List.length_replicate, ← HK.out]; exact r1, fun g e => by have := r2 g e; simp at this; omega, ((Ext.refl w).alloc _).trans r3⟩)
      clear r1 r2 r3
      go_wp2_with fail
      go_ret
      exact ⟨_, rfl, HF.out⟩
/-- a row g of n bytes, of which i are K. -/
structure FR8 (w : World) (g n K i : Nat) (wr : World) : Prop where
  own : Owns wr 5 1 (.slice (some ⟨g, 0, none⟩) n n) (some g) n (u8s (List.replicate i K ++ List.replicate (n - i) 0))
  ext : Ext w wr
  new : w.heap.size ≤ g
theorem FR8.set {w wr : World} {g n K i : Nat} (h : FR8 w g n K i wr) (hi : i < n) : FR8 w g n K (i + 1) (wr.setCell ⟨g, i, none⟩ (.int .u8 K)) := by
  refine ⟨?_, h.ext.touch ((Touch.refl (fun k => k = g) wr).setCell (Or.inl rfl) _) (fun k hk e => by have := h.new; omega), h.new⟩
  have h1 := h.own.set i (.int .u8 K) hi
  have e : (u8s (List.replicate i K ++ List.replicate (n - i) 0)).set i (.int .u8 K) = u8s (List.replicate (i + 1) K ++ List.replicate (n - (i + 1)) 0) := by
    simp only [u8s_append, u8s_rep]
    rw [List.set_append_right _ _ (by simp), List.length_replicate, Nat.sub_self, show n - i = (n - (i + 1)) + 1 by omega, List.replicate_succ, List.set_cons_zero, List.replicate_succ', List.append_assoc]
    rfl
  rw [← e]; exact h1
theorem FR8.cell {w wr : World} {g n K i : Nat} (h : FR8 w g n K i wr) (hi : i < n) : wr.cell? ⟨g, i, none⟩ = some (.int .u8 0) ∧ wr.frozen? ⟨g, i, none⟩ = false := by
  have hx : (u8s (List.replicate i K ++ List.replicate (n - i) 0))[i]? = some (.int .u8 0) := by
    simp only [u8s_append, u8s_rep]
    rw [List.getElem?_append_right (by simp), List.length_replicate, Nat.sub_self, List.getElem?_replicate, if_pos (by omega)]
    rfl
  exact ⟨h.own.cell i _ hx, h.own.free i⟩
def FK0 (n : Nat) (w : World) (vk : Value) (wr : World) : Prop := ∃ k : Nat, vk = .int .i64 k ∧ k ≤ flatK n ∧ wr = w
set_option maxHeartbeats 1000000 in
theorem ref_flat25 (n : Nat) (w : World) (h3 : 3 ≤ n) (hn : n ≤ 258) :
    Calls Try.prog 13 #[.int .i64 n] w fun e w' => ∃ v, e = .returned v ∧ BO w (flatL n) v w' := by
  have HN := Lib.hid (And.intro h3 hn)
  clear h3 hn
  go_enter Try.func13, Try.ntmps13
  go_wp2_with fail
  go_loopw [3] (fun vk wr => FK0 n w vk wr) (fun vk _ => flatK n - (intOf vk).toNat)
  case atStart => exact ⟨0, rfl, Nat.zero_le _, rfl⟩
  case round =>
    obtain ⟨k, rfl, hk, hwr⟩ := hrel
    obtain rfl : w = wr := hwr.symm
    have hk9 := (flatK_le n).2
    obtain ⟨P, hP⟩ : ∃ P, P = 2 ^ k := ⟨_, rfl⟩
    have hp9 : P ≤ 512 := by
      rw [hP]
      exact Nat.le_trans (Nat.pow_le_pow_right (by decide) (show k ≤ 9 by omega)) (by decide)
    have hsh : wrap64 ((2 : Int) ^ k) = (P : Int) := by
      rw [show (2 : Int) ^ k = ((P : Nat) : Int) by rw [hP]; simp]
      exact IntWalk.wrap64_in (P : Int) (by omega)
    have hk9' : k ≤ 9 := by omega
    by_cases hlt : k < flatK n
    · have hlp : P < n := by rw [hP]; exact flatK_lt HN.out.1 hlt
      have hlz : (P : Int) < (n : Int) := by omega
      have HL := Lib.hid hlt
      clear hlt hlp hk hk9 hP
      go_wp2_with fail
      go_roundw
      case rel => exact ⟨k + 1, by go_num, HL.out, rfl⟩
      case measure => simp [intOf]; have := HL.out; omega
    · obtain rfl : k = flatK n := by omega
      have hlp : ¬ (P : Int) < (n : Int) := by have := flatK_room (n := n) (by have := HN.out; omega); rw [← hP] at this; omega
      obtain ⟨K, hK⟩ : ∃ K, K = flatK n := ⟨_, rfl⟩
      rw [← hK] at hsh hk9' ⊢
      have HK := Lib.hid hK
      obtain ⟨w1, hmk, og, o1, o2, o3⟩ := make_u8 w n (by have := HN.out; omega)
      obtain ⟨g, hg⟩ : ∃ g, g = w.heap.size := ⟨_, rfl⟩
      have hog : og = some g := by
        have h2 := o1.2
        rw [hg]; simpa [Value.ownBlock] using h2.symm
      subst hog
      rw [← hg] at hmk o1
      have HR0 := Lib.hid (show FR8 w g n K 0 w1 from ⟨by rw [List.length_replicate] at o1; simpa using o1, o3, by omega⟩)
      have hKw : IntKind.u8.wrap (K : Int) = (K : Int) := IntWalk.u8_in _ (by omega)
      clear hlt hK hk hk9 hP o1 o2 o3 hg
      go_wp2_with fail
      clear hmk
      go_loopw [5] (fun vi wr => ∃ i : Nat, vi = .int .i64 i ∧ i ≤ n ∧ FR8 w g n K i wr) (fun vi _ => n - (intOf vi).toNat)
      case atStart => exact ⟨0, rfl, Nat.zero_le _, HR0.out⟩
      case round =>
        obtain ⟨i, rfl, hi, hr⟩ := hrel
        have HR := Lib.hid hr
        clear hr
        have hn258 := HN.out.2
        by_cases hlt : i < n
        · have hltz : (i : Int) < (n : Int) := by omega
          obtain ⟨ci, fi⟩ := HR.out.cell hlt
          have HS := Lib.hid (HR.out.set hlt)
          go_wp2_with fail
          go_roundw
          case rel => exact ⟨i + 1, by go_num, by omega, HS.out⟩
          case measure => simp [intOf]; omega
        · obtain rfl : i = n := by omega
          have HF := Lib.hid (show BO w (flatL i) (.slice (some ⟨g, 0, none⟩) i i) wr from ⟨some g, by rw [flatL, List.length_replicate, ← HK.out]; simpa using HR.out.own, fun q e => by cases e; exact HR.out.new, HR.out.ext⟩)
          go_wp2_with fail
          go_ret
          exact ⟨_, rfl, HF.out⟩
end Go.Proofs.Ytaabmlnbadpfgaa

/-! A region that draws its order and ends in ONE operation (c) that turns memory and waits for all others, which only make memory: what c finds is told with the values that stand in the slots. No program is named here. -/
namespace Go.Proofs.Ytaabmlnbadpfgaa
open Go.RowKit
set_option linter.unusedVariables false
section
variable {P : Program} {l : List Oper} {Φ : Nat → Value → World → Prop} {a0 : Act}
/-- what is asked of all operations but c. -/
def OblBut (P : Program) (l : List Oper) (I : World → Prop) (Φ : Nat → Value → World → Prop) (c : Nat) : Nat → List Oper → Prop
  | _, [] => True
  | i, o :: r => (i ≠ c → Obl P l I Φ o) ∧ OblBut P l I Φ c (i + 1) r
theorem OblBut.get {I : World → Prop} {c : Nat} : ∀ {r : List Oper} {k : Nat}, OblBut P l I Φ c k r → ∀ i o, r[i]? = some o → k + i ≠ c → Obl P l I Φ o
  | [], _, _, i, o, h, _ => by simp at h
  | x :: r, k, h, i, o, ho, hc => by
    cases i with
    | zero => simp at ho; subst ho; exact h.1 hc
    | succ i => exact OblBut.get h.2 i o (by simpa using ho) (by omega)
theorem last_any {w0 : World} {c : Nat} {ks : List Nat} (hst : ∀ t v w1 w2, Ext w1 w2 → Φ t v w1 → Φ t v w2) (hone : onceB l = true) (hg : growB l = true) (h2 : twoB l c ks = true) (hks : ∀ j, j < l.length → j ≠ c → ks.getD j 2 = 0) (hcl : c < l.length) (hcd : (l[c]?).bind (·.dst) = none)
    (hd : ∀ d ∈ dsts l, d < a0.tmps.size) (hbase : ∀ o ∈ l, ∀ t ∈ reads l o, t ∉ dsts l → ∀ w, Φ t (a0.tmps.getD t undef) w) (hops : OblBut P l (Ext w0) Φ c 0 l) {Q : Exit → Act → World → Prop}
    (hlast : ∀ a w o, l[c]? = some o → Ext w0 w → a.defers = a0.defers → a.tmps.size = a0.tmps.size → (∀ d ∈ dsts l, Φ d (a.tmps.getD d undef) w) → (∀ t, t ∉ dsts l → a.tmps.getD t undef = a0.tmps.getD t undef) → Region.wanted o (saysOf l a.eval) = true ∧ ∃ w', (execOp a.eval o).run P w = .ok .skip w' ∧ Q .normal a w') :
    ∀ (fuel : Nat) (listed : Array Bool) (a : Act) (w : World), ((Mid2 l c (Ext w0) (fun _ => True) Φ a0 listed a w ∧ listed.getD c false = false ∧ (listed.toList.filter (! ·)).length ≤ fuel) ∨ (listed.size = l.length ∧ (∀ j, j < l.length → listed.getD j false = true) ∧ Q .normal a w)) → wpAny P .any l.toArray Q fuel listed a w := by
  intro fuel
  have done : ∀ (listed : Array Bool), listed.size = l.length → (∀ j, j < l.length → listed.getD j false = true) → ∀ i, i ∉ Region.ready .any l.toArray listed := by
    intro listed hs hall i hi
    simp only [Region.ready, List.mem_filter, List.mem_range, List.size_toArray, Bool.and_eq_true] at hi
    have h1 := hall i hi.1
    have h3 : listed.getD i true = listed.getD i false := by simp only [Array.getD_eq_getD_getElem?, Array.getElem?_eq_getElem (show i < listed.size by omega), Option.getD_some]
    have h4 := hi.2.1
    rw [h3, h1] at h4
    simp at h4
  induction fuel with
  | zero =>
    rintro listed a w (⟨h, hc, hf⟩ | ⟨hs, hall, hq⟩)
    · exfalso
      have hil : c < listed.size := by rw [h.mid.size]; exact hcl
      have h0 : listed.toList.filter (! ·) = [] := List.eq_nil_of_length_eq_zero (by omega)
      have hm : listed[c] ∈ listed.toList := by simp
      have hx : (! listed[c]) = true := by simpa [Array.getD_eq_getD_getElem?, Array.getElem?_eq_getElem hil] using hc
      have : listed[c] ∈ listed.toList.filter (! ·) := List.mem_filter.2 ⟨hm, hx⟩
      rw [h0] at this
      cases this
    · exact ⟨List.eq_nil_iff_forall_not_mem.2 (done listed hs hall), hq⟩
  | succ fuel ih =>
    rintro listed a w (⟨h, hc, hf⟩ | ⟨hs, hall, hq⟩)
    · refine ⟨fun hr => ?_, fun i hi => ?_⟩
      · have := ready_all hg h.mid.size hr c hcl
        rw [hc] at this; cases this
      have hi0 := hi
      simp only [Region.ready, List.mem_filter, List.mem_range, List.size_toArray, Bool.and_eq_true] at hi
      obtain ⟨hil, hnl, haft⟩ := hi
      obtain ⟨o, ho⟩ : ∃ o, l[i]? = some o := ⟨_, List.getElem?_eq_getElem hil⟩
      have hgi := List.all_eq_true.1 hg i (List.mem_range.2 hil)
      simp only [ho, Bool.and_eq_true] at hgi
      obtain ⟨⟨⟨_, hr⟩, _⟩, _⟩ := hgi
      simp only [List.getElem?_toArray, ho, Option.map_some, Option.getD_some] at haft
      have haft2 : ∀ e ∈ o.after, Region.binds .any e = true → listed.getD e.on false = true := by
        intro e he hb
        obtain ⟨k, hk, rfl⟩ := Array.getElem_of_mem he
        have h3 := (Array.all_eq_true.1 haft) k hk
        simpa [hb] using h3
      have hsay : saysOf l a.eval = yielded l.toArray a.tmps := funext (yielded_says a)
      have hclosed : ∀ j oj, l[j]? = some oj → (listed.setIfInBounds i true).getD j false = true → ∀ e ∈ oj.after, Region.binds .any e = true → (listed.setIfInBounds i true).getD e.on false = true := by
        intro j oj hj hlj e he hb
        refine listed_put ?_
        rcases put_listed hlj with rfl | hlj
        · rw [ho] at hj; cases hj
          exact haft2 e he hb
        · exact h.closed j oj hj hlj e he hb
      have hisz : i < listed.size := by rw [h.mid.size]; exact hil
      have hnl2 : listed.getD i false = false := by
        have : listed.getD i true = listed.getD i false := by simp only [Array.getD_eq_getD_getElem?, Array.getElem?_eq_getElem hisz, Option.getD_some]
        rw [← this]; simpa using hnl
      have hit : (listed.setIfInBounds i true).getD i false = true := by simp [Array.getD_eq_getD_getElem?, hisz]
      by_cases hic : i = c
      · have hct : (listed.setIfInBounds i true).getD c false = true := by rw [← hic]; exact hit
        have hothers : ∀ j, j < l.length → (listed.setIfInBounds i true).getD j false = true := fun j hj => by
          by_cases hjc : j = c
          · rw [hjc]; exact hct
          · exact early_listed h2 hg hclosed hct _ j (Nat.le_refl _) hj (hks j hj hjc)
        have hod : o.dst = none := by
          have h5 := hcd
          rw [← hic, ho] at h5
          exact h5
        obtain ⟨hw, w', hrun, hq⟩ := hlast a w o (by rw [← hic]; exact ho) (h.zero hc) h.mid.defers h.mid.tsize (fun d hdm => by
          obtain ⟨oj, hoj, hjd⟩ := List.mem_filterMap.1 hdm
          obtain ⟨j, hj⟩ := List.getElem?_of_mem hoj
          have hjl : j < l.length := (List.getElem?_eq_some_iff.1 hj).1
          have hji : j ≠ i := fun e => by rw [e, ho] at hj; cases hj; rw [hod] at hjd; cases hjd
          have hlj : listed.getD j false = true := by
            rcases put_listed (hothers j hjl) with e | e
            · exact absurd e hji
            · exact e
          exact h.mid.done j oj d hj hjd hlj) h.mid.others
        rw [hsay] at hw
        unfold wpOp
        simp only [List.getElem?_toArray, ho]
        rw [if_pos hw]
        refine Or.inl ?_
        unfold Oper.wp
        rw [hrun]
        simp only [Oper.upon]
        rw [hod]
        exact ih _ _ _ (Or.inr ⟨by simpa using h.mid.size, hothers, hq⟩)
      · have hknow : Know Φ a.eval w (reads l o) := know_all (by
          intro t ht
          show Φ t (a.tmps.getD t undef) w
          by_cases hdt : t ∈ dsts l
          · obtain ⟨oj, hoj, hjd⟩ := List.mem_filterMap.1 hdt
            obtain ⟨j, hj⟩ := List.getElem?_of_mem hoj
            have hjl : j < l.length := (List.getElem?_eq_some_iff.1 hj).1
            have h1 := List.all_eq_true.1 (List.all_eq_true.1 hr t ht) j (List.mem_range.2 hjl)
            simp only [hj, Option.bind_some, hjd, BEq.rfl, Bool.not_true, Bool.false_or, Array.any_eq_true, Bool.and_eq_true, beq_iff_eq] at h1
            obtain ⟨k, hk, hb, hon⟩ := h1
            have h2 := haft2 _ (Array.getElem_mem hk) hb
            rw [hon] at h2
            exact h.mid.done j oj t hj hjd h2
          · rw [h.mid.others t hdt]
            exact hbase o (List.mem_of_getElem? ho) t ht hdt w)
        have hobl := (OblBut.get hops i o ho (by omega)) a.eval w (h.zero hc) (fun _ => rfl) (fun _ => rfl) (fun _ => rfl) hknow
        rw [hsay] at hobl
        have next : ∀ v w', Ext w w' → (∀ d, o.dst = some d → Φ d v w') → wpAny P .any l.toArray Q fuel (listed.setIfInBounds i true) (a.put o.dst v) w' := by
          intro v w' k1 k3
          have hsame : (listed.setIfInBounds i true).getD c false = listed.getD c false := by
            simp only [Array.getD_eq_getD_getElem?]
            rw [Array.getElem?_setIfInBounds_ne hic]
          refine ih _ _ _ (Or.inl ⟨⟨h.mid.put hst (fun _ _ _ _ => trivial) hone hd ho k1 k3, hclosed, fun _ => trivial, fun _ => (h.zero hc).trans k1⟩, by rw [hsame]; exact hc, ?_⟩)
          have hx : listed[i] = false := by simpa [Array.getD_eq_getD_getElem?, Array.getElem?_eq_getElem hisz] using hnl2
          have key : ∀ (m : List Bool) (k : Nat), m[k]? = some false → ((m.set k true).filter (! ·)).length + 1 = (m.filter (! ·)).length := by
            intro m
            induction m with
            | nil => intro k hk; simp at hk
            | cons b m ihm =>
              intro k hk
              cases k with
              | zero => simp at hk; subst hk; simp
              | succ k =>
                simp only [List.set_cons_succ]
                have := ihm k (by simpa using hk)
                cases b <;> simp <;> omega
          have hk := key listed.toList i (by simp [Array.getElem?_toList, Array.getElem?_eq_getElem hisz, hx])
          have e2 : (listed.setIfInBounds i true).toList = listed.toList.set i true := by simp
          rw [e2]; omega
        unfold wpOp
        simp only [List.getElem?_toArray, ho]
        split
        · rename_i hw
          rw [if_pos hw] at hobl
          refine Or.inl ?_
          unfold RunsTo at hobl
          unfold Oper.wp
          generalize (execOp a.eval o).run P w = r at hobl
          cases r with
          | halt x w' => simp [runsUpon] at hobl
          | ok n w' =>
            cases n <;> simp only [runsUpon] at hobl <;> simp only [Oper.upon]
            case value v => exact next _ _ hobl.1 hobl.2
            case skip => exact next _ _ hobl.1 hobl.2
            case enter f args =>
              refine hobl.mono ?_
              rintro e w'' ⟨v, rfl, k1, k3⟩
              exact next _ _ k1 k3
        · rename_i hw
          rw [if_neg hw] at hobl
          exact next _ _ (Ext.refl _) hobl
    · exact ⟨fun _ => hq, fun i hi => absurd hi (done listed hs hall i)⟩
end
/-- **THE LAW**: the last operation turns memory. -/
theorem wp_region_last {P : Program} {l : List Oper} {id : Nat} {Q : Exit → Act → World → Prop} {a : Act} {w : World} (n : Nat) (B D : List Nat) (c : Nat) (hm : P.follows .mixedOrders = true) (Φ : Nat → Value → World → Prop)
    (hst : Stab Φ)
    (hB : (growB l && onceB l && ((dsts l).all fun d => decide (d < n)) && ((l.flatMap (reads l)).all fun t => (dsts l).contains t || B.contains t) && twoB l c ((List.range l.length).map fun j => if j == c then 2 else 0) && decide (c < l.length) && ((l[c]?).bind (·.dst)).isNone) = true) (hD : dsts l = D)
    (hn : a.tmps.size = n) (hbase : ∀ w' : World, Know Φ a.eval w' B)
    (hops : OblBut P l (Ext w) Φ c 0 l)
    (hend : ∀ (vs : Nat → Value) w' o, l[c]? = some o → Ext w w' → (∀ d ∈ D, Φ d (vs d) w') → Region.wanted o (saysOf l (D.foldl (fun a d => a.put (some d) (vs d)) a).eval) = true ∧ ∃ w'', (execOp (D.foldl (fun a d => a.put (some d) (vs d)) a).eval o).run P w' = .ok .skip w'' ∧ Q .normal (D.foldl (fun a d => a.put (some d) (vs d)) a) w'') : (Code.region id l.toArray true).wp P Q a w := by
  simp only [Bool.and_eq_true, decide_eq_true_eq] at hB
  subst hn
  subst hD
  refine wp_region_any hm ?_
  have hx : Ext w { w with drawn := w.drawn + 1 } := (Ext.refl w).drew
  have get : ∀ (r : List Nat) (w' : World), Know Φ a.eval w' r → ∀ t ∈ r, Φ t (a.tmps.getD t undef) w' := by
    intro r
    induction r with
    | nil => intro w' _ t ht; cases ht
    | cons x r ih =>
      intro w' hk t ht
      cases List.mem_cons.1 ht with
      | inl e => subst e; exact hk.1
      | inr e => exact ih w' hk.2 t e
  have hrep : ∀ j, (Array.replicate l.toArray.size false).getD j false = false := by
    intro j
    simp only [Array.getD_eq_getD_getElem?, Array.getElem?_replicate]
    split <;> rfl
  refine last_any (a0 := a) (Φ := Φ) (w0 := w) (c := c) (ks := (List.range l.length).map fun j => if j == c then 2 else 0) hst hB.1.1.1.1.1.2 hB.1.1.1.1.1.1 hB.1.1.2 (fun j hj hne => by simp [List.getD, hj, hne]) hB.1.2 (by simpa using hB.2) (fun d hd => of_decide_eq_true (List.all_eq_true.1 hB.1.1.1.1.2 d hd)) ?_ hops ?_ _ _ _ _ (Or.inl ⟨⟨⟨trivial, by simp, rfl, rfl, fun j o d hj hd hl => ?_, fun _ _ => rfl⟩, fun j oj _ hl => ?_, fun _ => trivial, fun _ => hx⟩, hrep c, ?_⟩)
  · intro o ho t ht hd w'
    have h1 := List.all_eq_true.1 hB.1.1.1.2 t (List.mem_flatMap.2 ⟨o, ho, ht⟩)
    simp only [Bool.or_eq_true, List.contains_iff_mem] at h1
    exact get B w' (hbase w') t (h1.resolve_left hd)
  · intro a' w' o hco hi hd hs hf ho
    have e : a' = (dsts l).foldl (fun a d => a.put (some d) (a'.tmps.getD d undef)) a := by
      refine act_eq (by rw [puts_defers (fun d => a'.tmps.getD d undef)]; exact hd) (by rw [puts_size (fun d => a'.tmps.getD d undef)]; exact hs) (fun t ht => ?_)
      rw [puts_get (fun d => a'.tmps.getD d undef) t _ _ (by omega)]
      by_cases h : t ∈ dsts l
      · rw [if_pos h]
      · rw [if_neg h]; exact ho t h
    rw [e]
    exact hend (fun d => a'.tmps.getD d undef) w' o hco hi hf
  · rw [hrep] at hl; cases hl
  · rw [hrep] at hl; cases hl
  · simp only [List.size_toArray, Array.toList_replicate]
    exact Nat.le_trans (List.length_filter_le _ _) (by simp)
end Go.Proofs.Ytaabmlnbadpfgaa

/-! refine.Choose: its walk. -/
namespace Go.Proofs.Ytaabmlnbadpfgaa
open Go.RowKit Go.Shelf
set_option linter.unusedVariables false

def castZ (l : List Nat) : List Int := l.map fun (x : Nat) => (x : Int)
theorem ints_castZ (l : List Nat) : ints (castZ l) = intsL l := ints_nat rfl
theorem length_castZ (l : List Nat) : (castZ l).length = l.length := by simp [castZ]
/-- how many codes. -/
def kz (S : Nat) : Nat → Int
  | 0 => 2
  | i + 1 => kz S i + if [200, 600, 1200, 2400].getD i 0 ≤ S then 1 else 0
theorem kz_bd (S : Nat) : ∀ i, 2 ≤ kz S i ∧ kz S i ≤ 2 + i
  | 0 => by simp [kz]
  | i + 1 => by
    have := kz_bd S i
    simp only [kz]
    split <;> omega
def numK (S : Nat) : Nat := (kz S 4).toNat
theorem numK_bd (S : Nat) : 2 ≤ numK S ∧ numK S ≤ 6 := by
  have := kz_bd S 4
  unfold numK
  omega
theorem numK_z (S : Nat) : kz S 4 = (numK S : Int) := by
  have := kz_bd S 4
  unfold numK
  omega
/-- the three choices. -/
noncomputable def chLs (sy : List Nat) (n : Nat) : Nat → List (List Nat)
  | 0 => rndL sy n (numK sy.length) (chN sy n (numK sy.length) 3)
  | 1 => rndL sy n 2 (chN sy n 2 3)
  | _ => [flatL n, flatL n]
noncomputable def chCh (sy : List Nat) (n : Nat) : Nat → List Nat
  | 0 => chN sy n (numK sy.length) 4
  | 1 => chN sy n 2 4
  | _ => List.replicate (manyG sy.length) 0
noncomputable def chCo (sy : List Nat) (n : Nat) (i : Nat) : Int := costZ (chLs sy n i) (castZ (chCh sy n i)) (castZ sy)
noncomputable def chPick (sy : List Nat) (n : Nat) : Nat := minTo (chCo sy n) 2
theorem chLs_len {sy : List Nat} {n : Nat} (hn : 3 ≤ n ∧ n ≤ 258) : ∀ i, ∀ L ∈ chLs sy n i, L.length = n
  | 0, L, h => (rndL_good hn L h).1
  | 1, L, h => (rndL_good hn L h).1
  | i + 2, L, h => by
    simp only [chLs, List.mem_cons, List.not_mem_nil, or_false, or_self] at h
    rw [h, flatL, List.length_replicate]
theorem chN_len {sy : List Nat} {n K : Nat} : ∀ k, (chN sy n K k).length = manyG sy.length
  | 0 => by simp [chN, ch0]
  | k + 1 => by simp [chN, rndC]
theorem chCh_len {sy : List Nat} {n : Nat} : ∀ i, (chCh sy n i).length = manyG sy.length
  | 0 => chN_len _
  | 1 => chN_len _
  | i + 2 => by simp [chCh]
/-- an empty box is not what is read. -/
theorem ViewL.box {w X : World} {B : Nat} {v : Value} {xs : List Value} (h : ViewL w v xs) (hx : ∀ u ∈ xs, u ≠ .slice none 0 0) (hb : Box2 w B (.slice none 0 0) (.slice none 0 0)) (ht : Touch (fun q => q = B) w X) : ViewL X v xs := by
  obtain ⟨ao, cap, rfl, h1, h2, h3⟩ := h
  refine ⟨ao, cap, rfl, h1, h2, fun h0 => ?_⟩
  obtain ⟨b, o, rfl, hc⟩ := h3 h0
  refine ⟨b, o, rfl, fun j u hu => cell_touch ht (hc j u hu) fun hs => ?_⟩
  dsimp only at hs
  subst hs
  have h := hc j u hu
  have hne := hx u (List.mem_of_getElem? hu)
  unfold Box2 at hb
  simp only [World.cell?, hb] at h
  rcases hoj : o + j with _ | _ | t
  · rw [hoj] at h; simp at h; exact hne h.symm
  · rw [hoj] at h; simp at h; exact hne h.symm
  · rw [hoj] at h; simp at h
theorem RowsV.box {w X : World} {B n : Nat} {v : Value} {Ls : List (List Nat)} (h : RowsV w v Ls) (h0 : 0 < n) (hl : ∀ L ∈ Ls, L.length = n) (hb : Box2 w B (.slice none 0 0) (.slice none 0 0)) (ht : Touch (fun q => q = B) w X) : RowsV X v Ls := by
  obtain ⟨us, h1, h2, h3⟩ := h
  refine ⟨us, h1.box (fun u hu e => ?_) hb ht, h2, fun k u L a b => (h3 k u L a b).box (fun x hx e => ?_) hb ht⟩
  · obtain ⟨k, hk⟩ := List.getElem?_of_mem hu
    have hkl := (List.getElem?_eq_some_iff.1 hk).1
    have hL : Ls[k]? = some Ls[k] := List.getElem?_eq_getElem (by omega)
    obtain ⟨ao, cap, e2⟩ := (h3 k u _ hk hL).shape
    rw [e, length_u8s, hl _ (List.getElem_mem _)] at e2
    injection e2 with _ e2
    omega
  · obtain ⟨y, _, rfl⟩ := List.mem_map.1 hx
    cases e
theorem ViewL.boxI {w X : World} {B : Nat} {v : Value} {l : List Nat} (h : ViewL w v (intsL l)) (hb : Box2 w B (.slice none 0 0) (.slice none 0 0)) (ht : Touch (fun q => q = B) w X) : ViewL X v (intsL l) := h.box (fun u hu e => by
  obtain ⟨y, _, rfl⟩ := List.mem_map.1 hu
  cases e) hb ht
theorem RowsV.two {w : World} {q : Nat} {u1 u2 : Value} {L : List Nat} {e : TypeId} (h : w.heap[q]? = some (.cells #[u1, u2] e (0, 0))) (h1 : ViewL w u1 (u8s L)) (h2 : ViewL w u2 (u8s L)) : RowsV w (.slice (some ⟨q, 0, none⟩) 2 2) [L, L] := by
  refine ⟨[u1, u2], ⟨_, 2, rfl, Nat.le_refl _, fun e => (by cases e), fun _ => ⟨q, 0, rfl, fun j u hu => ?_⟩⟩, rfl, fun k u L' hu hL => ?_⟩
  · match j, hu with
    | 0, hu => simp at hu; subst hu; simp [World.cell?, h]
    | 1, hu => simp at hu; subst hu; simp [World.cell?, h]
    | j + 2, hu => simp at hu
  · match k, hu, hL with
    | 0, hu, hL => simp at hu hL; subst hu; subst hL; exact h1
    | 1, hu, hL => simp at hu hL; subst hu; subst hL; exact h2
    | k + 2, hu, _ => simp at hu
def sel3 (a b c : Value) : Nat → Value
  | 0 => a
  | 1 => b
  | _ => c
theorem sel3_all {p : Nat → Value → Prop} {a b c : Value} (h0 : p 0 a) (h1 : p 1 b) (h2 : p 2 c) : ∀ i, i < 3 → p i (sel3 a b c i)
  | 0, _ => h0
  | 1, _ => h1
  | 2, _ => h2
/-- the least of the three. -/
theorem min_three (q A2 : Nat) (sy : List Nat) (n : Nat) (w : World) (sv l0 g0 l1 g1 l2 g2 : Value) (hq : w.heap[q]? = some (.cells #[l0, g0, l1, g1, l2, g2] 61 (0, 0))) (hs : w.cell? ⟨A2, 0, none⟩ = some sv) (hsv : ViewL w sv (intsL sy)) (hn : 3 ≤ n ∧ n ≤ 258) (h9 : sy.length ≤ 900050)
    (r0 : RowsV w l0 (chLs sy n 0) ∧ ViewL w g0 (intsL (chCh sy n 0))) (r1 : RowsV w l1 (chLs sy n 1) ∧ ViewL w g1 (intsL (chCh sy n 1))) (r2 : RowsV w l2 (chLs sy n 2) ∧ ViewL w g2 (intsL (chCh sy n 2))) :
    Calls Try.prog 31 #[.slice (some ⟨q, 0, none⟩) 3 3, .func (.func 33) #[] #[.pointer (some ⟨A2, 0, none⟩)]] w fun e w' => ∃ lv gv, e = .returned (.agg #[lv, gv]) ∧ RowsV w' lv (chLs sy n (chPick sy n)) ∧ ViewL w' gv (intsL (chCh sy n (chPick sy n))) ∧ Ext w w' := by
  have hL : ∀ i, i < 3 → RowsV w (sel3 l0 l1 l2 i) (chLs sy n i) := sel3_all (p := fun i v => RowsV w v (chLs sy n i)) r0.1 r1.1 r2.1
  have hG : ∀ i, i < 3 → ViewL w (sel3 g0 g1 g2 i) (intsL (chCh sy n i)) := sel3_all (p := fun i v => ViewL w v (intsL (chCh sy n i))) r0.2 r1.2 r2.2
  have hml : manyG sy.length ≤ 2 ^ 40 := by unfold manyG; omega
  have shL : ∀ i, ∃ a n c, sel3 l0 l1 l2 i = .slice a n c := fun i => by
    match i with
    | 0 => obtain ⟨a, c, e⟩ := r0.1.shape; exact ⟨a, _, c, e⟩
    | 1 => obtain ⟨a, c, e⟩ := r1.1.shape; exact ⟨a, _, c, e⟩
    | i + 2 => obtain ⟨a, c, e⟩ := r2.1.shape; exact ⟨a, _, c, e⟩
  have shG : ∀ i, ∃ a n c, sel3 g0 g1 g2 i = .slice a n c := fun i => by
    match i with
    | 0 => obtain ⟨a, c, e⟩ := r0.2.shape; exact ⟨a, _, c, e⟩
    | 1 => obtain ⟨a, c, e⟩ := r1.2.shape; exact ⟨a, _, c, e⟩
    | i + 2 => obtain ⟨a, c, e⟩ := r2.2.shape; exact ⟨a, _, c, e⟩
  have hd : ∀ i j wx, i < 3 → j < 3 → Ext w wx → Calls Try.prog 33 #[.agg #[sel3 l0 l1 l2 i, sel3 g0 g1 g2 i], .agg #[sel3 l0 l1 l2 j, sel3 g0 g1 g2 j], .pointer (some ⟨A2, 0, none⟩)] wx fun e w' => e = .returned (.int .i64 (chCo sy n i - chCo sy n j)) ∧ Ext wx w' := fun i j wx hi hj hx =>
    ref_diff A2 _ _ _ _ sv (chLs sy n i) (chLs sy n j) (castZ (chCh sy n i)) (castZ (chCh sy n j)) (castZ sy) wx (cell_touch hx hs (fun f => f)) (by rw [ints_castZ]; exact hsv.ext hx) ((hL i hi).ext hx) (by rw [ints_castZ]; exact (hG i hi).ext hx) ((hL j hj).ext hx) (by rw [ints_castZ]; exact (hG j hj).ext hx)
      (fun L h => by rw [chLs_len hn i L h]; omega) (fun L h => by rw [chLs_len hn j L h]; omega) (by rw [length_castZ, chCh_len]; exact hml) (by rw [length_castZ, chCh_len]; exact hml)
  have hrow : ChRow w q 3 (sel3 l0 l1 l2) (sel3 g0 g1 g2) := fun i hi => by
    match i, hi with
    | 0, _ => exact ⟨by simp [World.cell?, hq, sel3], by simp [World.cell?, hq, sel3]⟩
    | 1, _ => exact ⟨by simp [World.cell?, hq, sel3], by simp [World.cell?, hq, sel3]⟩
    | 2, _ => exact ⟨by simp [World.cell?, hq, sel3], by simp [World.cell?, hq, sel3]⟩
  have hp : chPick sy n < 3 := by have := minTo_le (chCo sy n) 2; unfold chPick; omega
  refine (ref_min q 3 3 (sel3 l0 l1 l2) (sel3 g0 g1 g2) (chCo sy n) A2 w (by omega) (by omega) shL shG hrow hd).mono ?_
  rintro e w' ⟨rfl, hx⟩
  exact ⟨_, _, rfl, (hL _ hp).ext hx, (hG _ hp).ext hx, hx⟩
/-- what is refused. -/
def ChNo (w : World) (e : Ending) (w' : World) : Prop := e = .returned (.tuple #[.slice none 0 0, .slice none 0 0, .int .i64 5]) ∧ Ext w w'
set_option maxRecDepth 100000 in
set_option maxHeartbeats 4000000 in
theorem choose_no (sv : Value) (xs : List Int) (n : Int) (w : World) (hv : ViewL w sv (ints xs)) (hl : xs.length ≤ 2 ^ 40) (h : ¬ SymI xs n) : Calls Try.prog 11 #[sv, .int .i64 n] w (ChNo w) := by
  have hx2 : Ext w ((w.alloc (.cells #[sv] 23)).alloc (.cells #[.int .i64 n] 3)) := ((Ext.refl w).alloc _).alloc _
  have HX := Lib.hid hx2
  obtain ⟨sa, sc, rfl⟩ := hv.shape
  rw [length_ints] at *
  obtain ⟨S, hS⟩ : ∃ S, S = xs.length := ⟨_, rfl⟩
  rw [← hS] at hv HX ⊢
  have HS := Lib.hid hS
  have HV := Lib.hid hv
  have HL := Lib.hid hl
  have HH := Lib.hid h
  clear hv hl h hS hx2
  by_cases h3 : n < 3
  · go_enter Try.func11, Try.ntmps11
    go_wp2_with fail
    go_ret3
    exact ⟨rfl, HX.out⟩
  by_cases h258 : 258 < n
  · go_enter Try.func11, Try.ntmps11
    go_wp2_with fail
    go_ret3
    exact ⟨rfl, HX.out⟩
  by_cases h0 : S = 0
  · have h0z : ((S : Int) == 0) = true := by rw [beq_iff_eq]; omega
    have H0 := Lib.hid h0
    clear h0
    go_enter Try.func11, Try.ntmps11
    go_wp2_with fail
    go_ret3
    exact ⟨rfl, HX.out⟩
  have h0z : ((S : Int) == 0) = false := by rw [beq_eq_false_iff_ne]; omega
  have H0 := Lib.hid h0
  clear h0
  by_cases h9 : 900050 < S
  · have h9z : 900050 < (S : Int) := by omega
    clear h9
    go_enter Try.func11, Try.ntmps11
    go_wp2_with fail
    go_ret3
    exact ⟨rfl, HX.out⟩
  have h9z : ¬ 900050 < (S : Int) := by omega
  have hany : xs.any (outB n.toNat) = true := by
    apply Classical.byContradiction
    intro ha
    refine HH.out ⟨by omega, by omega, by have := HS.out; have := H0.out; omega, by have := HS.out; omega, fun x hx => ?_⟩
    have h1 := List.any_eq_false.1 (by simpa using ha) x hx
    simp [outB] at h1
    omega
  obtain ⟨N, rfl⟩ : ∃ N : Nat, n = N := ⟨n.toNat, by omega⟩
  rw [Int.toNat_natCast] at hany
  have hbx : Boxed ((w.alloc (.cells #[.slice sa S sc] 23)).alloc (.cells #[.int .i64 N] 3)) (w.heap.size + 1) 3 (.int .i64 N) := by
    have h := Boxed.new (w.alloc (.cells #[.slice sa S sc] 23)) 3 (.int .i64 N)
    rw [World.size_alloc] at h
    exact h
  have hc := choose_contains (.slice sa S sc) xs (w.heap.size + 1) N _ hbx (HV.out.ext HX.out) HL.out
  rw [hany] at hc
  have HC := Lib.hid hc
  clear hbx hc hany h9
  go_enter Try.func11, Try.ntmps11
  go_wp2_with fail
  refine HC.out.mono ?_
  rintro e w' ⟨rfl, rfl⟩
  go_wp2_with fail
  go_ret3
  exact ⟨rfl, HX.out⟩
/-- what is chosen. -/
def ChYes (sy : List Nat) (n : Nat) (w : World) (e : Ending) (w' : World) : Prop := ∃ lv gv, e = .returned (.tuple #[lv, gv, .int .i64 0]) ∧ RowsV w' lv (chLs sy n (chPick sy n)) ∧ ViewL w' gv (intsL (chCh sy n (chPick sy n))) ∧ Ext w w'
def CkI (S : Nat) (vk vi : Value) : Prop := ∃ i : Int, vi = .int .i64 i ∧ (i = 0 ∨ i = 1 ∨ i = 2 ∨ i = 3 ∨ i = 4) ∧ vk = .int .i64 (kz S i.toNat)
set_option maxRecDepth 100000 in
set_option maxHeartbeats 4000000 in
theorem choose_yes (sv : Value) (sy : List Nat) (n : Nat) (w : World) (hv : ViewL w sv (intsL sy)) (h0 : 0 < sy.length) (h9 : sy.length ≤ 900050) (hlt : ∀ s ∈ sy, s < n) (h3 : 3 ≤ n) (h258 : n ≤ 258) : Calls Try.prog 11 #[sv, .int .i64 n] w (ChYes sy n w) := by
  obtain ⟨sa, sc, rfl⟩ := hv.shape
  rw [length_intsL] at *
  obtain ⟨S, hS⟩ : ∃ S, S = sy.length := ⟨_, rfl⟩
  obtain ⟨G, hG⟩ : ∃ G, G = manyG S := ⟨_, rfl⟩
  have hGS : G = (S + 49) / 50 := hG
  rw [← hS] at hv h0 h9 ⊢
  obtain ⟨W2, hW2⟩ : ∃ W2, W2 = (w.alloc (.cells #[.slice sa S sc] 23)).alloc (.cells #[.int .i64 n] 3) := ⟨_, rfl⟩
  have hx2 : Ext w W2 := by rw [hW2]; exact ((Ext.refl w).alloc _).alloc _
  have b2 : Boxed W2 w.heap.size 23 (.slice sa S sc) := by rw [hW2]; exact (Boxed.new w _ _).alloc _
  have b3 : Boxed W2 (w.heap.size + 1) 3 (.int .i64 n) := by
    have h := Boxed.new (w.alloc (.cells #[.slice sa S sc] 23)) 3 (.int .i64 n)
    rw [World.size_alloc] at h
    rw [hW2]; exact h
  have hany : ((castZ sy).any (outB n)) = false := by
    rw [List.any_eq_false]
    intro x hx
    obtain ⟨s, hs, rfl⟩ := List.mem_map.1 hx
    have := hlt s hs
    simp [outB]; omega
  have hc := choose_contains (.slice sa S sc) (castZ sy) (w.heap.size + 1) n W2 b3 (by rw [ints_castZ]; exact hv.ext hx2) (by rw [length_castZ]; omega)
  rw [hany] at hc
  have HC := Lib.hid hc
  have H := Lib.hid (show S = sy.length ∧ G = manyG S ∧ 0 < S ∧ S ≤ 900050 ∧ 3 ≤ n ∧ n ≤ 258 ∧ (∀ s ∈ sy, s < n) ∧ 1 ≤ G ∧ G ≤ 18001 ∧ ViewL w (.slice sa S sc) (intsL sy) ∧ W2 = (w.alloc (.cells #[.slice sa S sc] 23)).alloc (.cells #[.int .i64 n] 3) from ⟨hS, hG, h0, h9, h3, h258, hlt, by omega, by omega, hv, hW2⟩)
  have HB := Lib.hid (show Ext w W2 ∧ Boxed W2 w.heap.size 23 (.slice sa S sc) ∧ Boxed W2 (w.heap.size + 1) 3 (.int .i64 n) from ⟨hx2, b2, b3⟩)
  have t3 : ¬ (n : Int) < 3 := by omega
  have t258 : ¬ 258 < (n : Int) := by omega
  have t0 : ((S : Int) == 0) = false := by rw [beq_eq_false_iff_ne]; omega
  have t9 : ¬ 900050 < (S : Int) := by omega
  have tb : (S : Int) ≤ 900050 := by omega
  have c2 := b2.cell
  clear hv h0 h9 hlt h3 h258 hS hG hGS hx2 b2 b3 hany hc hW2
  go_enter Try.func11, Try.ntmps11
  go_wp2_with fail
  rw [← H.out.2.2.2.2.2.2.2.2.2.2]
  refine HC.out.mono ?_
  rintro e w' ⟨rfl, hw⟩
  obtain rfl := hw.symm
  obtain ⟨A2, hA2⟩ : ∃ A2, A2 = w.heap.size := ⟨_, rfl⟩
  obtain ⟨A3, hA3⟩ : ∃ A3, A3 = w.heap.size + 1 := ⟨_, rfl⟩
  rw [← hA3, ← hA2] at HB
  rw [← hA2] at c2
  rw [← hA3, ← hA2]
  clear HC hA2 hA3
  go_wp2_with fail
  go_loop [7, 9, 34] (fun vk _ vi => CkI S vk vi) (fun _ _ vi => 4 - (intOf vi).toNat)
  case atStart => exact ⟨0, rfl, by simp, rfl⟩
  case round =>
    obtain ⟨i, rfl, hi, rfl⟩ := hrel
    have hkb := kz_bd S i.toNat
    obtain ⟨k, hk⟩ : ∃ k, k = kz S i.toNat := ⟨_, rfl⟩
    rw [← hk] at hkb ⊢
    have HK := Lib.hid hk
    clear hk
    have hk2 : 2 ≤ k := hkb.1
    have hk8 : k ≤ 8 := by have := hkb.2; omega
    clear hkb
    rcases hi with rfl | rfl | rfl | rfl | rfl
    · by_cases hm : (200 : Int) ≤ (S : Int)
      · have HM := Lib.hid (show k + 1 = kz S 1 by rw [HK.out, kz, if_pos (show [200, 600, 1200, 2400].getD 0 0 ≤ S by simp; omega)]; rfl)
        have i0 : ∀ w : World, (Instr.index 59 (.agg #[.int .i64 200, .int .i64 600, .int .i64 1200, .int .i64 2400]) (.int .i64 0)).run Try.prog w = .ok (.int .i64 200) w := fun _ => by kernel_rfl
        go_wp2_with fail
        go_round
        case rel => exact ⟨1, rfl, by simp, by rw [HM.out]; rfl⟩
        case measure => simp [intOf]
      · have HM := Lib.hid (show k = kz S 1 by rw [HK.out, kz, if_neg (show ¬ [200, 600, 1200, 2400].getD 0 0 ≤ S by simp; omega)]; simp)
        have i0 : ∀ w : World, (Instr.index 59 (.agg #[.int .i64 200, .int .i64 600, .int .i64 1200, .int .i64 2400]) (.int .i64 0)).run Try.prog w = .ok (.int .i64 200) w := fun _ => by kernel_rfl
        go_wp2_with fail
        go_round
        case rel => exact ⟨1, rfl, by simp, by rw [HM.out]; rfl⟩
        case measure => simp [intOf]
    · by_cases hm : (600 : Int) ≤ (S : Int)
      · have HM := Lib.hid (show k + 1 = kz S 2 by rw [HK.out, kz, if_pos (show [200, 600, 1200, 2400].getD 1 0 ≤ S by simp; omega)]; rfl)
        have i0 : ∀ w : World, (Instr.index 59 (.agg #[.int .i64 200, .int .i64 600, .int .i64 1200, .int .i64 2400]) (.int .i64 1)).run Try.prog w = .ok (.int .i64 600) w := fun _ => by kernel_rfl
        go_wp2_with fail
        go_round
        case rel => exact ⟨2, rfl, by simp, by rw [HM.out]; rfl⟩
        case measure => simp [intOf]
      · have HM := Lib.hid (show k = kz S 2 by rw [HK.out, kz, if_neg (show ¬ [200, 600, 1200, 2400].getD 1 0 ≤ S by simp; omega)]; simp)
        have i0 : ∀ w : World, (Instr.index 59 (.agg #[.int .i64 200, .int .i64 600, .int .i64 1200, .int .i64 2400]) (.int .i64 1)).run Try.prog w = .ok (.int .i64 600) w := fun _ => by kernel_rfl
        go_wp2_with fail
        go_round
        case rel => exact ⟨2, rfl, by simp, by rw [HM.out]; rfl⟩
        case measure => simp [intOf]
    · by_cases hm : (1200 : Int) ≤ (S : Int)
      · have HM := Lib.hid (show k + 1 = kz S 3 by rw [HK.out, kz, if_pos (show [200, 600, 1200, 2400].getD 2 0 ≤ S by simp; omega)]; rfl)
        have i0 : ∀ w : World, (Instr.index 59 (.agg #[.int .i64 200, .int .i64 600, .int .i64 1200, .int .i64 2400]) (.int .i64 2)).run Try.prog w = .ok (.int .i64 1200) w := fun _ => by kernel_rfl
        go_wp2_with fail
        go_round
        case rel => exact ⟨3, rfl, by simp, by rw [HM.out]; rfl⟩
        case measure => simp [intOf]
      · have HM := Lib.hid (show k = kz S 3 by rw [HK.out, kz, if_neg (show ¬ [200, 600, 1200, 2400].getD 2 0 ≤ S by simp; omega)]; simp)
        have i0 : ∀ w : World, (Instr.index 59 (.agg #[.int .i64 200, .int .i64 600, .int .i64 1200, .int .i64 2400]) (.int .i64 2)).run Try.prog w = .ok (.int .i64 1200) w := fun _ => by kernel_rfl
        go_wp2_with fail
        go_round
        case rel => exact ⟨3, rfl, by simp, by rw [HM.out]; rfl⟩
        case measure => simp [intOf]
    · by_cases hm : (2400 : Int) ≤ (S : Int)
      · have HM := Lib.hid (show k + 1 = kz S 4 by rw [HK.out, kz, if_pos (show [200, 600, 1200, 2400].getD 3 0 ≤ S by simp; omega)]; rfl)
        have i0 : ∀ w : World, (Instr.index 59 (.agg #[.int .i64 200, .int .i64 600, .int .i64 1200, .int .i64 2400]) (.int .i64 3)).run Try.prog w = .ok (.int .i64 2400) w := fun _ => by kernel_rfl
        go_wp2_with fail
        go_round
        case rel => exact ⟨4, rfl, by simp, by rw [HM.out]; rfl⟩
        case measure => simp [intOf]
      · have HM := Lib.hid (show k = kz S 4 by rw [HK.out, kz, if_neg (show ¬ [200, 600, 1200, 2400].getD 3 0 ≤ S by simp; omega)]; simp)
        have i0 : ∀ w : World, (Instr.index 59 (.agg #[.int .i64 200, .int .i64 600, .int .i64 1200, .int .i64 2400]) (.int .i64 3)).run Try.prog w = .ok (.int .i64 2400) w := fun _ => by kernel_rfl
        go_wp2_with fail
        go_round
        case rel => exact ⟨4, rfl, by simp, by rw [HM.out]; rfl⟩
        case measure => simp [intOf]
    · have HKK := Lib.hid (show k = (numK S : Int) by rw [HK.out, ← numK_z]; rfl)
      obtain ⟨K, hKe⟩ : ∃ K : Nat, K = numK S := ⟨_, rfl⟩
      obtain rfl : k = (K : Int) := by rw [HKK.out, hKe]
      have HKN := Lib.hid hKe
      have HW := Lib.hid (show IntKind.i64.wrap ((S : Int) + 50) = (S : Int) + 50 ∧ IntKind.i64.wrap ((S : Int) + 50 - 1) = (S : Int) + 50 - 1 ∧ ((S : Int) + 50 - 1) / 50 = (G : Int) ∧ ((S : Int) + 50 - 1).tdiv 50 = (G : Int) ∧ IntKind.i64.wrap (G : Int) = (G : Int) from by
        have h := H.out
        have hg : G = (S + 49) / 50 := h.2.1
        refine ⟨IntWalk.i64_in _ (by omega), IntWalk.i64_in _ (by omega), by omega, by rw [Int.tdiv_eq_ediv_of_nonneg (by omega)]; omega, IntWalk.i64_in _ (by omega)⟩)
      clear HKK hKe hk2 hk8 HK
      go_wp2_with fail
      have hst : Stab (Phi [(3, .pointer (some ⟨A3, 0, none⟩)), (2, .pointer (some ⟨A2, 0, none⟩)), (44, .int .i64 n), (46, .int .i64 n), (49, .slice sa S sc), (50, .int .i64 S), (51, .int .i64 ((S : Int) + 50)), (52, .int .i64 ((S : Int) + 50 - 1)), (53, .int .i64 G)] [(45, fun v w => ∃ a c, v = .slice a n c ∧ ViewL w v (u8s (flatL n))), (47, fun v w => ∃ a c, v = .slice a n c ∧ ViewL w v (u8s (flatL n))), (48, fun v w => (∃ q, v = .slice (some ⟨q, 0, none⟩) 2 2) ∧ RowsV w v [flatL n, flatL n]), (54, fun v w => (∃ q, v = .slice (some ⟨q, 0, none⟩) G G) ∧ ViewL w v (intsL (List.replicate G 0))), (55, fun v w => ∃ a b, v = .agg #[a, b] ∧ (fun v w => (∃ q, v = .slice (some ⟨q, 0, none⟩) 2 2) ∧ RowsV w v [flatL n, flatL n]) a w ∧ (fun v w => (∃ q, v = .slice (some ⟨q, 0, none⟩) G G) ∧ ViewL w v (intsL (List.replicate G 0))) b w), (10, fun v w => ∃ B, v = .pointer (some ⟨B, 0, none⟩) ∧ Box2 w B (.slice none 0 0) (.slice none 0 0) ∧ W2.heap.size ≤ B)]) := Phi.stable (by
          intro x hx v w1 w2 he hp
          simp only [List.mem_cons, List.not_mem_nil, or_false] at hx
          rcases hx with rfl | rfl | rfl | rfl | rfl | rfl
          · exact by obtain ⟨a, c, h1, h2⟩ := hp; exact ⟨a, c, h1, h2.ext he⟩
          · exact by obtain ⟨a, c, h1, h2⟩ := hp; exact ⟨a, c, h1, h2.ext he⟩
          · exact ⟨hp.1, hp.2.ext he⟩
          · exact ⟨hp.1, hp.2.ext he⟩
          · exact by obtain ⟨a, b, h1, h2, h3⟩ := hp; exact ⟨a, b, h1, ⟨h2.1, h2.2.ext he⟩, ⟨h3.1, h3.2.ext he⟩⟩
          · exact by obtain ⟨B, h1, h2, h3⟩ := hp; exact ⟨B, h1, he.keep h2 (fun f => f), h3⟩)
      refine wp_region_last 71 [3, 2] [44, 45, 46, 47, 48, 49, 50, 51, 52, 53, 54, 55, 10] 13 (by kernel_rfl) _ hst (by kernel_rfl) rfl rfl (fun _ => ⟨rfl, rfl, trivial⟩) ⟨fun _ => ?_, fun _ => ?_, fun _ => ?_, fun _ => ?_, fun _ => ?_, fun _ => ?_, fun _ => ?_, fun _ => ?_, fun _ => ?_, fun _ => ?_, fun _ => ?_, fun _ => ?_, fun _ => ?_, fun h => absurd rfl h, trivial⟩ ?fin
      · refine Obl.some (fun ev w1 hI hc hf hg hev => ?_)
        have h0 : ev (.tmp 3) = .pointer (some ⟨A3, 0, none⟩) := hev.1
        clear hev
        have hI : Ext W2 w1 := hI
        have k := Boxed.cell (hI.keep HB.out.2.2 (fun f => f))
        exact ⟨rfl, .int .i64 n, by go_simp, fun d hd => by cases hd; rfl⟩
      · refine Obl.call 30 #[.int .i64 n] (fun ev w1 hI hc hf hg hev => ?_)
        have h0 : ev (.tmp 44) = .int .i64 n := hev.1
        refine ⟨rfl, by (clear hev; go_simp), ?_⟩
        have hI : Ext W2 w1 := hI
        refine (ref_flat n w1 H.out.2.2.2.2.1 H.out.2.2.2.2.2.1).mono ?_
        rintro e w2 ⟨v, rfl, og, ho, _, hx⟩
        obtain ⟨a, c, e⟩ := ho.shape
        rw [flatL, List.length_replicate] at e
        exact ⟨_, rfl, hx, fun d hd => by cases hd; exact ⟨a, c, e, ho.viewL⟩⟩
      · refine Obl.some (fun ev w1 hI hc hf hg hev => ?_)
        have h0 : ev (.tmp 3) = .pointer (some ⟨A3, 0, none⟩) := hev.1
        clear hev
        have hI : Ext W2 w1 := hI
        have k := Boxed.cell (hI.keep HB.out.2.2 (fun f => f))
        exact ⟨rfl, .int .i64 n, by go_simp, fun d hd => by cases hd; rfl⟩
      · refine Obl.call 30 #[.int .i64 n] (fun ev w1 hI hc hf hg hev => ?_)
        have h0 : ev (.tmp 46) = .int .i64 n := hev.1
        refine ⟨rfl, by (clear hev; go_simp), ?_⟩
        have hI : Ext W2 w1 := hI
        refine (ref_flat n w1 H.out.2.2.2.2.1 H.out.2.2.2.2.2.1).mono ?_
        rintro e w2 ⟨v, rfl, og, ho, _, hx⟩
        obtain ⟨a, c, e⟩ := ho.shape
        rw [flatL, List.length_replicate] at e
        exact ⟨_, rfl, hx, fun d hd => by cases hd; exact ⟨a, c, e, ho.viewL⟩⟩
      · refine obl_mem (fun ev w1 hI hc hf hg hev => ?_)
        have h0 : (fun v w => ∃ a c, v = .slice a n c ∧ ViewL w v (u8s (flatL n))) (ev (.tmp 45)) w1 := hev.1; have h1 : (fun v w => ∃ a c, v = .slice a n c ∧ ViewL w v (u8s (flatL n))) (ev (.tmp 47)) w1 := hev.2.1
        clear hev
        obtain ⟨a1, c1, e45, v45⟩ := h0
        obtain ⟨a2, c2, e47, v47⟩ := h1
        rw [e45] at v45
        rw [e47] at v47
        refine ⟨rfl, .slice (some ⟨w1.heap.size, 0, none⟩) 2 2, w1.alloc (.cells #[.slice a1 n c1, .slice a2 n c2] 24), by go_simp, (Ext.refl w1).alloc _, fun d hd => ?_⟩
        cases hd
        exact ⟨⟨_, rfl⟩, RowsV.two (heap_alloc_new w1 _) (v45.ext ((Ext.refl w1).alloc _)) (v47.ext ((Ext.refl w1).alloc _))⟩
      · refine Obl.some (fun ev w1 hI hc hf hg hev => ?_)
        have h0 : ev (.tmp 2) = .pointer (some ⟨A2, 0, none⟩) := hev.1
        clear hev
        have hI : Ext W2 w1 := hI
        have k := Boxed.cell (hI.keep HB.out.2.1 (fun f => f))
        exact ⟨rfl, .slice sa S sc, by go_simp, fun d hd => by cases hd; rfl⟩
      · refine Obl.val (.int .i64 S) (fun ev w1 hc hf hg hev => ?_) (fun d hd w1 => by cases hd; rfl)
        have h0 : ev (.tmp 49) = .slice sa S sc := hev.1
        exact ⟨rfl, by (clear hev; go_simp)⟩
      · refine Obl.some (fun ev w1 hI hc hf hg hev => ?_)
        have h0 : ev (.tmp 50) = .int .i64 S := hev.1
        clear hev
        have k := HW.out.1
        exact ⟨rfl, .int .i64 ((S : Int) + 50), by go_simp, fun d hd => by cases hd; rfl⟩
      · refine Obl.some (fun ev w1 hI hc hf hg hev => ?_)
        have h0 : ev (.tmp 51) = .int .i64 ((S : Int) + 50) := hev.1
        clear hev
        have k := HW.out.2.1
        exact ⟨rfl, .int .i64 ((S : Int) + 50 - 1), by go_simp, fun d hd => by cases hd; rfl⟩
      · refine Obl.some (fun ev w1 hI hc hf hg hev => ?_)
        have h0 : ev (.tmp 52) = .int .i64 ((S : Int) + 50 - 1) := hev.1
        clear hev
        have k := HW.out.2.2.1
        have k2 := HW.out.2.2.2.1
        have k3 := HW.out.2.2.2.2
        exact ⟨rfl, .int .i64 G, by go_simp, fun d hd => by cases hd; rfl⟩
      · refine obl_mem (fun ev w1 hI hc hf hg hev => ?_)
        have h0 : ev (.tmp 53) = .int .i64 G := hev.1; have h1 : ev (.tmp 53) = .int .i64 G := hev.2.1
        clear hev
        obtain ⟨w2, hrun, og, ho, _, hx⟩ := make_intsR w1 G (by have := H.out; omega)
        refine ⟨rfl, .slice (some ⟨w1.heap.size, 0, none⟩) G G, w2, by go_simp, hx, fun d hd => ?_⟩
        cases hd
        exact ⟨⟨_, rfl⟩, ho.viewL⟩
      · refine Obl.some (fun ev w1 hI hc hf hg hev => ?_)
        have h0 : (fun v w => (∃ q, v = .slice (some ⟨q, 0, none⟩) 2 2) ∧ RowsV w v [flatL n, flatL n]) (ev (.tmp 48)) w1 := hev.1; have h1 : (fun v w => (∃ q, v = .slice (some ⟨q, 0, none⟩) G G) ∧ ViewL w v (intsL (List.replicate G 0))) (ev (.tmp 54)) w1 := hev.2.1
        clear hev
        obtain ⟨⟨q, e48⟩, r48⟩ := h0
        obtain ⟨⟨q2, e54⟩, v54⟩ := h1
        rw [e48] at r48
        rw [e54] at v54
        exact ⟨rfl, .agg #[.slice (some ⟨q, 0, none⟩) 2 2, .slice (some ⟨q2, 0, none⟩) G G], by go_simp, fun d hd => by cases hd; exact ⟨_, _, rfl, ⟨⟨q, rfl⟩, r48⟩, ⟨⟨q2, rfl⟩, v54⟩⟩⟩
      · refine obl_mem (fun ev w1 hI hc hf hg hev => ?_)
        clear hev
        have hI : Ext W2 w1 := hI
        refine ⟨rfl, .pointer (some ⟨w1.heap.size, 0, none⟩), w1.alloc (.cells #[.slice none 0 0, .slice none 0 0] 61), by go_simp, (Ext.refl w1).alloc _, fun d hd => ?_⟩
        cases hd
        exact ⟨_, rfl, heap_alloc_new w1 _, hI.size⟩
      case fin =>
        intro vs w5 o ho he5 hf
        obtain rfl : _ = o := Option.some.inj ho
        clear ho
        have e44 : vs 44 = .int .i64 n := hf 44 (by decide)
        have e46 : vs 46 = .int .i64 n := hf 46 (by decide)
        have e49 : vs 49 = .slice sa S sc := hf 49 (by decide)
        have e50 : vs 50 = .int .i64 S := hf 50 (by decide)
        have e51 : vs 51 = .int .i64 ((S : Int) + 50) := hf 51 (by decide)
        have e52 : vs 52 = .int .i64 ((S : Int) + 50 - 1) := hf 52 (by decide)
        have e53 : vs 53 = .int .i64 G := hf 53 (by decide)
        simp only [List.foldl_cons, List.foldl_nil]
        rw [e44, e46, e49, e50, e51, e52, e53]
        generalize vs 45 = u45
        generalize vs 47 = u47
        generalize vs 48 = u48
        generalize vs 54 = u54
        have s55 : (fun v w => ∃ a b, v = .agg #[a, b] ∧ (fun v w => (∃ q, v = .slice (some ⟨q, 0, none⟩) 2 2) ∧ RowsV w v [flatL n, flatL n]) a w ∧ (fun v w => (∃ q, v = .slice (some ⟨q, 0, none⟩) G G) ∧ ViewL w v (intsL (List.replicate G 0))) b w) (vs 55) w5 := hf 55 (by decide)
        generalize vs 55 = u55 at s55 ⊢
        have s10 : (fun v w => ∃ B, v = .pointer (some ⟨B, 0, none⟩) ∧ Box2 w B (.slice none 0 0) (.slice none 0 0) ∧ W2.heap.size ≤ B) (vs 10) w5 := hf 10 (by decide)
        generalize vs 10 = u10 at s10 ⊢
        simp only [Act.put, List.setIfInBounds_toArray, List.set_cons_succ, List.set_cons_zero]
        clear hf e44 e46 e49 e50 e51 e52 e53
        obtain ⟨B10, e10, hb10, hz10⟩ := s10
        obtain ⟨p48, p54, e55, ⟨⟨q48, e48⟩, hr48⟩, ⟨⟨q54, e54⟩, hv54⟩⟩ := s55
        subst e48
        subst e54
        subst e55
        subst e10
        obtain ⟨d0, d1, g0, g1⟩ := hb10.cells
        have HE5 := Lib.hid he5
        have HB10 := Lib.hid hb10
        have HRV := Lib.hid (And.intro hr48 hv54)
        clear he5 hb10 hr48 hv54
        refine ⟨rfl, (w5.setCell ⟨B10, 0, none⟩ (.slice (some ⟨q48, 0, none⟩) 2 2)).setCell ⟨B10, 1, none⟩ (.slice (some ⟨q54, 0, none⟩) G G), by go_simp, ?_⟩
        clear d0 d1 g0 g1
        obtain ⟨W3, hW3⟩ : ∃ W3, W3 = (w5.setCell ⟨B10, 0, none⟩ (.slice (some ⟨q48, 0, none⟩) 2 2)).setCell ⟨B10, 1, none⟩ (.slice (some ⟨q54, 0, none⟩) G G) := ⟨_, rfl⟩
        have ht : Touch (fun q => q = B10) w5 W3 := by rw [hW3]; exact ((Touch.refl (fun q => q = B10) w5).setCell (Or.inl rfl) _).setCell (Or.inl rfl) _
        have hx5 : Ext W2 w5 := HE5.out
        have hx3 : Ext W2 W3 := hx5.touch ht (fun q hq e => by omega)
        have HB3 := Lib.hid (show Ext w W3 ∧ Boxed W3 A2 23 (.slice sa S sc) ∧ Boxed W3 A3 3 (.int .i64 n) ∧ Box2 W3 B10 (.slice (some ⟨q48, 0, none⟩) 2 2) (.slice (some ⟨q54, 0, none⟩) G G) ∧ RowsV W3 (.slice (some ⟨q48, 0, none⟩) 2 2) [flatL n, flatL n] ∧ ViewL W3 (.slice (some ⟨q54, 0, none⟩) G G) (intsL (List.replicate G 0)) from ⟨HB.out.1.trans hx3, hx3.keep HB.out.2.1 (fun f => f), hx3.keep HB.out.2.2 (fun f => f), by rw [hW3]; exact HB10.out.set2 _ _, HRV.out.1.box (n := n) (by have := H.out; omega) (fun L hL => by
          simp only [List.mem_cons, List.not_mem_nil, or_false, or_self] at hL
          rw [hL, flatL, List.length_replicate]) HB10.out ht, HRV.out.2.boxI HB10.out ht⟩)
        rw [← hW3]
        clear hW3 ht hx5 hx3 HE5 HB10 HRV hz10 c2
        clear HB HW
        go_wp2_with fail
        have hst : Stab (Phi [(2, .pointer (some ⟨A2, 0, none⟩)), (3, .pointer (some ⟨A3, 0, none⟩)), (7, .int .i64 K), (10, .pointer (some ⟨B10, 0, none⟩)), (56, .slice sa S sc), (57, .int .i64 n), (58, .int .i64 K), (60, .slice sa S sc), (61, .int .i64 n), (63, .agg #[.slice (some ⟨q48, 0, none⟩) 2 2, .slice (some ⟨q54, 0, none⟩) G G]), (65, .func (.func 33) #[] #[.pointer (some ⟨A2, 0, none⟩)])] [(59, fun v w => ∃ lv gv, v = .agg #[lv, gv] ∧ RowsV w lv (chLs sy n 0) ∧ ViewL w gv (intsL (chCh sy n 0))), (62, fun v w => ∃ lv gv, v = .agg #[lv, gv] ∧ RowsV w lv (chLs sy n 1) ∧ ViewL w gv (intsL (chCh sy n 1))), (64, fun v w => ∃ q l0 g0 l1 g1, v = .slice (some ⟨q, 0, none⟩) 3 3 ∧ w.heap[q]? = some (.cells #[l0, g0, l1, g1, .slice (some ⟨q48, 0, none⟩) 2 2, .slice (some ⟨q54, 0, none⟩) G G] 61 (0, 0)) ∧ (RowsV w l0 (chLs sy n 0) ∧ ViewL w g0 (intsL (chCh sy n 0))) ∧ (RowsV w l1 (chLs sy n 1) ∧ ViewL w g1 (intsL (chCh sy n 1)))), (66, fun v w => ∃ lv gv, v = .agg #[lv, gv] ∧ RowsV w lv (chLs sy n (chPick sy n)) ∧ ViewL w gv (intsL (chCh sy n (chPick sy n)))), (11, fun v w => ∃ B, v = .pointer (some ⟨B, 0, none⟩) ∧ Box2 w B (.slice none 0 0) (.slice none 0 0) ∧ W3.heap.size ≤ B)]) := Phi.stable (by
            intro x hx v w1 w2 he hp
            simp only [List.mem_cons, List.not_mem_nil, or_false] at hx
            rcases hx with rfl | rfl | rfl | rfl | rfl
            · exact by obtain ⟨a, b, h1, h2, h3⟩ := hp; exact ⟨a, b, h1, h2.ext he, h3.ext he⟩
            · exact by obtain ⟨a, b, h1, h2, h3⟩ := hp; exact ⟨a, b, h1, h2.ext he, h3.ext he⟩
            · exact by obtain ⟨q, l0, g0, l1, g1, h1, h2, h3, h4⟩ := hp; exact ⟨q, l0, g0, l1, g1, h1, he.keep h2 (fun f => f), ⟨h3.1.ext he, h3.2.ext he⟩, ⟨h4.1.ext he, h4.2.ext he⟩⟩
            · exact by obtain ⟨a, b, h1, h2, h3⟩ := hp; exact ⟨a, b, h1, h2.ext he, h3.ext he⟩
            · exact by obtain ⟨B, h1, h2, h3⟩ := hp; exact ⟨B, h1, he.keep h2 (fun f => f), h3⟩)
        refine wp_region_last 71 [2, 3, 7, 10] [56, 57, 58, 59, 60, 61, 62, 63, 64, 65, 66, 11] 12 (by kernel_rfl) _ hst (by kernel_rfl) rfl rfl (fun _ => ⟨rfl, rfl, rfl, rfl, trivial⟩) ⟨fun _ => ?_, fun _ => ?_, fun _ => ?_, fun _ => ?_, fun _ => ?_, fun _ => ?_, fun _ => ?_, fun _ => ?_, fun _ => ?_, fun _ => ?_, fun _ => ?_, fun _ => ?_, fun h => absurd rfl h, trivial⟩ ?fin
        · refine Obl.some (fun ev w1 hI hc hf hg hev => ?_)
          have h0 : ev (.tmp 2) = .pointer (some ⟨A2, 0, none⟩) := hev.1
          clear hev
          have hI : Ext W3 w1 := hI
          have k := Boxed.cell (hI.keep HB3.out.2.1 (fun f => f))
          exact ⟨rfl, .slice sa S sc, by go_simp, fun d hd => by cases hd; rfl⟩
        · refine Obl.some (fun ev w1 hI hc hf hg hev => ?_)
          have h0 : ev (.tmp 3) = .pointer (some ⟨A3, 0, none⟩) := hev.1
          clear hev
          have hI : Ext W3 w1 := hI
          have k := Boxed.cell (hI.keep HB3.out.2.2.1 (fun f => f))
          exact ⟨rfl, .int .i64 n, by go_simp, fun d hd => by cases hd; rfl⟩
        · refine Obl.val (.int .i64 K) (fun ev w1 hc hf hg hev => ?_) (fun d hd w1 => by cases hd; rfl)
          have h0 : ev (.tmp 7) = .int .i64 K := hev.1
          exact ⟨rfl, by (clear hev; go_simp)⟩
        · refine Obl.call 32 #[.slice sa S sc, .int .i64 n, .int .i64 K] (fun ev w1 hI hc hf hg hev => ?_)
          have h0 : ev (.tmp 56) = .slice sa S sc := hev.1; have h1 : ev (.tmp 57) = .int .i64 n := hev.2.1; have h2 : ev (.tmp 58) = .int .i64 K := hev.2.2.1
          refine ⟨rfl, by (clear hev; go_simp), ?_⟩
          have hI : Ext W3 w1 := hI
          refine (ref_refined (.slice sa S sc) sy n K w1 (H.out.2.2.2.2.2.2.2.2.2.1.ext (HB3.out.1.trans hI)) (by have := H.out; omega) (by have := H.out; omega) H.out.2.2.2.2.2.2.1 H.out.2.2.2.2.1 H.out.2.2.2.2.2.1 (by rw [HKN.out]; exact (numK_bd S).1) (by rw [HKN.out]; exact (numK_bd S).2)).mono ?_
          rintro e w2 ⟨lv, gv, rfl, r1, r2, hx⟩
          exact ⟨_, rfl, hx, fun d hd => by cases hd; exact ⟨lv, gv, rfl, by rw [HKN.out, H.out.1] at r1; exact r1, by rw [HKN.out, H.out.1] at r2; exact r2⟩⟩
        · refine Obl.some (fun ev w1 hI hc hf hg hev => ?_)
          have h0 : ev (.tmp 2) = .pointer (some ⟨A2, 0, none⟩) := hev.1
          clear hev
          have hI : Ext W3 w1 := hI
          have k := Boxed.cell (hI.keep HB3.out.2.1 (fun f => f))
          exact ⟨rfl, .slice sa S sc, by go_simp, fun d hd => by cases hd; rfl⟩
        · refine Obl.some (fun ev w1 hI hc hf hg hev => ?_)
          have h0 : ev (.tmp 3) = .pointer (some ⟨A3, 0, none⟩) := hev.1
          clear hev
          have hI : Ext W3 w1 := hI
          have k := Boxed.cell (hI.keep HB3.out.2.2.1 (fun f => f))
          exact ⟨rfl, .int .i64 n, by go_simp, fun d hd => by cases hd; rfl⟩
        · refine Obl.call 32 #[.slice sa S sc, .int .i64 n, .int .i64 2] (fun ev w1 hI hc hf hg hev => ?_)
          have h0 : ev (.tmp 60) = .slice sa S sc := hev.1; have h1 : ev (.tmp 61) = .int .i64 n := hev.2.1
          refine ⟨rfl, by (clear hev; go_simp), ?_⟩
          have hI : Ext W3 w1 := hI
          refine (ref_refined (.slice sa S sc) sy n 2 w1 (H.out.2.2.2.2.2.2.2.2.2.1.ext (HB3.out.1.trans hI)) (by have := H.out; omega) (by have := H.out; omega) H.out.2.2.2.2.2.2.1 H.out.2.2.2.2.1 H.out.2.2.2.2.2.1 (by omega) (by omega)).mono ?_
          rintro e w2 ⟨lv, gv, rfl, r1, r2, hx⟩
          exact ⟨_, rfl, hx, fun d hd => by cases hd; exact ⟨lv, gv, rfl, r1, r2⟩⟩
        · refine Obl.some (fun ev w1 hI hc hf hg hev => ?_)
          have h0 : ev (.tmp 10) = .pointer (some ⟨B10, 0, none⟩) := hev.1
          clear hev
          have hI : Ext W3 w1 := hI
          have hbk : Box2 w1 B10 (.slice (some ⟨q48, 0, none⟩) 2 2) (.slice (some ⟨q54, 0, none⟩) G G) := hI.keep HB3.out.2.2.2.1 (fun f => f)
          have k := hbk.cells.1
          have k2 := hbk.cells.2.1
          clear hbk
          exact ⟨rfl, .agg #[.slice (some ⟨q48, 0, none⟩) 2 2, .slice (some ⟨q54, 0, none⟩) G G], by go_simp, fun d hd => by cases hd; rfl⟩
        · refine obl_mem (fun ev w1 hI hc hf hg hev => ?_)
          have h0 : (fun v w => ∃ lv gv, v = .agg #[lv, gv] ∧ RowsV w lv (chLs sy n 0) ∧ ViewL w gv (intsL (chCh sy n 0))) (ev (.tmp 59)) w1 := hev.1; have h1 : (fun v w => ∃ lv gv, v = .agg #[lv, gv] ∧ RowsV w lv (chLs sy n 1) ∧ ViewL w gv (intsL (chCh sy n 1))) (ev (.tmp 62)) w1 := hev.2.1; have h2 : ev (.tmp 63) = .agg #[.slice (some ⟨q48, 0, none⟩) 2 2, .slice (some ⟨q54, 0, none⟩) G G] := hev.2.2.1
          clear hev
          obtain ⟨l0, g0, e59, r0⟩ := h0
          obtain ⟨l1, g1, e62, r1⟩ := h1
          refine ⟨rfl, .slice (some ⟨w1.heap.size, 0, none⟩) 3 3, w1.alloc (.cells #[l0, g0, l1, g1, .slice (some ⟨q48, 0, none⟩) 2 2, .slice (some ⟨q54, 0, none⟩) G G] 61), by go_simp, (Ext.refl w1).alloc _, fun d hd => ?_⟩
          cases hd
          exact ⟨_, l0, g0, l1, g1, rfl, heap_alloc_new w1 _, ⟨r0.1.ext ((Ext.refl w1).alloc _), r0.2.ext ((Ext.refl w1).alloc _)⟩, ⟨r1.1.ext ((Ext.refl w1).alloc _), r1.2.ext ((Ext.refl w1).alloc _)⟩⟩
        · refine Obl.val (.func (.func 33) #[] #[.pointer (some ⟨A2, 0, none⟩)]) (fun ev w1 hc hf hg hev => ?_) (fun d hd w1 => by cases hd; rfl)
          have h0 : ev (.tmp 2) = .pointer (some ⟨A2, 0, none⟩) := hev.1
          exact ⟨rfl, by (clear hev; go_simp)⟩
        · refine obl_callx (fun ev w1 hI hc hf hg hev => ?_)
          have h0 : (fun v w => ∃ q l0 g0 l1 g1, v = .slice (some ⟨q, 0, none⟩) 3 3 ∧ w.heap[q]? = some (.cells #[l0, g0, l1, g1, .slice (some ⟨q48, 0, none⟩) 2 2, .slice (some ⟨q54, 0, none⟩) G G] 61 (0, 0)) ∧ (RowsV w l0 (chLs sy n 0) ∧ ViewL w g0 (intsL (chCh sy n 0))) ∧ (RowsV w l1 (chLs sy n 1) ∧ ViewL w g1 (intsL (chCh sy n 1)))) (ev (.tmp 64)) w1 := hev.1; have h1 : ev (.tmp 65) = .func (.func 33) #[] #[.pointer (some ⟨A2, 0, none⟩)] := hev.2.1
          have hI : Ext W3 w1 := hI
          obtain ⟨q, l0, g0, l1, g1, e64, hq, ⟨r0, v0⟩, ⟨r1, v1⟩⟩ := h0
          clear hev
          refine ⟨rfl, 31, #[.slice (some ⟨q, 0, none⟩) 3 3, .func (.func 33) #[] #[.pointer (some ⟨A2, 0, none⟩)]], by go_simp, ?_⟩
          have hp : RowsV w1 (.slice (some ⟨q48, 0, none⟩) 2 2) (chLs sy n 2) ∧ ViewL w1 (.slice (some ⟨q54, 0, none⟩) G G) (intsL (chCh sy n 2)) := ⟨HB3.out.2.2.2.2.1.ext hI, by show ViewL w1 _ (intsL (List.replicate (manyG sy.length) 0)); rw [← H.out.1, ← H.out.2.1]; exact HB3.out.2.2.2.2.2.ext hI⟩
          refine (min_three q A2 sy n w1 (.slice sa S sc) l0 g0 l1 g1 (.slice (some ⟨q48, 0, none⟩) 2 2) (.slice (some ⟨q54, 0, none⟩) G G) hq (Boxed.cell (hI.keep HB3.out.2.1 (fun f => f))) (H.out.2.2.2.2.2.2.2.2.2.1.ext (HB3.out.1.trans hI)) ⟨H.out.2.2.2.2.1, H.out.2.2.2.2.2.1⟩ (by have := H.out; omega) ⟨r0, v0⟩ ⟨r1, v1⟩ hp).mono ?_
          rintro e w2 ⟨lv, gv, rfl, r1, r2, hx⟩
          exact ⟨_, rfl, hx, fun d hd => by cases hd; exact ⟨lv, gv, rfl, r1, r2⟩⟩
        · refine obl_mem (fun ev w1 hI hc hf hg hev => ?_)
          clear hev
          have hI : Ext W3 w1 := hI
          refine ⟨rfl, .pointer (some ⟨w1.heap.size, 0, none⟩), w1.alloc (.cells #[.slice none 0 0, .slice none 0 0] 61), by go_simp, (Ext.refl w1).alloc _, fun d hd => ?_⟩
          cases hd
          exact ⟨_, rfl, heap_alloc_new w1 _, hI.size⟩
        case fin =>
          intro vs w5 o ho he5 hf
          obtain rfl : _ = o := Option.some.inj ho
          clear ho
          have e56 : vs 56 = .slice sa S sc := hf 56 (by decide)
          have e57 : vs 57 = .int .i64 n := hf 57 (by decide)
          have e58 : vs 58 = .int .i64 K := hf 58 (by decide)
          have e60 : vs 60 = .slice sa S sc := hf 60 (by decide)
          have e61 : vs 61 = .int .i64 n := hf 61 (by decide)
          have e63 : vs 63 = .agg #[.slice (some ⟨q48, 0, none⟩) 2 2, .slice (some ⟨q54, 0, none⟩) G G] := hf 63 (by decide)
          have e65 : vs 65 = .func (.func 33) #[] #[.pointer (some ⟨A2, 0, none⟩)] := hf 65 (by decide)
          simp only [List.foldl_cons, List.foldl_nil]
          rw [e56, e57, e58, e60, e61, e63, e65]
          generalize vs 59 = u59
          generalize vs 62 = u62
          generalize vs 64 = u64
          have s66 : (fun v w => ∃ lv gv, v = .agg #[lv, gv] ∧ RowsV w lv (chLs sy n (chPick sy n)) ∧ ViewL w gv (intsL (chCh sy n (chPick sy n)))) (vs 66) w5 := hf 66 (by decide)
          generalize vs 66 = u66 at s66 ⊢
          have s11 : (fun v w => ∃ B, v = .pointer (some ⟨B, 0, none⟩) ∧ Box2 w B (.slice none 0 0) (.slice none 0 0) ∧ W3.heap.size ≤ B) (vs 11) w5 := hf 11 (by decide)
          generalize vs 11 = u11 at s11 ⊢
          simp only [Act.put, List.setIfInBounds_toArray, List.set_cons_succ, List.set_cons_zero]
          clear hf e56 e57 e58 e60 e61 e63 e65
          obtain ⟨B11, e11, hb11, hz11⟩ := s11
          obtain ⟨lv, gv, e66, hr66, hv66⟩ := s66
          subst e66
          subst e11
          obtain ⟨la, lc, rfl⟩ := hr66.shape
          obtain ⟨ga, gc, rfl⟩ := hv66.shape
          obtain ⟨d0, d1, g0, g1⟩ := hb11.cells
          have HE6 := Lib.hid (show Ext W3 w5 from he5)
          have HB11 := Lib.hid hb11
          have HRV2 := Lib.hid (And.intro hr66 hv66)
          clear he5 hb11 hr66 hv66
          refine ⟨rfl, (w5.setCell ⟨B11, 0, none⟩ (.slice la (chLs sy n (chPick sy n)).length lc)).setCell ⟨B11, 1, none⟩ (.slice ga (intsL (chCh sy n (chPick sy n))).length gc), by go_simp, ?_⟩
          clear d0 d1 g0 g1
          obtain ⟨W4, hW4⟩ : ∃ W4, W4 = (w5.setCell ⟨B11, 0, none⟩ (.slice la (chLs sy n (chPick sy n)).length lc)).setCell ⟨B11, 1, none⟩ (.slice ga (intsL (chCh sy n (chPick sy n))).length gc) := ⟨_, rfl⟩
          have ht : Touch (fun q => q = B11) w5 W4 := by rw [hW4]; exact ((Touch.refl (fun q => q = B11) w5).setCell (Or.inl rfl) _).setCell (Or.inl rfl) _
          have hx5 : Ext W3 w5 := HE6.out
          have hx4 : Ext W3 W4 := hx5.touch ht (fun q hq e => by omega)
          have hb : Box2 W4 B11 (.slice la (chLs sy n (chPick sy n)).length lc) (.slice ga (intsL (chCh sy n (chPick sy n))).length gc) := by rw [hW4]; exact HB11.out.set2 _ _
          have HR := Lib.hid (show RowsV W4 (.slice la (chLs sy n (chPick sy n)).length lc) (chLs sy n (chPick sy n)) ∧ ViewL W4 (.slice ga (intsL (chCh sy n (chPick sy n))).length gc) (intsL (chCh sy n (chPick sy n))) ∧ Ext w W4 from ⟨HRV2.out.1.box (n := n) (by have := H.out; omega) (chLs_len ⟨H.out.2.2.2.2.1, H.out.2.2.2.2.2.1⟩ _) HB11.out ht, HRV2.out.2.boxI HB11.out ht, HB3.out.1.trans hx4⟩)
          rw [← hW4]
          obtain ⟨m1, hm1⟩ : ∃ m1, m1 = (chLs sy n (chPick sy n)).length := ⟨_, rfl⟩
          obtain ⟨m2, hm2⟩ : ∃ m2, m2 = (intsL (chCh sy n (chPick sy n))).length := ⟨_, rfl⟩
          rw [← hm1, ← hm2] at hb HR
          obtain ⟨d0, d1, _, _⟩ := hb.cells
          clear hW4 ht hx5 hx4 HE6 HB11 HRV2 hz11 hb HB3 hm1 hm2
          go_wp2_with fail
          go_quiet (fail)
          go_wp2_with fail
          go_ret3
          exact ⟨_, _, rfl, HR.out.1.ext ((Ext.refl W4).drewN _), HR.out.2.1.ext ((Ext.refl W4).drewN _), HR.out.2.2.drewN _⟩
end Go.Proofs.Ytaabmlnbadpfgaa

/-! refine: the three choices may be; two flat codes are cheap: plain. -/
namespace Go.Proofs.Ytaabmlnbadpfgaa
open Go.RowKit
set_option linter.unusedVariables false

theorem selFrom_zero : ∀ G, selFrom lst0 (List.replicate G 0) = List.replicate G false
  | 0 => rfl
  | G + 1 => by
    rw [List.replicate_succ, selFrom]
    show false :: selFrom lst0 (List.replicate G 0) = _
    rw [selFrom_zero G, List.replicate_succ]
theorem selBits_zero (G : Nat) : (selBits (List.replicate G 0)).length = 15 + G := by
  rw [selBits, List.length_append, length_bitsOf, selFrom_zero, List.length_replicate]
theorem getD_rep (n k i : Nat) (h : i < n) : (List.replicate n k).getD i 0 = k := by simp [List.getD, h]
theorem lenTo_flat (n k : Nat) : ∀ i, i ≤ n → (lenTo (List.replicate n k) i).length = 5 + i
  | 0, _ => by rw [lenTo, length_bitsOf]
  | i + 1, h => by
    have h1 : (List.replicate n k).getD i 0 = k := getD_rep n k i (by omega)
    have h2 : atK (List.replicate n k) i = k := by
      rw [atK]
      split
      · rename_i e; subst e; exact h1
      · exact getD_rep n k (i - 1) (by omega)
    rw [lenTo, h1, h2, Nat.sub_self, List.length_append, lenTo_flat n k i (by omega)]
    simp [upB, downB]
    omega
theorem lenBits_flat (n k : Nat) : (lenBits (List.replicate n k)).length = 5 + n := by
  rw [lenBits, lenTo_flat _ _ _ (by simp)]; simp
theorem symN_top {Ls : List (List Nat)} {ch sy : List Nat} {m : Nat} (h : ∀ i, oneN Ls ch sy i ≤ m) : ∀ k, symN Ls ch sy k ≤ m * k
  | 0 => by simp [symN]
  | k + 1 => by
    rw [symN_succ, Nat.mul_add]
    have := symN_top h k
    have := h k
    omega
theorem flat_cost (sy : List Nat) (n : Nat) (h0 : 0 < sy.length) : costN [flatL n, flatL n] (List.replicate (manyG sy.length) 0) sy ≤ 25 + 2 * n + 10 * sy.length + 10 * manyG sy.length := by
  have hk := flatK_le n
  have hone : ∀ i, oneN [flatL n, flatL n] (List.replicate (manyG sy.length) 0) sy i ≤ 9 := fun i => by
    rw [oneN]
    have h2 : ∀ L : List Nat, (∀ x ∈ L, x ≤ 9) → ∀ j, L.getD j 0 ≤ 9 := fun L hL j => by
      by_cases hj : j < L.length
      · rw [List.getD, List.getElem?_eq_getElem hj]; exact hL _ (List.getElem_mem hj)
      · rw [List.getD, List.getElem?_eq_none (by omega)]; simp
    refine h2 _ (fun x hx => ?_) _
    generalize (List.replicate (manyG sy.length) 0).getD (i / 50) 0 = c at hx
    match c, hx with
    | 0, hx => simp [flatL] at hx; omega
    | 1, hx => simp [flatL] at hx; omega
    | c + 2, hx => simp at hx
  have h1 := symN_top hone sy.length
  rw [costN_sym, selBits_zero, lensN]
  simp only [List.map_cons, List.map_nil, List.sum_cons, List.sum_nil, flatL, lenBits_flat] at *
  have hg : 1 ≤ manyG sy.length := by unfold manyG; omega
  omega
theorem weightL_rep (k : Nat) (hk : k ≠ 0) : ∀ n, weightL (List.replicate n k) = n * 2 ^ (20 - k)
  | 0 => by simp [weightL]
  | n + 1 => by
    have := weightL_rep k hk n
    rw [List.replicate_succ, weightL, List.map_cons, List.sum_cons, if_neg hk, ← weightL, this, Nat.add_mul, Nat.one_mul, Nat.add_comm]
theorem flat_good {n : Nat} (h258 : n ≤ 258) : GoodC (flatL n) n := by
  have hk := flatK_le n
  refine ⟨by simp [flatL], fun x hx => by simp [flatL] at hx; omega, ?_⟩
  rw [flatL, weightL_rep _ (by omega)]
  have hr := flatK_room (n := n) (by omega)
  calc n * 2 ^ (20 - flatK n) ≤ 2 ^ flatK n * 2 ^ (20 - flatK n) := Nat.mul_le_mul_right _ hr
    _ = 2 ^ (flatK n + (20 - flatK n)) := (Nat.pow_add ..).symm
    _ = 2 ^ 20 := by rw [show flatK n + (20 - flatK n) = 20 by omega]
theorem chLs_many (sy : List Nat) (n : Nat) : ∀ i, 2 ≤ (chLs sy n i).length ∧ (chLs sy n i).length ≤ 6 ∧ ∀ c ∈ chCh sy n i, 0 < sy.length → c < (chLs sy n i).length
  | 0 => by
    have h := numK_bd sy.length
    have e : (chLs sy n 0).length = numK sy.length := by simp [chLs, rndL]
    rw [e]
    exact ⟨h.1, h.2, fun c hc h0 => chN_lt h.1 h0 4 c hc⟩
  | 1 => by
    have e : (chLs sy n 1).length = 2 := by simp [chLs, rndL]
    rw [e]
    exact ⟨by omega, by omega, fun c hc h0 => chN_lt (by omega) h0 4 c hc⟩
  | i + 2 => by
    have e : (chLs sy n (i + 2)).length = 2 := rfl
    rw [e]
    exact ⟨by omega, by omega, fun c hc h0 => by
      have : c = 0 := by
        have h2 : c ∈ List.replicate (manyG sy.length) 0 := hc
        simp at h2; exact h2.2
      omega⟩
theorem chLs_good {sy : List Nat} {n : Nat} (hn : 3 ≤ n ∧ n ≤ 258) : ∀ i, ∀ L ∈ chLs sy n i, GoodC L n
  | 0, L, h => (rndL_good hn L h).2.2
  | 1, L, h => (rndL_good hn L h).2.2
  | i + 2, L, h => by
    have h2 : L ∈ [flatL n, flatL n] := h
    simp only [List.mem_cons, List.not_mem_nil, or_false, or_self] at h2
    rw [h2]; exact flat_good hn.2
theorem headN_of {Ls : List (List Nat)} {n : Nat} (h0 : 0 < Ls.length) (h : ∀ L ∈ Ls, L.length = n) : headN Ls = n := by
  cases Ls with
  | nil => simp at h0
  | cons a l => exact h a (List.mem_cons_self ..)
/-- each of the three may be. -/
theorem ch_may {sy : List Nat} {n : Nat} (hn : 3 ≤ n ∧ n ≤ 258) (h0 : 0 < sy.length) (h9 : sy.length ≤ 900050) (hlt : ∀ s ∈ sy, s < n) (i : Nat) : CostC (chLs sy n i) (castZ (chCh sy n i)) (castZ sy) := by
  obtain ⟨k2, k6, hc⟩ := chLs_many sy n i
  have hh : headN (chLs sy n i) = n := headN_of (by omega) (chLs_len hn i)
  have hm : manyG sy.length ≤ 18001 ∧ 0 < manyG sy.length := by unfold manyG; omega
  refine ⟨k2, k6, ?_, by rw [length_castZ, length_castZ, chCh_len], ?_, fun L hL => by rw [hh]; exact chLs_good hn i L hL⟩
  · rw [hh]
    refine ⟨by omega, by omega, by rw [length_castZ]; exact h0, by rw [length_castZ]; exact h9, fun x hx => ?_⟩
    obtain ⟨s, hs, rfl⟩ := List.mem_map.1 hx
    have := hlt s hs
    omega
  · refine ⟨by omega, by omega, by rw [length_castZ, chCh_len]; omega, by rw [length_castZ, chCh_len]; omega, fun x hx => ?_⟩
    obtain ⟨c, hcm, rfl⟩ := List.mem_map.1 hx
    have := hc c hcm h0
    omega
theorem toN_castZ (l : List Nat) : toN (castZ l) = l := by
  rw [toN, castZ, List.map_map]
  conv => rhs; rw [← List.map_id l]
  exact List.map_congr_left fun x _ => by simp
/-- what is chosen costs: never more than two flat codes, and less than is said. -/
theorem pick_cost {sy : List Nat} {n : Nat} (hn : 3 ≤ n ∧ n ≤ 258) (h0 : 0 < sy.length) (h9 : sy.length ≤ 900050) (hlt : ∀ s ∈ sy, s < n) :
    0 ≤ chCo sy n (chPick sy n) ∧ chCo sy n (chPick sy n) ≤ chCo sy n 2 ∧ chCo sy n 2 ≤ 25 + 2 * n + 10 * sy.length + 10 * manyG sy.length := by
  refine ⟨?_, minTo_min (chCo sy n) 2 2 (Nat.le_refl _), ?_⟩
  · rw [chCo, costZ_ok (ch_may hn h0 h9 hlt _)]; omega
  · rw [chCo, costZ_ok (ch_may hn h0 h9 hlt _), toN_castZ, toN_castZ]
    have := flat_cost sy n h0
    have e1 : chLs sy n 2 = [flatL n, flatL n] := rfl
    have e2 : chCh sy n 2 = List.replicate (manyG sy.length) 0 := rfl
    rw [e1, e2]
    omega
end Go.Proofs.Ytaabmlnbadpfgaa

/-! refine's laws: 'counts': its walk. -/
namespace Go.Proofs.Ytaabmlnbadpfgaa
open Go.RowKit Go.Shelf
set_option linter.unusedVariables false

/-- a row that was just laid. -/
theorem lit_view (w : World) (xs : List Value) (e : TypeId) (m : Nat) (h : xs.length = m) : ViewL (w.alloc (.cells xs.toArray e)) (.slice (some ⟨w.heap.size, 0, none⟩) m m) xs := by
  refine ⟨_, m, by rw [h], by omega, fun e => (by cases e), fun _ => ⟨w.heap.size, 0, rfl, fun j u hu => ?_⟩⟩
  have hh := heap_alloc_new w (.cells xs.toArray e)
  rw [Nat.zero_add, World.cell?, hh]
  simpa using hu
theorem nil_view (w : World) : ViewL w (.slice none 0 0) [] := ⟨none, 0, rfl, Nat.le_refl _, fun _ => rfl, fun h => by simp at h⟩
theorem nil_rows (w : World) : RowsV w (.slice none 0 0) [] := ⟨[], nil_view w, rfl, fun k u L h => by simp at h⟩
theorem costC_two : CostC [[2, 2, 2], [2, 2, 2]] [0] [0, 1, 2] where
  k2 := by decide
  k6 := by decide
  sym := ⟨by decide, by decide, by decide, by decide, by decide⟩
  many := by decide
  sel := ⟨by decide, by decide, by decide, by decide, by decide⟩
  good := by decide +kernel
theorem cost_38 : costZ [[2, 2, 2], [2, 2, 2]] [0] [0, 1, 2] = 38 := by
  rw [costZ_ok costC_two]
  decide +kernel
theorem cost_bad_sel : costZ [[2, 2, 2], [2, 2, 2]] [2] [0, 1, 2] = -1 := costZ_no fun h => by
  have := h.sel.2.2.2.2 2 (by simp)
  simp at this
/-- Cost of rows that were just laid. -/
theorem cost_lit (w : World) (u1 u2 : Value) (L : List Nat) (c : Int) (xs : List Int) (m : Nat) (h1 : ViewL w u1 (u8s L)) (h2 : ViewL w u2 (u8s L)) (hL : L.length ≤ 300) (hm : xs.length = m) :
    Calls Try.prog 7 #[.slice (some ⟨w.heap.size, 0, none⟩) 2 2, .slice (some ⟨w.heap.size + 1, 0, none⟩) 1 1, .slice (some ⟨w.heap.size + 1 + 1, 0, none⟩) m m] (((w.alloc (.cells #[u1, u2] 24)).alloc (.cells #[.int .i64 c] 3)).alloc (.cells (ints xs).toArray 3)) fun e w' => e = .returned (.int .i64 (costZ [L, L] [c] xs)) ∧ Ext w w' := by
  have a1 := (Ext.refl w).alloc (.cells #[u1, u2] 24)
  have a2 := (Ext.refl (w.alloc (.cells #[u1, u2] 24))).alloc (.cells #[.int .i64 c] 3)
  have a3 := (Ext.refl ((w.alloc (.cells #[u1, u2] 24)).alloc (.cells #[.int .i64 c] 3))).alloc (.cells (ints xs).toArray 3)
  have r := ((RowsV.two (heap_alloc_new w (.cells #[u1, u2] 24)) (h1.ext a1) (h2.ext a1)).ext a2).ext a3
  have v := (lit_view (w.alloc (.cells #[u1, u2] 24)) (ints [c]) 3 1 rfl).ext a3
  have s := lit_view ((w.alloc (.cells #[u1, u2] 24)).alloc (.cells #[.int .i64 c] 3)) (ints xs) 3 m (by rw [length_ints]; exact hm)
  simp only [World.size_alloc] at v s
  refine (cost_all _ _ _ [L, L] [c] xs _ r v s (fun X hX => ?_) (by simp)).mono fun e w' ⟨h, k⟩ => ⟨h, ((a1.trans a2).trans a3).trans k⟩
  simp only [List.mem_cons, List.not_mem_nil, or_false, or_self] at hX
  rw [hX]; omega
set_option maxRecDepth 100000 in
set_option maxHeartbeats 4000000 in
theorem ref_counts (w : World) : Calls Try.prog 10 #[] w fun e w' => e = .returned (.bool true) ∧ Ext w w' := by
  go_enter Try.func10, Try.ntmps10
  have HT := Lib.hid (lit_view w (u8s [2, 2, 2]) 5 3 rfl)
  obtain ⟨w1, hw1⟩ : ∃ w1, w1 = w.alloc (.cells (u8s [2, 2, 2]).toArray 5) := ⟨_, rfl⟩
  have X1 := Lib.hid (show Ext w w1 by rw [hw1]; exact (Ext.refl w).alloc _)
  rw [← hw1] at HT
  obtain ⟨B, hB⟩ : ∃ B, B = w.heap.size := ⟨_, rfl⟩
  rw [← hB] at HT
  have HW1 := Lib.hid (And.intro hw1 hB)
  clear hw1 hB
  go_wp2_with fail
  rw [← HW1.out.2]
  rw [show w.alloc (.cells #[.int .u8 2, .int .u8 2, .int .u8 2] 5) = w1 from HW1.out.1.symm]
  refine (choose_no (.slice none 0 0) [] 3 _ (nil_view _) (by simp) (fun h => by have := h.2.2.1; simp at this)).mono ?_
  rintro e w2 ⟨rfl, hx⟩
  have X2 := Lib.hid (X1.out.trans hx)
  have HT2 := Lib.hid (HT.out.ext hx)
  clear hx X1 HT
  go_wp2_with fail
  refine (choose_yes _ [0, 1, 2] 3 _ (lit_view w2 (intsL [0, 1, 2]) 3 3 rfl) (by simp) (by simp) (by simp) (by omega) (by omega)).mono ?_
  rintro e w3 ⟨lv, gv, rfl, r1, r2, hx⟩
  obtain ⟨la, lc, rfl⟩ := r1.shape
  obtain ⟨ga, gc, rfl⟩ := r2.shape
  rw [length_intsL, chCh_len] at *
  have hm := chLs_many [0, 1, 2] 3 (chPick [0, 1, 2] 3)
  obtain ⟨m, hme⟩ : ∃ m, m = (chLs [0, 1, 2] 3 (chPick [0, 1, 2] 3)).length := ⟨_, rfl⟩
  rw [← hme] at hm ⊢
  have hm2 : (2 : Int) ≤ (m : Int) := by have := hm.1; omega
  have hx23 : Ext w2 w3 := ((Ext.refl w2).alloc _).trans hx
  have X3 := Lib.hid (X2.out.trans hx23)
  have HT3 := Lib.hid (HT2.out.ext hx23)
  rw [show manyG [0, 1, 2].length = 1 from rfl]
  clear hx hx23 X2 HT2 hm hme r1 r2
  go_wp2_with fail
  refine (cost_lit w3 _ _ [2, 2, 2] 0 [0, 1, 2] 3 HT3.out HT3.out (by simp) rfl).mono ?_
  rintro e w4 ⟨rfl, hx⟩
  rw [cost_38]
  have X4 := Lib.hid (X3.out.trans hx)
  have HT4 := Lib.hid (HT3.out.ext hx)
  clear hx X3 HT3
  go_wp2_with fail
  refine (cost_lit w4 _ _ [2, 2, 2] 2 [0, 1, 2] 3 HT4.out HT4.out (by simp) rfl).mono ?_
  rintro e w5 ⟨rfl, hx⟩
  rw [cost_bad_sel]
  have X5 := Lib.hid (X4.out.trans hx)
  clear hx X4 HT4
  go_wp2_with fail
  go_ret
  exact ⟨rfl, X5.out⟩
end Go.Proofs.Ytaabmlnbadpfgaa
