/- pick.Put: its walk. -/
import Derived.Test.YteabjmebnbaonaaPickGroups
import Derived.Test.YteabjmebnbaonaaMsbPut
import Derived.Test.YteabjmebnbaonaaMsbWr
import Derived.Test.YteabjmebnbaonaaClone
namespace Go.Proofs.Yteabjmebnbaonaa
open Go.RowKit Go.Shelf
set_option linter.unusedVariables false
attribute [local go_sem] Oper.semAt_some

/-- the first 16 bits, as a number; and the bits behind. -/
def firstOf (l : List (Nat × Nat)) : Nat := l.foldl (fun f x => if x.2 = 0 then f else f ||| 2 ^ (15 - x.1)) 0
def restOf (l : List (Nat × Nat)) : List Bool := l.flatMap fun x => if x.2 = 0 then [] else bitsOf true x.2 16
theorem firstOf_snoc (l : List (Nat × Nat)) (x : Nat × Nat) : firstOf (l ++ [x]) = if x.2 = 0 then firstOf l else firstOf l ||| 2 ^ (15 - x.1) := by simp [firstOf, List.foldl_append]
theorem restOf_snoc (l : List (Nat × Nat)) (x : Nat × Nat) : restOf (l ++ [x]) = restOf l ++ if x.2 = 0 then [] else bitsOf true x.2 16 := by simp [restOf]
theorem firstOf_lt (l : List Grp) : firstOf (l.map (·.1)) < 65536 := by
  have : ∀ (l : List Grp) (a : Nat), a < 2 ^ 16 → (l.map (·.1)).foldl (fun f x => if x.2 = 0 then f else f ||| 2 ^ (15 - x.1)) a < 2 ^ 16 := by
    intro l
    induction l with
    | nil => intro a h; exact h
    | cons x l ih =>
      intro a h
      simp only [List.map_cons, List.foldl_cons]
      apply ih
      split
      · exact h
      · exact Nat.or_lt_two_pow h (Nat.pow_lt_pow_right (by decide) (by omega))
  exact this l 0 (by decide)
theorem restOf_len : ∀ l : List (Nat × Nat), (restOf l).length ≤ 16 * l.length
  | [] => Nat.le_refl _
  | x :: l => by
    have := restOf_len l
    simp only [restOf, List.flatMap_cons, List.length_append, List.length_cons] at this ⊢
    split <;> simp only [List.length_nil, length_bitsOf] <;> omega
/-- what Put lays. -/
def putOf (us : List Nat) : List Bool := bitsOf true (firstOf (grpsL us)) 16 ++ restOf (grpsL us)
theorem length_grpsL (us : List Nat) : (grpsL us).length = 16 := by simp [grpsL]
theorem putOf_len (us : List Nat) : (putOf us).length ≤ 272 := by
  have h := restOf_len (grpsL us)
  rw [length_grpsL] at h
  rw [putOf, List.length_append, length_bitsOf]
  omega
theorem rises_iff (bs : List Nat) : RisesP bs ↔ 0 < bs.length ∧ SortedP bs ∧ ApartP bs := by
  constructor
  · rintro ⟨h0, h⟩
    exact ⟨h0, fun i x y hx hy => Nat.le_of_lt (h i x y hx hy), fun i x hx hy => Nat.lt_irrefl _ (h i x x hx hy)⟩
  · rintro ⟨h0, h1, h2⟩
    exact ⟨h0, fun i x y hx hy => Nat.lt_of_le_of_ne (h1 i x y hx hy) (fun e => h2 i x hx (by rw [e]; exact hy))⟩
theorem pick_put_nil (v : Value) (w : World) : Calls Try.prog 17 #[.pointer none, v] w fun e w' => e = .returned (.int .i64 8) ∧ Ext w w' := by
  refine (callsIn_wide (n := 9)).1 ?_
  refine callsIn_of_wp_marks Try.func17 rfl trivial ?_ rfl
  simp only [Try.ntmps17, List.size_toArray, List.length_cons, List.length_nil, Nat.reduceAdd, Nat.reduceSub, Array.replicate_succ, Array.replicate_zero, List.push_toArray, List.append_toArray, List.nil_append, List.cons_append]
  gi_wp2_with fail
  exact ⟨_, results_tmp rfl _ _ _, rfl, (Ext.refl w).alloc _⟩
theorem ViewL.view {w : World} {v : Value} {bs : List Nat} (h : ViewL w v (u8s bs)) (h0 : 0 < bs.length) : View w v bs := by
  obtain ⟨ao, cap, rfl, _, _, h3⟩ := h
  obtain ⟨b, o, rfl, hc⟩ := h3 (by rwa [length_u8s])
  refine Or.inr ⟨_, cap, by rw [length_u8s], fun j u hu => ?_⟩
  have e : (⟨b, o, none⟩ : Addr).add j = ⟨b, o + j, none⟩ := by unfold Addr.add; split <;> simp_all
  rw [e]; exact hc j u hu
theorem Touch.kpV {S : Nat → Prop} {W W' : World} {Bn : Nat} {sv : Value} {bs : List Nat} (h : Touch S W W') (hb : ¬ S Bn) (hv : ∀ b o n cap, sv = .slice (some ⟨b, o, none⟩) n cap → ¬ S b) : KpV Bn sv bs W W' :=
  fun hg => ⟨h.keep hg.1 hb, hg.2.keep h hv⟩
theorem Touch.keepsFrom {S : Nat → Prop} {W W' : World} (h : Touch S W W') (hc : ∀ k o, S k → W.heap[k]? = some o → o.isCells = true) (B0 : Nat) : KeepsFrom B0 W W' :=
  ⟨h.size, fun k o _ hk ho => h.keep hk (fun hs => by have := hc k o hs hk; rw [ho] at this; cases this)⟩
theorem IsW.cells {T : Nat} {hi : Bool} {w : World} {B : Nat} {og : Option Nat} {l : List Bool} (h : IsW T hi w B og l) : ∀ k o, FP B og k → w.heap[k]? = some o → o.isCells = true := by
  obtain ⟨v, h1, h2, h3⟩ := h
  rintro k o (rfl | e) hk
  · rw [h1] at hk; cases hk; rfl
  · rcases h2.form with ⟨h, _⟩ | ⟨g, cap, cur, h4, _, h5, _⟩
    · rw [h] at e; cases e
    · rw [h4] at e; cases e
      rw [h5] at hk; cases hk; rfl
theorem ownFrom_touch {β : Type} {S : Nat → Prop} {w₀ : World} {B : Nat} (hB : w₀.heap.size ≤ B) : OwnFrom B (fun (_ : β) W => Touch S w₀ W) :=
  fun _ _ _ _ hs hg hr => hs.grown hg (fun k e => Or.inr (Nat.le_trans hB (hr k e).1))
theorem IsW.grown {T : Nat} {hi : Bool} {w w' : World} {B : Nat} {og : Option Nat} {l : List Bool} {row : Option Nat} (h : IsW T hi w B og l) (hg : w.grownBy w' row) (hr : ∀ r, row = some r → ∃ o : Obj, w.heap[r]? = some o ∧ o.isCells = false) : IsW T hi w' B og l := by
  have hT : Touch (fun k => row = some k) w w' := (Touch.refl _ w).grown hg (fun k e => Or.inl e)
  have hn : ∀ k, FP B og k → ¬ row = some k := fun k hk e => by
    obtain ⟨o, ho, hc⟩ := hr k e
    have := h.cells k o hk ho
    rw [hc] at this; cases this
  exact h.keep hT (hn B (Or.inl rfl)) (fun g e => hn g (Or.inr e))
theorem ownFrom_wpost {T : Nat} {hi : Bool} {w₀ : World} {B : Nat} {og : Option Nat} {β : Type} (f : β → List Bool) {B' : Nat} (hB : w₀.heap.size ≤ B') : OwnFrom B' (fun (s : β) W => WPost T hi w₀ B og (f s) W) :=
  fun s X Y row ⟨og', h1, h2, h3⟩ hg hr => ⟨og', h1.grown hg (fun r e => (hr r e).2), h2, h3.grown hg (fun k e => Or.inr (Nat.le_trans hB (hr k e).1))⟩
theorem Owns.some {w : World} {e : TypeId} {v : Value} {og : Option Nat} {n : Nat} {xs : List Value} (h : Owns w e 1 v og n xs) (h0 : 0 < n) : ∃ g cap, og = .some g ∧ v = .slice (.some ⟨g, 0, none⟩) n cap := by
  rcases h.form with ⟨_, _, h1, _⟩ | ⟨g, cap, _, h1, h2, _⟩
  · omega
  · exact ⟨g, cap, h1, h2⟩

set_option maxRecDepth 100000 in
set_option maxHeartbeats 4000000 in
theorem pick_put (B : Nat) (og : Option Nat) (l : List Bool) (v : Value) (bs : List Nat) (w : World) (hw : IsW 30 true w B og l) (hv : ViewL w v (u8s bs)) (hd : ∀ b o n cap, v = .slice (some ⟨b, o, none⟩) n cap → ¬ FP B og b) (hl : l.length ≤ 2 ^ 20) (hbl : bs.length ≤ 2 ^ 40) :
    Calls Try.prog 17 #[.pointer (some ⟨B, 0, none⟩), v] w fun e w' => (e = .returned (.int .i64 0) ∧ RisesP bs ∧ WPost 30 true w B og (l ++ putOf bs) w') ∨ (e = .returned (.int .i64 5) ∧ ¬ RisesP bs ∧ Ext w w') := by
  obtain ⟨ao, cap, rfl⟩ := hv.shape
  rw [length_u8s] at *
  have HW := Lib.hid hw
  have HV := Lib.hid hv
  have HD := Lib.hid hd
  have HVB := Lib.hid (show ∀ b o n c, Value.slice ao bs.length cap = .slice (some ⟨b, o, none⟩) n c → 0 < bs.length → b < w.heap.size from fun b o n c e h0 => by
    obtain ⟨ao', cap', e', _, _, h3⟩ := hv
    obtain ⟨b', o', rfl, hc⟩ := h3 (by rwa [length_u8s])
    rw [e] at e'
    cases e'
    exact World.block_lt_of_cell? _ _ (hc 0 _ (by rw [getElem?_u8s _ _ h0])))
  clear hw hv hd
  refine (callsIn_wide (n := 9)).1 ?_
  refine callsIn_of_wp_marks Try.func17 rfl trivial ?_ rfl
  simp only [Try.ntmps17, List.size_toArray, List.length_cons, List.length_nil, Nat.reduceAdd, Nat.reduceSub, Array.replicate_succ, Array.replicate_zero, List.push_toArray, List.append_toArray, List.nil_append, List.cons_append]
  by_cases h0 : 0 < bs.length
  · have h0i : ¬ (bs.length : Int) = 0 := by omega
    have h0d : ((bs.length : Int) == 0) = false := by rw [beq_eq_false_iff_ne]; omega
    gi_wp2_with fail
    refine ⟨trivial, (callsIn_wide.2 (pick_sorted _ bs _ (HV.out.ext ((Ext.refl w).alloc _)) hbl)).mono ?_⟩
    rintro e w1 ⟨(⟨rfl, hs⟩ | ⟨rfl, hs⟩), hx1⟩
    · have HX1 := Lib.hid (((Ext.refl w).alloc (.cells #[.pointer (some ⟨B, 0, none⟩)] 32)).trans hx1)
      have HBX := Lib.hid (show Boxed w1 w.heap.size 32 (.pointer (some ⟨B, 0, none⟩)) from (hx1.block _ (by simp) (fun f => f)).trans (Boxed.new w _ _))
      have HS := Lib.hid hs
      clear hs hx1
      gi_wp2_with fail
      refine ⟨trivial, (callsIn_wide.2 (clone _ bs _ ((HV.out.ext HX1.out).view h0) (by omega))).mono ?_⟩
      rintro e w2 ⟨v2, og2, rfl, ho2, hn2, hx2⟩
      obtain ⟨g2, cap2, rfl, rfl⟩ := ho2.some h0
      have hg2 := hn2 g2 rfl
      have HO2 := Lib.hid ho2
      have HX2 := Lib.hid (HX1.out.trans hx2)
      have HBX2 := Lib.hid (show Boxed w2 w.heap.size 32 (.pointer (some ⟨B, 0, none⟩)) from (hx2.block _ HBX.out.lt (fun f => f)).trans HBX.out)
      clear hx2 ho2 hn2
      gi_wp2_with fail
      refine ⟨trivial, (callsIn_wide.2 (pick_compact g2 cap2 bs _ HO2.out hbl)).mono ?_⟩
      rintro e w3 ⟨m, rfl, hm, ht3⟩
      have hwg : w.heap.size < g2 := Nat.lt_of_lt_of_le HBX.out.lt hg2
      have HX3 := Lib.hid (HX2.out.touch ht3 (fun i hi e => by omega))
      have HBX3 := Lib.hid (show Boxed w3 w.heap.size 32 (.pointer (some ⟨B, 0, none⟩)) from ht3.keep HBX2.out (fun e => by omega))
      clear ht3 hg2 hwg
      by_cases hmn : m = bs.length
      · have HR := Lib.hid (show RisesP bs from (rises_iff bs).2 ⟨h0, HS.out, hm.1 hmn⟩)
        have hb : ((m : Int) == (bs.length : Int)) = true := by rw [hmn]; simp
        have hb2 : (m : Int) = (bs.length : Int) := by rw [hmn]
        have hb3 : ((m : Int) != (bs.length : Int)) = false := by rw [hmn]; simp
        clear hm hmn
        gi_wp2_with fail
        refine ⟨trivial, (callsIn_wide.2 (pick_groups ao _ cap _)).mono ?_⟩
        rintro e w' ⟨rfl, rfl⟩
        gi_wp2_with fail
        have hv3 := HV.out.ext HX3.out
        obtain ⟨W0, hW0⟩ : ∃ W0, W0 = ((w3.alloc (.cells #[.int .u32 0] 36)).alloc (.cells #[.slice ao bs.length cap] 22)) := ⟨_, rfl⟩
        have hsz : W0.heap.size = w3.heap.size + 2 := by rw [hW0]; simp
        have hwlt := HX3.out.size
        have X0 : Ext w W0 := by rw [hW0]; exact (HX3.out.alloc _).alloc _
        have B5 : Boxed W0 w3.heap.size 36 (.int .u32 0) := by rw [hW0]; exact (Boxed.new w3 _ _).alloc _
        have BP0 : Boxed W0 w.heap.size 32 (.pointer (some ⟨B, 0, none⟩)) := by rw [hW0]; exact (HBX3.out.alloc _).alloc _
        have GV0 : GV (w3.heap.size + 1) (.slice ao bs.length cap) bs W0 := by
          have hb := Boxed.new (w3.alloc (.cells #[.int .u32 0] 36)) 22 (.slice ao bs.length cap)
          rw [World.size_alloc] at hb
          exact ⟨by rw [hW0]; exact hb, HV.out.ext X0⟩
        have W0W : IsW 30 true W0 B og l := HW.out.ext X0
        rw [← hW0]
        clear hW0 hv3
        have HX0 := Lib.hid X0
        have HB5 := Lib.hid B5
        have HBP0 := Lib.hid BP0
        have HGV0 := Lib.hid GV0
        have HW0 := Lib.hid W0W
        clear X0 B5 BP0 GV0 W0W
        obtain ⟨xs, hxs⟩ := grps_all bs
        have HXS := Lib.hid hxs
        clear hxs
        refine wpIn_rangeFunc_ownG rfl (by decide) (gf := 62) (lb := #[.pointer (some ⟨w3.heap.size + 1, 0, none⟩)]) rfl trivial (enters_of Try.func62 (by kernel_rfl) rfl)
          (groups_stops 8 (by decide) (w3.heap.size + 1) (.slice ao bs.length cap) bs hbl xs HXS.out W0 HGV0.out) kpV_t (kpV_b (n := W0.heap.size)) (Below.refl _ _) (fun _ => rfl)
          (fun pre W => Boxed W w3.heap.size 36 (.int .u32 (firstOf (pre.map (·.1)))) ∧ Touch (fun k => k = w3.heap.size) W0 W)
          (fun _ _ _ => False)
          (OwnFrom.and (Own.from (boxed_own _ _ _) _) (ownFrom_touch (Nat.le_refl _)))
          (fun _ _ _ _ _ hs _ _ => hs)
          ⟨HB5.out, Touch.refl _ _⟩
          (fun x => { tmps := #[.pointer (some ⟨B, 0, none⟩), .slice ao bs.length cap, .pointer (some ⟨w.heap.size, 0, none⟩), undef, .int .i64 0, .pointer (some ⟨w3.heap.size, 0, none⟩), .int .i64 x.1.1, .int .u32 x.1.2, undef, undef, .pointer (some ⟨B, 0, none⟩), .bool false, .slice ao bs.length cap, .int .i64 bs.length, .bool false, .bool false, .slice ao bs.length cap, .bool true, .bool false, .bool false, .bool false, .slice ao bs.length cap, .slice (some ⟨g2, 0, none⟩) bs.length cap2, .slice (some ⟨g2, 0, none⟩) m cap2, .int .i64 bs.length, .slice ao bs.length cap, .int .i64 bs.length, .bool false, .bool false, .slice ao bs.length cap, .func (.func 62) #[] #[.pointer (some ⟨w3.heap.size + 1, 0, none⟩)], .int .i64 x.1.1, .int .u32 x.1.2,
            undef, undef, undef, undef, undef, undef, undef, undef, undef, undef, undef, undef, undef, undef, undef, undef, undef, undef, undef], defers := [] }) ?assign ?body ?done ?stop
        case assign =>
          intro l x W K hK
          gi_wp2
          exact hK
        case body =>
          rintro l pre ⟨⟨g, n⟩, hg, hn⟩ W ⟨hbx, hT⟩ hlt
          simp only at hg hn hlt
          have hf := firstOf_lt pre
          have hsn := firstOf_snoc (pre.map (·.1)) (g, n)
          have hsn2 : firstOf ((pre ++ [(⟨(g, n), hg, hn⟩ : Grp)]).map (·.1)) = firstOf (pre.map (·.1) ++ [(g, n)]) := by simp
          rw [← hsn2] at hsn
          clear hsn2
          generalize firstOf (pre.map (·.1)) = f at *
          have hc := hbx.cell
          have hfz := hbx.frozen
          have HT := Lib.hid hT
          have HBB := Lib.hid hbx
          have HSN := Lib.hid hsn
          clear hT hbx hsn
          by_cases h0n : n = 0
          · subst h0n
            gi_wp2_with fail
            exact ⟨KeepsFrom.refl _ _, fun h => h, by rw [HSN.out]; exact HBB.out, HT.out⟩
          · have hn0 : ¬ (n : Int) = 0 := by omega
            have hn1 : ((n : Int) == 0) = false := by rw [beq_eq_false_iff_ne]; omega
            obtain ⟨e, he⟩ : ∃ e, e = 15 - g := ⟨_, rfl⟩
            have k1 : (15 : Int) - (g : Int) = (e : Int) := by omega
            have k2 : ((e : Int)).toNat = e := Int.toNat_natCast e
            have k3 : (0 : Int) ≤ (e : Int) := by omega
            have k4 : IntKind.i64.wrap (e : Int) = e := IntWalk.i64_in _ (by omega)
            have hstep : bits .or .u32 (f : Int) (IntKind.u32.wrap (2 ^ e)) = ((firstOf ((pre ++ [(⟨(g, n), hg, hn⟩ : Grp)]).map (·.1)) : Nat) : Int) := by
              have h2 : (2 : Nat) ^ e < 2 ^ 32 := Nat.pow_lt_pow_right (by decide) (by omega)
              have e1 : ((2 : Int) ^ e) = ((2 ^ e : Nat) : Int) := by simp
              have h3 : IntKind.u32.wrap ((2 ^ e : Nat) : Int) = ((2 ^ e : Nat) : Int) := by
                generalize (2 : Nat) ^ e = E at h2 ⊢
                exact IntWalk.u32_in _ (by omega)
              rw [e1, h3, u32_or_nat _ _ (by omega) h2, HSN.out, if_neg h0n, he]
            have HE := Lib.hid he
            have HST := Lib.hid hstep
            clear he hstep
            have hmx : Try.prog.follows .mixedOrders = true := by kernel_rfl
            gi_wp2_with fail
            gi_region_o
            all_goals gi_wp2
            all_goals exact ⟨((KeepsOthers.setCell _ _ _).trans (KeepsOthers.drew _)).from _, ((Touch.refl (fun k => k = w3.heap.size) W).setCell (Or.inl rfl) _).drew.kpV (by omega) (fun b o n c e h => by have := HVB.out b o n c e h0; omega), by rw [← HST.out]; exact HBB.out.set _, (HT.out.setCell (Or.inl rfl) _).drew⟩
        case done =>
          rintro D ys W hD rfl ⟨hbx, hT⟩ hK
          have hf := firstOf_lt ys
          have hbp := hT.keep HBP0.out (fun e => by have := HBX3.out.lt; omega)
          have hc5 := hbx.cell
          have hcp := Boxed.cell hbp
          have HFE := Lib.hid (show firstOf (ys.map (·.1)) = firstOf (grpsL bs) by rw [HXS.out])
          generalize firstOf (ys.map (·.1)) = f at *
          have hw1 : IsW 30 true W B og l := HW0.out.keep hT (fun e => by have := HW.out.lt; omega) (fun g e h => by have := HW.out.glt g e; omega)
          have HW1 := Lib.hid hw1
          have HT := Lib.hid hT
          have HK := Lib.hid hK
          have HBPW := Lib.hid hbp
          clear hbx hT hbp hw1 hK
          gi_wp2_with fail
          refine ⟨trivial, (callsIn_wide.2 (msb_put_ok B f 16 og l _ HW1.out (by omega) (by decide) (by omega) (by omega))).mono ?_⟩
          rintro e W2 ⟨rfl, og1, w2w, hn2, ht2⟩
          have hnd : ∀ k, w.heap.size ≤ k → ¬ FP B og k := fun k hk h => by
            rcases h with h | h
            · have := HW.out.lt; omega
            · have := HW.out.glt k h; omega
          have hDlt := block_lt HK.out
          have hWsz := HT.out.size
          have hWsz2 := ht2.size
          have hwb := HBX3.out.lt
          have xW : Ext w W := HX0.out.touch HT.out (fun i hi e => by omega)
          have t2 : Touch (FP B og) w W2 := xW.trans' ht2
          have hfp : ∀ k, k < W.heap.size → ¬ FP B og k → ¬ FP B og1 k := fun k hk h h1 => h (hn2.fp B k hk h1)
          obtain ⟨W3, hW3⟩ : ∃ W3, W3 = W2.alloc (.cells #[.slice ao bs.length cap] 22) := ⟨_, rfl⟩
          have hsz3 : W3.heap.size = W2.heap.size + 1 := by rw [hW3]; simp
          have hview : ∀ b o n c, Value.slice ao bs.length cap = .slice (some ⟨b, o, none⟩) n c → b < w.heap.size ∧ ¬ FP B og b := fun b o n c e => ⟨HVB.out b o n c e h0, HD.out b o n c e⟩
          have x23 : Ext W2 W3 := by rw [hW3]; exact (Ext.refl W2).alloc _
          have IW3 := Lib.hid (w2w.ext x23)
          have GV3 : Hid (GV W2.heap.size (.slice ao bs.length cap) bs W3) := Lib.hid ⟨by rw [hW3]; exact Boxed.new W2 _ _, ((HV.out.keep t2 (fun b o n c e => (hview b o n c e).2)).ext x23)⟩
          have BP3 : Hid (Boxed W3 w.heap.size 32 (.pointer (some ⟨B, 0, none⟩))) := Lib.hid (by rw [hW3]; exact Boxed.alloc (show Boxed W2 _ _ _ from ht2.keep HBPW.out (hnd _ (Nat.le_refl _))) _)
          have KD3 : Hid (W3.heap[D]? = some (.deferred (some []))) := Lib.hid (x23.keep (ht2.keep HK.out (hnd D (by omega))) (fun f => f))
          have hglt := w2w.glt
          have hfpn : ¬ FP B og1 W2.heap.size := fun h => by
            rcases h with h | h
            · have := HW.out.lt; omega
            · have := hglt _ h; omega
          have HNP := Lib.hid (show ¬ FP B og1 w.heap.size from hfp _ (by omega) (hnd _ (Nat.le_refl _)))
          have HND := Lib.hid (show ¬ FP B og1 D from hfp _ hDlt (hnd D (by omega)))
          have HNN := Lib.hid hfpn
          have HNV := Lib.hid (show ∀ b o n c, Value.slice ao bs.length cap = .slice (some ⟨b, o, none⟩) n c → b < w.heap.size ∧ ¬ FP B og1 b from fun b o n c e => ⟨(hview b o n c e).1, hfp b (by have := (hview b o n c e).1; omega) (hview b o n c e).2⟩)
          have HT2 := Lib.hid (show Touch (FP B og) w W3 from t2.trans x23 (fun _ _ f => f.elim))
          have HN2 := Lib.hid (show Near og og1 w from (Near.refl og w).trans hn2 xW.size)
          clear hfpn hfp hview hnd t2 xW hglt
          gi_wp2_with fail
          refine ⟨trivial, (callsIn_wide.2 (pick_groups ao _ cap _)).mono ?_⟩
          rintro e w' ⟨rfl, rfl⟩
          rw [← hW3]
          clear hW3 w2w hn2 ht2
          gi_wp2_with fail
          have hxl : ys.length = 16 := by
            have := congrArg List.length HXS.out
            rwa [List.length_map, length_grpsL] at this
          refine wpIn_rangeFunc_ownG rfl (by decide) (gf := 62) (lb := #[.pointer (some ⟨W2.heap.size, 0, none⟩)]) rfl trivial (enters_of Try.func62 (by kernel_rfl) rfl)
            (groups_stops 8 (by decide) W2.heap.size (.slice ao bs.length cap) bs hbl ys HXS.out W3 GV3.out) kpV_t (kpV_b (n := W3.heap.size)) (Below.refl _ _) (fun _ => rfl)
            (fun pre W => WPost 30 true W3 B og1 ((l ++ bitsOf true f 16) ++ restOf (pre.map (·.1))) W)
            (fun _ _ _ => False)
            (ownFrom_wpost _ (Nat.le_refl _))
            (fun _ _ _ _ _ hs _ _ => hs)
            (by simpa [restOf] using WPost.refl IW3.out)
            (fun x => { tmps := #[.pointer (some ⟨B, 0, none⟩), .slice ao bs.length cap, .pointer (some ⟨w.heap.size, 0, none⟩), undef, .int .i64 0, .pointer (some ⟨w3.heap.size, 0, none⟩), undef, undef, undef, .int .u32 x.1.2, .pointer (some ⟨B, 0, none⟩), .bool false, .slice ao bs.length cap, .int .i64 bs.length, .bool false, .bool false, .slice ao bs.length cap, .bool true, .bool false, .bool false, .bool false, .slice ao bs.length cap, .slice (some ⟨g2, 0, none⟩) bs.length cap2, .slice (some ⟨g2, 0, none⟩) m cap2, .int .i64 bs.length, .slice ao bs.length cap, .int .i64 bs.length, .bool false, .bool false, .slice ao bs.length cap, .func (.func 62) #[] #[.pointer (some ⟨w3.heap.size + 1, 0, none⟩)], undef, undef,
              undef, undef, undef, undef, undef, undef, undef, .pointer (some ⟨B, 0, none⟩), .int .u32 f, .int .i64 0, .slice ao bs.length cap, .func (.func 62) #[] #[.pointer (some ⟨W2.heap.size, 0, none⟩)], .int .i64 x.1.1, .int .u32 x.1.2, undef, undef, undef, undef, undef], defers := [] }) ?assign2 ?body2 ?done2 ?stop2
          case assign2 =>
            intro l x W K hK
            gi_wp2
            exact hK
          case body2 =>
            rintro l2 pre ⟨⟨g, n⟩, hg, hn⟩ W4 ⟨og4, w4, hn4, ht4⟩ hlt2
            simp only at hg hn hlt2
            have hrl := restOf_len (pre.map (·.1))
            rw [List.length_map] at hrl
            have hsn := restOf_snoc (pre.map (·.1)) (g, n)
            have hsn2 : restOf ((pre ++ [(⟨(g, n), hg, hn⟩ : Grp)]).map (·.1)) = restOf (pre.map (·.1) ++ [(g, n)]) := by simp
            rw [← hsn2] at hsn
            clear hsn2
            have hsz4 := ht4.size
            have hcp := Boxed.cell (show Boxed W4 w.heap.size 32 (.pointer (some ⟨B, 0, none⟩)) from ht4.keep BP3.out HNP.out)
            have HSN := Lib.hid hsn
            have HW4 := Lib.hid w4
            have HN4 := Lib.hid hn4
            have HT4 := Lib.hid ht4
            clear hsn w4 hn4 ht4
            by_cases h0n : n = 0
            · subst h0n
              gi_wp2_with fail
              refine ⟨KeepsFrom.refl _ _, fun h => h, ?_⟩
              dsimp only
              rw [HSN.out, if_pos trivial, List.append_nil, ← List.append_assoc]
              exact ⟨og4, HW4.out, HN4.out, HT4.out⟩
            · have hn0 : ¬ (n : Int) = 0 := by omega
              have hn1 : ((n : Int) == 0) = false := by rw [beq_eq_false_iff_ne]; omega
              gi_wp2_with fail
              refine ⟨trivial, (CallsIn.inRound l2 (callsIn_wide.2 (msb_put_ok B n 16 og4 _ _ HW4.out (by simp only [List.length_append, length_bitsOf]; omega) (by decide) (by omega) (by omega)))).mono ?_⟩
              rintro e W5 ⟨rfl, og5, w5, hn5, ht5⟩
              have hw4c := HW4.out.cells
              have HW5 := Lib.hid w5
              have HN5 := Lib.hid hn5
              have HT5 := Lib.hid ht5
              have HC4 := Lib.hid hw4c
              clear w5 hn5 ht5 hw4c
              gi_wp2_with fail
              refine ⟨HT5.out.keepsFrom HC4.out _, HT5.out.kpV (fun h => HNN.out (HN4.out.fp B _ (by omega) h)) (fun b o n c e h => (HNV.out b o n c e).2 (HN4.out.fp B _ (by have := (HNV.out b o n c e).1; omega) h)), ?_⟩
              dsimp only
              rw [HSN.out, if_neg h0n, ← List.append_assoc]
              exact ⟨og5, HW5.out, HN4.out.trans HN5.out hsz4, HT4.out.trans HT5.out fun i hi => HN4.out.fp B i hi⟩
          case done2 =>
            rintro D2 zs W5 hD2 rfl ⟨og5, w5, hn5, ht5⟩ hK2
            have HP := Lib.hid (show l ++ bitsOf true f 16 ++ restOf (zs.map (·.1)) = l ++ putOf bs by rw [putOf, ← HFE.out, HXS.out, List.append_assoc])
            have hKD := ht5.keep KD3.out HND.out
            have HKD := Lib.hid hKD
            have HK2 := Lib.hid hK2
            have HW5 := Lib.hid w5
            have HN5 := Lib.hid hn5
            have HT5 := Lib.hid ht5
            clear hKD hK2 w5 hn5 ht5
            gi_wp2_with fail
            have hDD : D ≠ D2 := by omega
            have h3 : ((W5.putObj D2 (.deferred none)).heap[D]?) = some (.deferred (some [])) := (World.putObj_heap_other hDD).trans HKD.out
            refine ⟨by simp, .inl ⟨_, _, rfl, run_takeDeferred HK2.out, by simp, .inl ⟨_, _, rfl, run_takeDeferred h3, _, results_tmp rfl _ _ _, Or.inl ⟨rfl, HR.out, ?_⟩⟩⟩⟩
            rw [← HP.out]
            have g1 := grownBy_putObj' W5 D2 (.deferred none)
            have g2 := grownBy_putObj' (W5.putObj D2 (.deferred none)) D (.deferred none)
            refine ⟨og5, (HW5.out.grown g1 (fun r e => by cases e; exact ⟨_, HK2.out, rfl⟩)).grown g2 (fun r e => by cases e; exact ⟨_, h3, rfl⟩), HN2.out.trans HN5.out HT2.out.size, ?_⟩
            exact ((HT2.out.trans HT5.out fun i hi => HN2.out.fp B i hi).grown g1 (fun k e => by cases e; right; omega)).grown g2 (fun k e => by cases e; right; omega)
          case stop2 =>
            rintro D c pre W _ _ h _
            exact h.elim
        case stop =>
          rintro D c pre W _ _ h _
          exact h.elim
      · have HR := Lib.hid (show ¬ RisesP bs from fun h => hmn (hm.2 ((rises_iff bs).1 h).2.2))
        have hb : ((m : Int) == (bs.length : Int)) = false := by rw [beq_eq_false_iff_ne]; omega
        have hb2 : ¬ (m : Int) = (bs.length : Int) := by omega
        clear hm hmn
        gi_wp2_with fail
        exact ⟨_, results_tmp rfl _ _ _, Or.inr ⟨rfl, HR.out, HX3.out⟩⟩
    · have HX1 := Lib.hid (((Ext.refl w).alloc (.cells #[.pointer (some ⟨B, 0, none⟩)] 32)).trans hx1)
      have HR := Lib.hid (show ¬ RisesP bs from fun h => hs ((rises_iff bs).1 h).2.1)
      clear hs hx1
      gi_wp2_with fail
      repeat (refine ⟨trivial, ?_⟩; gi_wp2_with fail)
      exact ⟨_, results_tmp rfl _ _ _, Or.inr ⟨rfl, HR.out, HX1.out⟩⟩
  · have h0i : (bs.length : Int) = 0 := by omega
    have h0n : bs = [] := List.eq_nil_of_length_eq_zero (by omega)
    subst h0n
    gi_wp2_with fail
    repeat (refine ⟨trivial, ?_⟩; gi_wp2_with fail)
    exact ⟨_, results_tmp rfl _ _ _, Or.inr ⟨rfl, fun h => Nat.lt_irrefl _ h.1, (Ext.refl w).alloc _⟩⟩
end Go.Proofs.Yteabjmebnbaonaa
