/- kraft.Words: its walk. prefix.New: its walk. -/
import Derived.Test.YtbbcphloafmldaaGreatBnd15
import Derived.Test.YtbbcphloafmldaaGreatBnd5
import Derived.StillTailTactics
import Derived.Test.YtbbcphloafmldaaGreatBnd4
/-! kraft.Words: its walk. -/
namespace Go.Proofs.YtbbcphloafmldaaGreat
open Go.RowKit Go.Shelf
set_option linter.unusedVariables false
attribute [local go_sem] Oper.semAt_some

theorem Touch.kpV {S : Nat → Prop} {W W' : World} {Bn : Nat} {sv : Value} {bs : List Nat} (h : Touch S W W') (hb : ¬ S Bn) (hv : ∀ b o n cap, sv = .slice (some ⟨b, o, none⟩) n cap → ¬ S b) : KpV Bn sv bs W W' :=
  fun hg => ⟨h.keep hg.1 hb, hg.2.keep h hv⟩
theorem ownFrom_touch {β : Type} {S : Nat → Prop} {w₀ : World} {B : Nat} (hB : w₀.heap.size ≤ B) : OwnFrom B (fun (_ : β) W => Touch S w₀ W) :=
  fun _ _ _ _ hs hg hr => hs.grown hg (fun k e => Or.inr (Nat.le_trans hB (hr k e).1))
/-- one word as the program gives it: the row, the next word, and how many bits the last one had. -/
def mNx (s : List Nat × Nat × Nat) (p : Nat × Nat) : Nat := s.2.1 * 2 ^ min ((p.2 + 256 - s.2.2) % 256) 32 % 4294967296
def mStep (s : List Nat × Nat × Nat) (p : Nat × Nat) : List Nat × Nat × Nat := (s.1.set p.1 (mNx s p), (mNx s p + 1) % 4294967296, p.2)
def mRun (N : Nat) (ps : List (Nat × Nat)) : List Nat × Nat × Nat := ps.foldl mStep (List.replicate N 0, 0, 0)
theorem mRun_snoc (N : Nat) (ps : List (Nat × Nat)) (p : Nat × Nat) : mRun N (ps ++ [p]) = mStep (mRun N ps) p := by simp [mRun, List.foldl_append]
theorem mRun_inv (N : Nat) : ∀ ps : List (Nat × Nat), ps.Pairwise (fun p q => p.2 ≤ q.2 ∧ p.1 ≠ q.1) → (∀ p ∈ ps, p.1 < N ∧ p.2 ≤ 20) → (wRun N ps).2 ≤ 2 ^ 20 →
    ∃ b, mRun N ps = ((wRun N ps).1, (wRun N ps).2 / 2 ^ (20 - b), b) ∧ b ≤ 20 ∧ (∀ p ∈ ps, p.2 ≤ b) ∧ (b = 0 ∨ ∃ p ∈ ps, p.2 = b) := by
  refine snoc_rec ?_ ?_
  · intro _ _ _
    exact ⟨0, by simp [mRun, wRun_nil], by omega, by simp, Or.inl rfl⟩
  · intro ps p ih hs hb hw
    obtain ⟨hs1, _, hs2⟩ := List.pairwise_append.1 hs
    have hp := hb p (by simp)
    have hpq : ∀ q ∈ ps, q.2 ≤ p.2 := fun q hq => (hs2 q hq p (by simp)).1
    have hb1 : ∀ q ∈ ps, q.1 < N ∧ q.2 ≤ 20 := fun q hq => hb q (List.mem_append.2 (Or.inl hq))
    rw [wRun_snoc] at hw ⊢
    simp only at hw
    obtain ⟨b, h1, h2, h3, h4⟩ := ih hs1 hb1 (Nat.le_trans (Nat.le_add_right _ _) hw)
    have hd := (wInv N ps hs1 hb1).whole b h3 h2
    have hbp : b ≤ p.2 := by
      rcases h4 with h | ⟨q, hq, h⟩
      · omega
      · rw [← h]; exact hpq q hq
    have hp0 := Nat.two_pow_pos (20 - p.2)
    have hw' : (wRun N ps).2 ≤ 2 ^ 20 := Nat.le_trans (Nat.le_add_right _ _) hw
    have hx : mNx (mRun N ps) p = (wRun N ps).2 / 2 ^ (20 - p.2) := by
      rw [mNx, h1]
      simp only
      have e1 : min ((p.2 + 256 - b) % 256) 32 = p.2 - b := by omega
      have e2 : (2 : Nat) ^ (20 - b) = 2 ^ (20 - p.2) * 2 ^ (p.2 - b) := by rw [← Nat.pow_add]; congr 1; omega
      obtain ⟨c, hc⟩ := hd
      rw [e1, hc]
      have e3 : 2 ^ (20 - b) * c / 2 ^ (20 - b) = c := Nat.mul_div_cancel_left _ (Nat.two_pow_pos _)
      have e4 : 2 ^ (20 - b) * c / 2 ^ (20 - p.2) = 2 ^ (p.2 - b) * c := by rw [e2, Nat.mul_assoc, Nat.mul_div_cancel_left _ hp0]
      rw [e3, e4, Nat.mul_comm c]
      refine Nat.mod_eq_of_lt ?_
      have h5 : 2 ^ (p.2 - b) * c ≤ 2 ^ (20 - b) * c := Nat.mul_le_mul_right _ (Nat.pow_le_pow_right (by decide) (by omega))
      omega
    have hq : (wRun N ps).2 / 2 ^ (20 - p.2) ≤ 2 ^ 20 := Nat.le_trans (Nat.div_le_self _ _) hw'
    refine ⟨p.2, ?_, hp.2, fun q hq => ?_, Or.inr ⟨p, by simp, rfl⟩⟩
    · rw [mRun_snoc, mStep, hx, h1]
      simp only [Prod.mk.injEq, true_and, and_true]
      rw [Nat.add_div_right _ hp0]
      omega
    · rcases List.mem_append.1 hq with hq | hq
      · exact hpq q hq
      · have : q = p := by simpa using hq
        rw [this]; exact Nat.le_refl _
theorem mRun_words {L : List Nat} (hg : Good L) : (mRun L.length (prs L 20 L.length)).1 = wordsL L := by
  obtain ⟨b, h, _⟩ := mRun_inv L.length (prs L 20 L.length) (by rw [prs_flat _ _ (by decide)]; exact flat_apart L 20 1) (fun p hp => by have := mem_prs hp (Nat.le_refl _) (by decide); omega) (Nat.le_trans (at_le hg.1 20 L.length (by decide) (by decide) (Nat.le_refl _)) hg.2.2)
  rw [h]; rfl
theorem mRun_lt (N : Nat) : ∀ ps : List (Nat × Nat), (∀ p ∈ ps, p.2 ≤ 20) → (mRun N ps).1.length = N ∧ (mRun N ps).2.1 < 2 ^ 32 ∧ (mRun N ps).2.2 ≤ 20 := by
  refine snoc_rec ?_ ?_
  · intro _; simp [mRun]
  · intro ps p ih hb
    obtain ⟨h1, h2, h3⟩ := ih (fun q hq => hb q (List.mem_append.2 (Or.inl hq)))
    rw [mRun_snoc, mStep]
    refine ⟨by rw [List.length_set]; exact h1, ?_, hb p (by simp)⟩
    exact Nat.mod_lt _ (by decide)
/-- the row and the two boxes, so far. -/
structure KW (g B7 B8 : Nat) (N : Nat) (s : List Nat × Nat × Nat) (W : World) : Prop where
  own : Owns W 32 1 (.slice (some ⟨g, 0, none⟩) N N) (some g) N (u32s s.1)
  next : Boxed W B7 32 (.int .u32 s.2.1)
  bits : Boxed W B8 5 (.int .u8 s.2.2)
theorem KW.keep {g B7 B8 : Nat} {N : Nat} {s : List Nat × Nat × Nat} {W W' : World} {S : Nat → Prop} (h : KW g B7 B8 N s W) (t : Touch S W W') (h1 : ¬ S g) (h2 : ¬ S B7) (h3 : ¬ S B8) : KW g B7 B8 N s W' :=
  ⟨h.own.keep t (fun g' e => by cases e; exact h1), t.keep h.next h2, t.keep h.bits h3⟩
theorem Owns.isCells {w : World} {e : TypeId} {v : Value} {g n : Nat} {xs : List Value} (h : Owns w e 1 v (some g) n xs) : ∀ o, w.heap[g]? = some o → o.isCells = true := by
  intro o ho
  rcases h.form with ⟨h, _⟩ | ⟨g', cap, cur, h4, _, h5, _⟩
  · cases h
  · cases h4
    rw [h5] at ho; cases ho; rfl
theorem boxed_isCells {w : World} {B : Nat} {t : TypeId} {v : Value} (h : Boxed w B t v) : ∀ o, w.heap[B]? = some o → o.isCells = true := by
  intro o ho
  have h' : w.heap[B]? = _ := h
  rw [h'] at ho; cases ho; rfl
theorem KW.grown {g B7 B8 : Nat} {N : Nat} {s : List Nat × Nat × Nat} {W W' : World} {row : Option Nat} (h : KW g B7 B8 N s W) (hg : W.grownBy W' row) (hr : ∀ r, row = some r → ∃ o : Obj, W.heap[r]? = some o ∧ o.isCells = false) : KW g B7 B8 N s W' := by
  have hT : Touch (fun k => row = some k) W W' := (Touch.refl _ W).grown hg (fun k e => Or.inl e)
  refine h.keep hT (fun e => ?_) (fun e => ?_) (fun e => ?_)
  · obtain ⟨o, ho, hc⟩ := hr _ e; have := h.own.isCells o ho; rw [hc] at this; cases this
  · obtain ⟨o, ho, hc⟩ := hr _ e; have := boxed_isCells h.next o ho; rw [hc] at this; cases this
  · obtain ⟨o, ho, hc⟩ := hr _ e; have := boxed_isCells h.bits o ho; rw [hc] at this; cases this
theorem ownFrom_kw {β : Type} {g B7 B8 N : Nat} (f : β → List Nat × Nat × Nat) (B : Nat) : OwnFrom B (fun (s : β) W => KW g B7 B8 N (f s) W) :=
  fun _ _ _ _ hs hg hr => hs.grown hg (fun r e => (hr r e).2)
theorem Touch.keepsFrom {S : Nat → Prop} {W W' : World} (h : Touch S W W') (hc : ∀ k o, S k → W.heap[k]? = some o → o.isCells = true) (B0 : Nat) : KeepsFrom B0 W W' :=
  ⟨h.size, fun k o _ hk ho => h.keep hk (fun hs => by have := hc k o hs hk; rw [ho] at this; cases this)⟩
theorem kw_step {g B7 B8 N : Nat} {out : List Nat} {nx b : Nat} {W : World} (h : KW g B7 B8 N (out, nx, b) W) (i : Nat) (hi : i < N) (x y n : Nat) (h1 : ¬ g = B7) (h2 : ¬ g = B8) (h3 : ¬ B7 = B8) :
    KW g B7 B8 N (out.set i x, y, n) ((((W.setCell ⟨B7, 0, none⟩ (.int .u32 x)).setCell ⟨g, i, none⟩ (.int .u32 x)).setCell ⟨B7, 0, none⟩ (.int .u32 y)).setCell ⟨B8, 0, none⟩ (.int .u8 n)) ∧
      Touch (fun k => k = g ∨ k = B7 ∨ k = B8) W ((((W.setCell ⟨B7, 0, none⟩ (.int .u32 x)).setCell ⟨g, i, none⟩ (.int .u32 x)).setCell ⟨B7, 0, none⟩ (.int .u32 y)).setCell ⟨B8, 0, none⟩ (.int .u8 n)) := by
  have t : ∀ (W : World) (a : Addr) (u : Value), Touch (fun k => k = a.block) W (W.setCell a u) := fun W a u => (Touch.refl (fun k => k = a.block) W).setCell (Or.inl rfl) u
  obtain ⟨k1, k2, k3⟩ := h
  refine ⟨⟨?_, ?_, ?_⟩, ?_⟩
  · have a1 := (k1.keep (t W ⟨B7, 0, none⟩ (.int .u32 x)) (fun g' e => by cases e; exact h1)).set i (.int .u32 x) hi
    rw [← u32s_set] at a1
    exact (a1.keep (t _ ⟨B7, 0, none⟩ (.int .u32 y)) (fun g' e => by cases e; exact h1)).keep (t _ ⟨B8, 0, none⟩ (.int .u8 n)) (fun g' e => by cases e; exact h2)
  · have a1 : Boxed _ B7 32 (.int .u32 x) := Boxed.set (.int .u32 x) k2
    have a2 : Boxed _ B7 32 (.int .u32 x) := (t _ ⟨g, i, none⟩ (.int .u32 x)).keep a1 (fun e => h1 e.symm)
    have a3 : Boxed _ B7 32 (.int .u32 y) := Boxed.set (.int .u32 y) a2
    exact (t _ ⟨B8, 0, none⟩ (.int .u8 n)).keep a3 h3
  · have a1 : Boxed _ B8 5 (.int .u8 b) := (t W ⟨B7, 0, none⟩ (.int .u32 x)).keep k3 (fun e => h3 e.symm)
    have a2 : Boxed _ B8 5 (.int .u8 b) := (t _ ⟨g, i, none⟩ (.int .u32 x)).keep a1 (fun e => h2 e.symm)
    have a3 : Boxed _ B8 5 (.int .u8 b) := (t _ ⟨B7, 0, none⟩ (.int .u32 y)).keep a2 (fun e => h3 e.symm)
    exact Boxed.set (.int .u8 n) a3
  · exact ((((Touch.refl (fun k => k = g ∨ k = B7 ∨ k = B8) W).setCell (Or.inl (Or.inr (Or.inl rfl))) _).setCell (Or.inl (Or.inl rfl)) _).setCell (Or.inl (Or.inr (Or.inl rfl))) _).setCell (Or.inl (Or.inr (Or.inr rfl))) _
set_option maxRecDepth 100000 in
set_option maxHeartbeats 4000000 in
theorem kraft_words (v : Value) (bs : List Nat) (w : World) (hv : ViewL w v (u8s bs)) (hvb : ∀ b o n c, v = .slice (some ⟨b, o, none⟩) n c → 0 < bs.length → b < w.heap.size) (hl : bs.length ≤ 2 ^ 40) :
    Calls Tryz.prog 126 #[v] w (fun e w' => (errW bs ≠ 0 ∧ e = .returned (.tuple #[.slice none 0 0, .int .i64 (errW bs)]) ∧ Ext w w') ∨ (errW bs = 0 ∧ ∃ v, e = .returned (.tuple #[v, .int .i64 0]) ∧ NewU w (wordsL bs) v w')) := by
  obtain ⟨ao, cap, rfl⟩ := hv.shape
  rw [length_u8s] at *
  have HV := Lib.hid hv
  have HVB := Lib.hid hvb
  clear hv hvb
  refine (callsIn_wide (n := 9)).1 ?_
  refine callsIn_of_wp_marks Tryz.func126 rfl trivial ?_ rfl
  simp only [Tryz.ntmps126, List.size_toArray, List.length_cons, List.length_nil, Nat.reduceAdd, Nat.reduceSub, Array.replicate_succ, Array.replicate_zero, List.push_toArray, List.append_toArray, List.nil_append, List.cons_append]
  gi_wp2_with fail
  refine ⟨trivial, (callsIn_wide.2 (kraft_classify _ bs _ HV.out hl)).mono ?_⟩
  rintro e w' ⟨(⟨hm, rfl⟩ | ⟨hm, rfl⟩), rfl⟩
  · by_cases hw : 2 ^ 20 < weightL bs
    · have hc : classL bs = 3 := by rw [classL, if_neg (by omega), if_neg (by omega), if_neg (by omega)]
      have HE := Lib.hid (show errW bs = 2 by rw [errW, if_neg (not_not_intro hm), if_pos hw])
      rw [hc]
      gi_wp2_with fail
      exact ⟨_, results_tmp2 rfl _ _ _, Or.inl ⟨by rw [HE.out]; decide, by rw [HE.out]; rfl, Ext.refl _⟩⟩
    · have he : errW bs = 0 := by rw [errW, if_neg (not_not_intro hm), if_neg hw]
      have HG := Lib.hid ((good_iff bs).2 he)
      have HE := Lib.hid he
      have HM := Lib.hid hm
      obtain ⟨c, hc, hc3⟩ : ∃ c, c = classL bs ∧ c < 3 := ⟨_, rfl, by
        rw [classL]
        split
        · omega
        · split
          · omega
          · rw [if_pos (by omega)]; omega⟩
      rw [← hc]
      have hci : ¬ (c : Int) = 3 := by omega
      have hcb : ((c : Int) == 3) = false := beq_eq_false_iff_ne.2 hci
      obtain ⟨w1, hmk, o1, x1⟩ := make_u32 w bs.length hl
      obtain ⟨g, hg⟩ : ∃ g, g = w.heap.size := ⟨_, rfl⟩
      rw [← hg] at hmk o1
      have hgw : w.heap.size ≤ g := Nat.le_of_eq hg.symm
      have HO1 := Lib.hid o1
      have HX1 := Lib.hid x1
      have HGG := Lib.hid hg
      have hgl : g < w1.heap.size := o1.lt g rfl
      clear hg o1 x1 hc hw he hm
      gi_wp2_with fail
      refine ⟨trivial, (callsIn_wide.2 (kraft_order ao _ cap _)).mono ?_⟩
      rintro e w' ⟨rfl, rfl⟩
      clear hmk
      gi_wp2_with fail
      obtain ⟨xs, hxs⟩ := wds_all HM.out
      have HXS := Lib.hid hxs
      clear hxs
      obtain ⟨n1, hn1⟩ : ∃ n1, n1 = w1.heap.size := ⟨_, rfl⟩
      obtain ⟨W0, hW0⟩ : ∃ W0, W0 = ((((w1.alloc (.cells #[.slice (some ⟨g, 0, none⟩) bs.length bs.length] 118)).alloc (.cells #[.int .u32 0] 32)).alloc (.cells #[.int .u8 0] 5)).alloc (.cells #[.slice ao bs.length cap] 22)) := ⟨_, rfl⟩
      have hsz : W0.heap.size = n1 + 4 := by rw [hW0, hn1]; simp
      have x10 : Ext w1 W0 := by rw [hW0]; exact ((((Ext.refl w1).alloc _).alloc _).alloc _).alloc _
      have b6 : Boxed W0 n1 118 (.slice (some ⟨g, 0, none⟩) bs.length bs.length) := by rw [hW0, hn1]; exact (((Boxed.new w1 _ _).alloc _).alloc _).alloc _
      have b7 : Boxed W0 (n1 + 1) 32 (.int .u32 0) := by
        have h := Boxed.new (w1.alloc (.cells #[.slice (some ⟨g, 0, none⟩) bs.length bs.length] 118)) 32 (.int .u32 0)
        rw [World.size_alloc, ← hn1] at h
        rw [hW0]; exact (h.alloc _).alloc _
      have b8 : Boxed W0 (n1 + 2) 5 (.int .u8 0) := by
        have h := Boxed.new ((w1.alloc (.cells #[.slice (some ⟨g, 0, none⟩) bs.length bs.length] 118)).alloc (.cells #[.int .u32 0] 32)) 5 (.int .u8 0)
        rw [World.size_alloc, World.size_alloc, ← hn1] at h
        rw [hW0]; exact h.alloc _
      have gv0 : GV (n1 + 3) (.slice ao bs.length cap) bs W0 := by
        have h := Boxed.new (((w1.alloc (.cells #[.slice (some ⟨g, 0, none⟩) bs.length bs.length] 118)).alloc (.cells #[.int .u32 0] 32)).alloc (.cells #[.int .u8 0] 5)) 22 (.slice ao bs.length cap)
        rw [World.size_alloc, World.size_alloc, World.size_alloc, ← hn1] at h
        exact ⟨by rw [hW0]; exact h, HV.out.ext (HX1.out.trans x10)⟩
      have HB6 := Lib.hid b6
      have HGV := Lib.hid gv0
      have HK0 := Lib.hid (show KW g (n1 + 1) (n1 + 2) bs.length (mRun bs.length []) W0 from ⟨HO1.out.ext' x10, b7, b8⟩)
      have HX0 := Lib.hid (HX1.out.trans x10)
      have hwn : w.heap.size ≤ n1 := by rw [hn1]; exact HX1.out.size
      rw [← hn1] at hgl
      rw [← hW0, ← hn1]
      clear hW0 hn1 x10 b6 b7 b8 gv0
      refine wpIn_rangeFunc_ownG rfl (by decide) (gf := 143) (lb := #[.pointer (some ⟨n1 + 1 + 1 + 1, 0, none⟩)]) rfl trivial (enters_of Tryz.func143 (by kernel_rfl) rfl)
        (order_stops 8 (by decide) (n1 + 3) (.slice ao bs.length cap) bs HM.out xs HXS.out W0 HGV.out) kpV_t (kpV_b (n := W0.heap.size)) (Below.refl _ _) (fun _ => rfl)
        (fun pre W => KW g (n1 + 1) (n1 + 2) bs.length (mRun bs.length (pre.map (·.1))) W ∧ Touch (fun k => k = g ∨ k = n1 + 1 ∨ k = n1 + 2) W0 W)
        (fun _ _ _ => False)
        (OwnFrom.and (ownFrom_kw _ _) (ownFrom_touch (Nat.le_refl _)))
        (fun _ _ _ _ _ hs _ _ => hs)
        ⟨HK0.out, Touch.refl _ _⟩
        (fun x => { tmps := #[.slice ao bs.length cap, undef, .slice none 0 0, .int .i64 0, .int .u8 c, .int .i64 0, .pointer (some ⟨n1, 0, none⟩), .pointer (some ⟨n1 + 1, 0, none⟩), .pointer (some ⟨n1 + 1 + 1, 0, none⟩), .int .i64 x.1.1, .int .u8 x.1.2, .tuple #[.int .u8 c, .int .i64 0], .slice ao bs.length cap, .tuple #[.int .u8 c, .int .i64 0], .int .u8 c, .int .i64 0, .bool false, .int .i64 0, .bool false, undef, .bool false, .int .u8 c, .bool false, .slice ao bs.length cap, .int .i64 bs.length, .slice (some ⟨g, 0, none⟩) bs.length bs.length, .slice ao bs.length cap,
          .func (.func 143) #[] #[.pointer (some ⟨n1 + 1 + 1 + 1, 0, none⟩)], .int .i64 x.1.1, .int .u8 x.1.2, undef, undef, undef, undef, undef, undef, undef, undef, undef, undef, undef, undef, undef], defers := [] }) ?assign ?body ?done ?stop
      case assign =>
        intro l x W K hK
        gi_wp2
        exact hK
      case body =>
        rintro l pre ⟨⟨i, n⟩, hi, h1, h20⟩ W ⟨kw, hT⟩ hlt
        simp only at hi h1 h20 hlt
        obtain ⟨hl1, hl2, hl3⟩ := mRun_lt bs.length (pre.map (·.1)) (fun p hp => by
          obtain ⟨q, _, rfl⟩ := List.mem_map.1 hp
          exact q.2.2.2)
        have hsn : mRun bs.length ((pre ++ [(⟨(i, n), hi, h1, h20⟩ : Wd bs.length)]).map (·.1)) = mStep (mRun bs.length (pre.map (·.1))) (i, n) := by
          rw [List.map_append]; exact mRun_snoc _ _ _
        generalize mRun bs.length (pre.map (·.1)) = s at *
        obtain ⟨out, nx, b⟩ := s
        simp only at hl1 hl2 hl3
        have c7 := kw.next.cell
        have f7 := kw.next.frozen
        have c8 := kw.bits.cell
        have f8 := kw.bits.frozen
        have c6 := Boxed.cell (show Boxed W n1 118 _ from hT.keep HB6.out (by omega))
        have cg := kw.own.cell i _ (getElem?_u32s _ i (by simp only; omega))
        have fg := kw.own.free i
        simp only at c7 c8 cg
        have HKW := Lib.hid kw
        have HT := Lib.hid hT
        have HSN := Lib.hid hsn
        clear kw hT hsn
        have d1 : ¬ g = n1 + 1 := by omega
        have d2 : ¬ g = n1 + 2 := by omega
        have d3 : ¬ n1 + 1 = g := by omega
        have d4 : ¬ n1 + 2 = g := by omega
        obtain ⟨k, hk⟩ : ∃ k, k = (n + 256 - b) % 256 := ⟨_, rfl⟩
        have k1 : ((n : Int) - (b : Int)) % 256 = (k : Int) := by omega
        have hk256 : k < 256 := by omega
        have HKK := Lib.hid (show mStep (out, nx, b) (i, n) = (out.set i (nx * 2 ^ min k 32 % 4294967296), (nx * 2 ^ min k 32 % 4294967296 + 1) % 4294967296, n) by rw [hk]; rfl)
        clear hk
        have n2 : n1 + 1 + 1 = n1 + 2 := rfl
        gi_wp2_with fail
        have e1 : (nx : Int) * 2 ^ min k 32 % 4294967296 = ((nx * 2 ^ min k 32 % 4294967296 : Nat) : Int) := by simp
        have e2 : ((nx : Int) * 2 ^ min k 32 + 1) % 4294967296 = (((nx * 2 ^ min k 32 % 4294967296 + 1) % 4294967296 : Nat) : Int) := by
          have e3 : (nx : Int) * 2 ^ min k 32 = ((nx * 2 ^ min k 32 : Nat) : Int) := by simp
          rw [e3]
          generalize nx * 2 ^ min k 32 = Z
          omega
        rw [e1, e2]
        obtain ⟨q1, q2⟩ := kw_step HKW.out i hi (nx * 2 ^ min k 32 % 4294967296) ((nx * 2 ^ min k 32 % 4294967296 + 1) % 4294967296) n d1 d2 (by omega)
        have hgv := q2.kpV (Bn := n1 + 3) (sv := .slice ao bs.length cap) (bs := bs) (by omega) (fun b' o' n' c' e h => by
          have := HVB.out b' o' n' c' e (by omega)
          omega)
        refine ⟨q2.keepsFrom (fun k o hk ho => ?_) _, hgv, by rw [HSN.out, HKK.out]; exact q1, HT.out.trans q2 (fun _ _ h => h)⟩
        rcases hk with rfl | rfl | rfl
        · exact HKW.out.own.isCells o ho
        · exact boxed_isCells HKW.out.next o ho
        · exact boxed_isCells HKW.out.bits o ho
      case done =>
        rintro D ys W hD rfl ⟨kw, hT⟩ hK
        have c6 := Boxed.cell (show Boxed W n1 118 _ from hT.keep HB6.out (by omega))
        have HKW := Lib.hid kw
        have HT := Lib.hid hT
        have HK := Lib.hid hK
        clear kw hT hK
        gi_wp2_with fail
        refine ⟨by simp, .inl ⟨_, _, rfl, run_takeDeferred HK.out, ?_⟩⟩
        have g1 := grownBy_putObj' W D (.deferred none)
        refine ⟨_, results_tmp2 rfl _ _ _, Or.inr ⟨HE.out, _, rfl, some g, ?_, fun g' e => by cases e; omega, ?_⟩⟩
        · have h := (HKW.out.grown g1 (fun r e => by cases e; exact ⟨_, HK.out, rfl⟩)).own
          rw [HXS.out, mRun_words HG.out] at h
          rw [length_wordsL]
          exact h
        · exact Touch.grown (HX0.out.touch HT.out (fun i hi e => by omega)) g1 (fun k e => by cases e; right; omega)
      case stop =>
        rintro D c pre W _ _ h _
        exact h.elim
  · have HE := Lib.hid (show errW bs = 5 by rw [errW, if_pos hm])
    gi_wp2_with fail
    exact ⟨_, results_tmp2 rfl _ _ _, Or.inl ⟨by rw [HE.out]; decide, by rw [HE.out]; rfl, Ext.refl _⟩⟩
end Go.Proofs.YtbbcphloafmldaaGreat

/-! prefix.New: its walk. -/
namespace Go.Proofs.YtbbcphloafmldaaGreat
open Go.RowKit
set_option linter.unusedVariables false

/-- what New leaves. -/
def NewT (w : World) (L : List Nat) (e : Ending) (w' : World) : Prop :=
  (errW L ≠ 0 ∧ e = .returned (.tuple #[.pointer none, .int .i64 (errW L)]) ∧ Ext w w') ∨
  (errW L = 0 ∧ ∃ B og og2 m, e = .returned (.tuple #[.pointer (some ⟨B, 0, none⟩), .int .i64 0]) ∧ IsT w' B og og2 m L ∧ (∀ k, TB B og og2 m k → w.heap.size ≤ k) ∧ Ext w w')
/-- in the midst of New: the table's blocks, the map so far. -/
structure NT (w : World) (B m : Nat) (og og2 : Option Nat) (lv wv : Value) (L : List Nat) (R : Nat → Nat → Int → Prop) (wr : World) : Prop where
  tab : wr.heap[B]? = some (.cells #[lv, wv, .map (some m)] 154 (0, 0))
  lens : Owns wr 5 1 lv og L.length (u8s L)
  words : Owns wr 32 1 wv og2 L.length (u32s (wordsL L))
  map : MapIs wr m R
  new : ∀ k, TB B og og2 m k → w.heap.size ≤ k
  apart : B ≠ m ∧ og ≠ some m ∧ og2 ≠ some m
  ext : Ext w wr
theorem NT.store {w : World} {B m : Nat} {og og2 : Option Nat} {lv wv : Value} {L : List Nat} {R R' : Nat → Nat → Int → Prop} {wr w' : World} (h : NT w B m og og2 lv wv L R wr) (hm : MapIs w' m R') (t : Touch (fun i => i = m) wr w') : NT w B m og og2 lv wv L R' w' :=
  ⟨t.keep h.tab h.apart.1, h.lens.keep t (fun g e e2 => h.apart.2.1 (by rw [e, e2])), h.words.keep t (fun g e e2 => h.apart.2.2 (by rw [e, e2])), hm, h.new, h.apart, h.ext.touch t (fun i hi e => by have := h.new m (Or.inr (Or.inr (Or.inr rfl))); omega)⟩
theorem NT.drew {w : World} {B m : Nat} {og og2 : Option Nat} {lv wv : Value} {L : List Nat} {R : Nat → Nat → Int → Prop} {wr : World} (h : NT w B m og og2 lv wv L R wr) : NT w B m og og2 lv wv L R wr.drew :=
  ⟨h.tab, h.lens.ext' (Ext.refl wr).drew, h.words.ext' (Ext.refl wr).drew, h.map.keep (Ext.refl wr).drew (fun f => f), h.new, h.apart, h.ext.drew⟩
theorem NT.cong {w : World} {B m : Nat} {og og2 : Option Nat} {lv wv : Value} {L : List Nat} {R R' : Nat → Nat → Int → Prop} {wr : World} (h : NT w B m og og2 lv wv L R wr) (e : ∀ v k a, R v k a ↔ R' v k a) : NT w B m og og2 lv wv L R' wr :=
  ⟨h.tab, h.lens, h.words, h.map.cong e, h.new, h.apart, h.ext⟩
set_option maxHeartbeats 4000000 in
set_option maxRecDepth 100000 in
theorem pre_new (v : Value) (bs : List Nat) (w : World) (hv : View w v bs) (hv2 : ViewL w v (u8s bs)) (hvb : ∀ b o n c, v = .slice (some ⟨b, o, none⟩) n c → 0 < bs.length → b < w.heap.size) (hl : bs.length ≤ 2 ^ 40) :
    Calls Tryz.prog 103 #[v] w (NewT w bs) := by
  obtain ⟨ao, cap, rfl⟩ := hv2.shape
  rw [length_u8s] at *
  have HV := Lib.hid hv
  have HV2 := Lib.hid hv2
  have HVB := Lib.hid hvb
  clear hv hv2 hvb
  go_enter Tryz.func103, Tryz.ntmps103
  go_wp2_with fail
  refine (kraft_words _ bs _ HV2.out HVB.out hl).mono ?_
  rintro e w1 (⟨he, rfl, x1⟩ | ⟨he, wv, rfl, og2, o2, g2, x1⟩)
  · have HE := Lib.hid he
    have heb : (errW bs == 0) = false := beq_eq_false_iff_ne.2 he
    have hei : ¬ errW bs = 0 := he
    have HX := Lib.hid x1
    clear x1 he
    go_wp2_with fail
    go_ret2
    exact Or.inl ⟨HE.out, rfl, HX.out⟩
  · have HG := Lib.hid ((good_iff bs).2 he)
    have HE := Lib.hid he
    rw [length_wordsL] at o2
    obtain ⟨ao2, cap2, rfl⟩ := o2.shape
    have HO2 := Lib.hid o2
    have HX1 := Lib.hid x1
    have HG2 := Lib.hid g2
    clear o2 g2 x1 he
    go_wp2_with fail
    refine (clone _ bs _ (HV.out.ext HX1.out) (by omega)).mono ?_
    rintro e w2 ⟨lv, og, rfl, o1, g1, x2⟩
    obtain ⟨ao1, cap1, rfl⟩ := o1.shape
    obtain ⟨m, hm⟩ : ∃ m, m = w2.heap.size := ⟨_, rfl⟩
    obtain ⟨w3, hw3⟩ : ∃ w3, w3 = (w2.alloc (.map #[] 0)).alloc (.cells #[.slice ao1 bs.length cap1, .slice ao2 bs.length cap2, .map (some m)] 154) := ⟨_, rfl⟩
    have x3 : Ext w2 w3 := by rw [hw3]; exact ((Ext.refl w2).alloc _).alloc _
    have nt : NT w (m + 1) m og og2 (.slice ao1 bs.length cap1) (.slice ao2 bs.length cap2) bs (RT ((rowsL bs).take 0)) w3 := by
      refine ⟨?_, o1.ext' x3, HO2.out.ext' ((show Ext w1 w2 from x2).trans x3), ?_, ?_, ⟨by omega, fun e => ?_, fun e => ?_⟩, (HX1.out.trans (show Ext w1 w2 from x2)).trans x3⟩
      · rw [hw3, hm, show w2.heap.size + 1 = (w2.alloc (.map #[] 0)).heap.size by rw [World.size_alloc]]; exact heap_alloc_new _ _
      · rw [hw3, hm]
        exact (MapIs.new w2 (fun v k a => by rw [List.take_zero]; exact rt_nil v k a)).keep ((Ext.refl _).alloc _) (fun f => f)
      · have s1 := HX1.out.size
        have s2 := x2.size
        rintro k (rfl | e | e | rfl)
        · omega
        · have := g1 k e; omega
        · exact HG2.out k e
        · omega
      · have := o1.lt m e; omega
      · have := HO2.out.lt m e; have := x2.size; omega
    have HNT := Lib.hid nt
    have s2 := x2.size
    clear nt x3 o1 g1 x2
    have hmk := @run_makeMap Tryz.prog
    go_wp2_with fail
    clear hmk
    rw [← hm, ← hw3]
    clear hw3 hm
    go_loopw [26] (fun iv wr => ∃ s : Nat, iv = .int .i64 s ∧ s ≤ bs.length ∧ NT w (m + 1) m og og2 (.slice ao1 bs.length cap1) (.slice ao2 bs.length cap2) bs (RT ((rowsL bs).take s)) wr) (fun iv _ => bs.length - (intOf iv).toNat)
    case atStart => exact ⟨0, rfl, Nat.zero_le _, HNT.out⟩
    case round =>
      obtain ⟨s, rfl, hs, hnt⟩ := hrel
      have HN := Lib.hid hnt
      clear hnt
      by_cases hlt : s < bs.length
      · have hlti : (s : Int) < (bs.length : Int) := by omega
        obtain ⟨b, o, rfl, _, hc⟩ := viewL_cells (HV2.out.ext HN.out.ext) (by rw [length_u8s]; omega)
        obtain ⟨n, hn⟩ : ∃ n, bs.getD s 0 = n := ⟨_, rfl⟩
        have c1 := hc s (.int .u8 n) (by rw [getElem?_u8s _ _ hlt, hn])
        have hn20 : n ≤ 20 := by
          rw [← hn, List.getD, List.getElem?_eq_getElem hlt]; exact HG.out.1 _ (List.getElem_mem _)
        have HRS := Lib.hid (rowsL_get bs s hlt)
        have hrl := length_rowOf bs s
        rw [hn] at hrl
        have HPF := Lib.hid (rows_pf HG.out)
        clear hc
        by_cases hn0 : n = 0
        · have hr0 : rowOf bs s = [] := List.eq_nil_of_length_eq_zero (by omega)
          have HSK := Lib.hid (rt_skip (rowsL bs) s (by rw [HRS.out, hr0]))
          subst hn0
          clear hr0
          go_wp2_with fail
          go_roundw
          case rel => exact ⟨s + 1, by go_num, by omega, HN.out.cong HSK.out⟩
          case measure => simp [intOf]; omega
        · have hni : ¬ (n : Int) = 0 := by omega
          have hnb : ((n : Int) == 0) = false := beq_eq_false_iff_ne.2 hni
          have hr0 : rowOf bs s ≠ [] := fun e => by rw [e] at hrl; simp at hrl; omega
          obtain ⟨X, hX⟩ : ∃ X, (wordsL bs).getD s 0 = X := ⟨_, rfl⟩
          have hX32 : X < 4294967296 := by
            have h1 := words_lt HG.out s hlt (by omega)
            rw [hX, hn] at h1
            have h2 : 2 ^ n ≤ 2 ^ 20 := Nat.pow_le_pow_right (by decide) hn20
            omega
          have HX := Lib.hid (show numOf true (rowOf bs s) = X by rw [num_row HG.out s hlt (by omega), hX])
          have cT0 : wr.cell? ⟨m + 1, 2, none⟩ = some (.map (some m)) := by simp [World.cell?, HN.out.tab]
          obtain ⟨wg, rfl, rfl⟩ : ∃ g, og2 = some g ∧ ao2 = some ⟨g, 0, none⟩ := by
            rcases HN.out.words.form with ⟨_, _, h1, _⟩ | ⟨g, cap, _, h1, h2, _⟩
            · omega
            · cases h2; exact ⟨g, h1, rfl⟩
          have cW := HN.out.words.cell s _ (getElem?_u32s _ s (by rw [length_wordsL]; exact hlt))
          rw [hX] at cW
          have HWX := Lib.hid hX
          clear hX
          go_wp2_with fail
          go_still_tail 11, (by kernel_rfl)
          clear cT0 cW c1
          obtain ⟨r, hrr⟩ : ∃ r, rowOf bs s = r := ⟨_, rfl⟩
          rw [hrr] at HRS hrl hr0 HX
          have hnd := HN.out.drew
          obtain ⟨w4, hrun, hmap, ht4⟩ := hnd.map.store (v := X) (k := n) hX32 (by omega) (s : Int) (fun a' ha' => by
            rw [← HX.out, ← hrl] at ha'
            exact (rt_free HPF.out HRS.out hr0 a' ha').elim)
          have HN4 := Lib.hid ((hnd.store hmap ht4).cong (R' := RN (rowsL bs) s 0) (fun v k a => by rw [← HX.out, ← hrl]; exact rn_zero (rowsL bs) s r HRS.out v k a))
          simp only [wk] at hrun
          have HTK := Lib.hid (show ∀ j, j ≤ n → numOf true (r.take j) = X / 2 ^ (n - j) from fun j hj => by
            rw [← hrr, num_take HG.out s j hlt (by omega) (by omega), hn, ← num_row HG.out s hlt (by omega), hrr, HX.out])
          clear hnd hmap ht4 hrr
          go_wp2_with fail
          clear hrun
          go_loopw [45] (fun jv wi => ∃ j : Nat, jv = .int .u8 j ∧ j ≤ n ∧ NT w (m + 1) m og (some wg) (.slice ao1 bs.length cap1) (.slice (some ⟨wg, 0, none⟩) bs.length cap2) bs (RN (rowsL bs) s j) wi) (fun jv _ => n - (intOf jv).toNat)
          case atStart => exact ⟨0, rfl, Nat.zero_le _, HN4.out⟩
          case round =>
            obtain ⟨j, rfl, hj, hnt⟩ := hrel
            have HI := Lib.hid hnt
            clear hnt
            by_cases hjn : j < n
            · have hji : (j : Int) < (n : Int) := by omega
              have cT0 : wr.cell? ⟨m + 1, 2, none⟩ = some (.map (some m)) := by simp [World.cell?, HI.out.tab]
              have cW := HI.out.words.cell s _ (getElem?_u32s _ s (by rw [length_wordsL]; exact hlt))
              rw [HWX.out] at cW
              obtain ⟨d, hd⟩ : ∃ d, d = n - j := ⟨_, rfl⟩
              have k1 : ((n : Int) - (j : Int)) % 256 = (d : Int) := by omega
              have k2 : (n : Int) - (j : Int) = (d : Int) := by omega
              have hd20 : d ≤ 20 := by omega
              have HD := Lib.hid hd
              clear hd
              go_wp2_with fail
              go_still_tail 14, (by kernel_rfl)
              clear cT0 cW k1 k2
              have hnd := HI.out.drew
              have hxd : X / 2 ^ d < 4294967296 := Nat.lt_of_le_of_lt (Nat.div_le_self _ _) hX32
              have htk : numOf true (r.take j) = X / 2 ^ d := by rw [HTK.out j hj, HD.out]
              obtain ⟨w5, hrun, hmap, ht5⟩ := hnd.map.store (v := X / 2 ^ d) (k := j) hxd (by omega) (-1) (fun a' ha' => by
                rw [← htk] at ha'
                exact rn_same HPF.out HRS.out (by omega) a' ha')
              have HN5 := Lib.hid ((hnd.store hmap ht5).cong (R' := RN (rowsL bs) s (j + 1)) (fun v k a => by rw [← htk]; exact rn_succ (rowsL bs) s j r HRS.out v k a))
              simp only [wk, ← div_part] at hrun
              have hm32 : min d 32 = d := by omega
              rw [← hm32] at hrun
              clear hm32
              clear hnd hmap ht5 htk
              have HRUN := Lib.hid hrun
              clear hrun
              go_wp2_with fail
              rw [HRUN.out]
              go_wp2_with fail
              go_roundw
              case rel => exact ⟨j + 1, by go_num, by omega, HN5.out⟩
              case measure => simp [intOf]; omega
            · obtain rfl : j = n := by omega
              have HE2 := Lib.hid (HI.out.cong (R' := RT ((rowsL bs).take (s + 1))) (fun v k a => by rw [← hrl]; exact rn_end (rowsL bs) s r HRS.out hr0 v k a))
              go_wp2_with fail
              go_roundw
              case rel => exact ⟨s + 1, by go_num, by omega, HE2.out⟩
              case measure => simp [intOf]; omega
      · obtain rfl : s = bs.length := by omega
        have HF := Lib.hid (show NT w (m + 1) m og og2 (.slice ao1 bs.length cap1) (.slice ao2 bs.length cap2) bs (RT (rowsL bs)) wr by have := HN.out; rwa [List.take_of_length_le (by rw [length_rowsL]; exact Nat.le_refl _)] at this)
        go_wp2_with fail
        go_ret2
        exact Or.inr ⟨HE.out, m + 1, og, og2, m, rfl, ⟨_, _, HF.out.tab, HF.out.lens, HF.out.words, HF.out.map⟩, HF.out.new, HF.out.ext⟩
end Go.Proofs.YtbbcphloafmldaaGreat
