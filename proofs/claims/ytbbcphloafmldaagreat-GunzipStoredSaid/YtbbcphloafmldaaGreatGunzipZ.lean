/- gunzip.Gunzip: its walk. -/
import Derived.Test.YtbbcphloafmldaaGreatGunAddZ
namespace Go.Proofs.YtbbcphloafmldaaGreat
open Go.RowKit Go.Shelf
set_option linter.unusedVariables false
attribute [local go_sem] Oper.semAt_some

theorem gk_two' : ∀ (pre : List GX) (s : List Nat × Nat), (pre.foldl gkS s).2 = s.2 - (fullsG pre).length ∧ (pre.foldl gkS s).1.length ≤ s.1.length
  | [], s => ⟨rfl, Nat.le_refl _⟩
  | x :: pre, s => by
    have h := gk_two' pre (gkS s x)
    refine ⟨?_, ?_⟩
    · rw [List.foldl_cons, h.1]
      show s.2 - x.full.length - _ = s.2 - (fullsG (x :: pre)).length
      simp only [fullsG, List.map_cons, List.flatten_cons, List.length_append]; omega
    · rw [List.foldl_cons]
      refine Nat.le_trans h.2 ?_
      show (List.drop _ _).length ≤ _
      rw [List.length_drop]; omega
theorem gk_two (g : List Nat) (keep : Nat) (pre : List GX) : (gkF g keep pre).2 = keep - (fullsG pre).length := (gk_two' pre (g, keep)).1
theorem gk_len (g : List Nat) (keep : Nat) (pre : List GX) : (gkF g keep pre).1.length ≤ g.length := (gk_two' pre (g, keep)).2
def gunW (w : World) (ga : Option Addr) (GL gc keep : Nat) : World := (((((w.alloc (.cells #[.slice none 0 0, .int .i64 0, .int .i64 0, .bool false] 24)).alloc (.cells #[.int .i64 0] 25)).alloc (.cells #[.slice none 0 0, .int .i64 0, .int .i64 0, .bool false] 24)).alloc (.cells #[.func (.func 12) #[] #[.pointer (some ⟨w.heap.size + 1 + 1, 0, none⟩)]] 41)).alloc (.cells #[.slice ga GL gc] 22)).alloc (.cells #[.int .i64 keep] 3)
structure GunB (w W : World) (P : Nat) (ga : Option Addr) (GL gc : Nat) : Prop where
  f : FB W P (.slice none 0 0) 0 0 false
  e : Boxed W (P + 1) 25 (.int .i64 0)
  fn : Boxed W (P + 1 + 1 + 1) 41 (.func (.func 12) #[] #[.pointer (some ⟨P + 1 + 1, 0, none⟩)])
theorem GunB.keep {S : Nat → Prop} {w W W' : World} {P : Nat} {ga : Option Addr} {GL gc : Nat} (h : GunB w W P ga GL gc) (ht : Touch S W W') (h1 : ¬ S P) (h2 : ¬ S (P + 1)) (h3 : ¬ S (P + 1 + 1 + 1)) : GunB w W' P ga GL gc := ⟨ht.keep h.f h1, ht.keep h.e h2, ht.keep h.fn h3⟩
theorem gunW_facts (w : World) (ga : Option Addr) (GL gc keep : Nat) : Ext w (gunW w ga GL gc keep) ∧ (gunW w ga GL gc keep).heap.size = w.heap.size + 6 ∧ GunB w (gunW w ga GL gc keep) w.heap.size ga GL gc ∧ FB (gunW w ga GL gc keep) (w.heap.size + 1 + 1) (.slice none 0 0) 0 0 false ∧ Boxed (gunW w ga GL gc keep) (w.heap.size + 1 + 1 + 1 + 1) 22 (.slice ga GL gc) ∧ Boxed (gunW w ga GL gc keep) (w.heap.size + 1 + 1 + 1 + 1 + 1) 3 (.int .i64 keep) := by
  unfold gunW
  have e1 := heap_alloc_new w (.cells #[.slice none 0 0, .int .i64 0, .int .i64 0, .bool false] 24)
  generalize h1 : w.alloc (.cells #[.slice none 0 0, .int .i64 0, .int .i64 0, .bool false] 24) = w1 at *
  have z1 : w1.heap.size = w.heap.size + 1 := by rw [← h1]; simp
  have x1 : Ext w w1 := by rw [← h1]; exact (Ext.refl _).alloc _
  have e2 := heap_alloc_new w1 (.cells #[.int .i64 0] 25)
  generalize h2 : w1.alloc (.cells #[.int .i64 0] 25) = w2 at *
  have z2 : w2.heap.size = w.heap.size + 1 + 1 := by rw [← h2, World.size_alloc, z1]
  have x2 : Ext w1 w2 := by rw [← h2]; exact (Ext.refl _).alloc _
  have e3 := heap_alloc_new w2 (.cells #[.slice none 0 0, .int .i64 0, .int .i64 0, .bool false] 24)
  generalize h3 : w2.alloc (.cells #[.slice none 0 0, .int .i64 0, .int .i64 0, .bool false] 24) = w3 at *
  have z3 : w3.heap.size = w.heap.size + 1 + 1 + 1 := by rw [← h3, World.size_alloc, z2]
  have x3 : Ext w2 w3 := by rw [← h3]; exact (Ext.refl _).alloc _
  have e4 := heap_alloc_new w3 (.cells #[.func (.func 12) #[] #[.pointer (some ⟨w.heap.size + 1 + 1, 0, none⟩)]] 41)
  generalize h4 : w3.alloc (.cells #[.func (.func 12) #[] #[.pointer (some ⟨w.heap.size + 1 + 1, 0, none⟩)]] 41) = w4 at *
  have z4 : w4.heap.size = w.heap.size + 1 + 1 + 1 + 1 := by rw [← h4, World.size_alloc, z3]
  have x4 : Ext w3 w4 := by rw [← h4]; exact (Ext.refl _).alloc _
  have e5 := heap_alloc_new w4 (.cells #[.slice ga GL gc] 22)
  generalize h5 : w4.alloc (.cells #[.slice ga GL gc] 22) = w5 at *
  have z5 : w5.heap.size = w.heap.size + 1 + 1 + 1 + 1 + 1 := by rw [← h5, World.size_alloc, z4]
  have x5 : Ext w4 w5 := by rw [← h5]; exact (Ext.refl _).alloc _
  have e6 := heap_alloc_new w5 (.cells #[.int .i64 keep] 3)
  generalize h6 : w5.alloc (.cells #[.int .i64 keep] 3) = w6 at *
  have z6 : w6.heap.size = w.heap.size + 6 := by rw [← h6, World.size_alloc, z5]
  have x6 : Ext w5 w6 := by rw [← h6]; exact (Ext.refl _).alloc _
  rw [z1] at e2
  rw [z2] at e3
  rw [z3] at e4
  rw [z4] at e5
  rw [z5] at e6
  have y5 := x5.trans x6
  have y4 := x4.trans y5
  have y3 := x3.trans y4
  have y2 := x2.trans y3
  exact ⟨x1.trans y2, z6, ⟨y2.keep e1 (fun f => f), y3.keep e2 (fun f => f), y5.keep e4 (fun f => f)⟩, y4.keep e3 (fun f => f), x6.keep e5 (fun f => f), e6⟩
/-- what Gunzip answers. -/
def GunR (w : World) (g : List Nat) (keep : Nat) (r : Option (List Nat × Bool)) (e : Ending) (w' : World) : Prop :=
  (∃ F wr ov oo, r = some (F, wr) ∧ e = .returned (.tuple #[.agg #[ov, .int .i64 F.length, .int .i64 g.length, .bool wr], .int .i64 0]) ∧ Owns w' 5 1 ov oo (F.take keep).length (u8s (F.take keep)) ∧ (∀ k, oo = some k → w.heap.size ≤ k) ∧ Ext w w') ∨
  (r = none ∧ e = .returned (.tuple #[.agg #[.slice none 0 0, .int .i64 0, .int .i64 0, .bool false], .int .i64 2]) ∧ Ext w w')
/-- what holds between the rounds. -/
def GunI (w wz : World) (ga : Option Addr) (GL gc : Nat) (g : List Nat) (keep : Nat) (r : Option (List Nat × Bool)) (pre : List GX) (W : World) : Prop :=
  ChG r g keep pre ∧ (fullsG pre).length ≤ 2 ^ 29 * pre.length ∧ pre.length + (gkF g keep pre).1.length ≤ g.length ∧ GunB w W w.heap.size ga GL gc ∧ (∃ av oa, FB W (w.heap.size + 1 + 1) av ((fullsG pre).length : Nat) ((g.length - (gkF g keep pre).1.length : Nat)) (wrsG pre) ∧ Owns W 5 1 av oa ((fullsG pre).take keep).length (u8s ((fullsG pre).take keep)) ∧ ∀ k, oa = some k → wz.heap.size ≤ k) ∧ Touch (fun k => k = w.heap.size + 1 + 1 ∨ k = w.heap.size + 1 + 1 + 1 + 1 ∨ k = w.heap.size + 1 + 1 + 1 + 1 + 1) wz W
/-- what holds when the loop was left. -/
def GunX (w wz : World) (r : Option (List Nat × Bool)) (c : Code) (pre : List GX) (W : World) : Prop :=
  c = .ret ∧ r = none ∧ FB W w.heap.size (.slice none 0 0) 0 0 false ∧ Boxed W (w.heap.size + 1) 25 (.int .i64 2) ∧ Touch (fun k => w.heap.size ≤ k ∧ k < wz.heap.size) wz W
theorem FB.isCells {W : World} {k : Nat} {v : Value} {a b : Int} {c : Bool} (h : FB W k v a b c) {o : Obj} (ho : W.heap[k]? = some o) : o.isCells = true := by
  have h' : W.heap[k]? = _ := h
  rw [h'] at ho; cases ho; rfl
theorem Boxed.isCells3 {W : World} {k : Nat} {T : TypeId} {v : Value} (h : Boxed W k T v) {o : Obj} (ho : W.heap[k]? = some o) : o.isCells = true := by
  have h' : W.heap[k]? = _ := h
  rw [h'] at ho; cases ho; rfl
set_option maxRecDepth 100000 in
theorem gun_ret {R : Ending → World → Prop} {W : World} {P D : Nat} {v : Value} {a b x : Int} {c : Bool} {tmps : Array Value} (t4 : tmps[4]? = some (.pointer (some ⟨P, 0, none⟩))) (t5 : tmps[5]? = some (.pointer (some ⟨P + 1, 0, none⟩)))
    (hb : FB W P v a b c) (he : Boxed W (P + 1) 25 (.int .i64 x)) (hD : P + 1 < D) (hK : W.heap[D]? = some (.deferred (some [])))
    (hR : R (.returned (.tuple #[.agg #[v, .int .i64 a, .int .i64 b, .bool c], .int .i64 x])) (W.putObj D (.deferred none))) :
    bodyPostM Fence.wide 9 Tryz.prog Tryz.f6 R Exit.ret { tmps := tmps, defers := [{ target := .collected D, args := #[] }] } W := by
  refine ⟨by simp, .inl ⟨_, _, rfl, run_takeDeferred hK, ?_⟩⟩
  have hp := grownBy_putObj' W D (.deferred Option.none)
  have hb6 : FB (W.putObj D (.deferred Option.none)) P v a b c := (World.putObj_heap_other (by omega)).trans hb
  have he6 : Boxed (W.putObj D (.deferred Option.none)) (P + 1) 25 (.int .i64 x) := (World.putObj_heap_other (by omega)).trans he
  obtain ⟨⟨c0, c1, c2, c3⟩, _⟩ := hb6.cells
  have c5 := he6.cell
  refine ⟨.tuple #[.agg #[v, .int .i64 a, .int .i64 b, .bool c], .int .i64 x], ?_, hR⟩
  simp only [results, show Tryz.f6.results = #[.cell 4 24, .cell 5 25] from by kernel_rfl]
  simp [go_sem, t4, t5, c0, c1, c2, c3, c5]
theorem gun_nums {pre : List GX} {g full : List Nat} {keep u : Nat} {wr : Bool} (hl : g.length ≤ 2 ^ 16) (h1 : (fullsG pre).length ≤ 2 ^ 29 * pre.length) (h2 : pre.length + (gkF g keep pre).1.length ≤ g.length) (hm : memF (gkF g keep pre).1 (gkF g keep pre).2 = some (full, u, wr)) :
    ((fullsG pre).length ≤ 2 ^ 45 ∧ g.length - (gkF g keep pre).1.length ≤ 2 ^ 45 ∧ full.length ≤ 2 ^ 45 ∧ u ≤ 2 ^ 45 ∧ ((fullsG pre).take keep).length + (full.take (gkF g keep pre).2).length ≤ 2 ^ 45) ∧ (0 < u ∧ u ≤ (gkF g keep pre).1.length) ∧ full.length ≤ 2 ^ 29 ∧ (gkF g keep pre).1.length ≤ g.length := by
  have f1 := memF_len hm
  have f2 := memF_fit hm
  have f3 := gk_len g keep pre
  have f4 : ((fullsG pre).take keep).length ≤ (fullsG pre).length := by rw [List.length_take]; omega
  have f5 : (full.take (gkF g keep pre).2).length ≤ full.length := by rw [List.length_take]; omega
  refine ⟨⟨?_, ?_, ?_, ?_, ?_⟩, f2, ?_, f3⟩ <;> omega
theorem owns_type {w : World} {e T : TypeId} {v : Value} {og : Option Nat} {n k : Nat} {xs : List Value} {cur : Array Value} {fz : Nat × Nat} (h : Owns w e 1 v og n xs) (e1 : og = some k) (hk : w.heap[k]? = some (.cells cur T fz)) : T = e := by
  rcases h.form with ⟨h, _⟩ | ⟨g, cap, cur, h4, _, h5, _⟩
  · rw [h] at e1; cases e1
  · rw [h4] at e1; cases e1
    rw [h5] at hk; cases hk; rfl
set_option maxRecDepth 100000 in
set_option maxHeartbeats 4000000 in
theorem gunzip (v : Value) (g : List Nat) (keep : Nat) (w : World) (hv : ViewL w v (u8s g)) (hl : g.length ≤ 2 ^ 16) (hb : ∀ b ∈ g, b < 256) (hk : keep ≤ 2 ^ 62) :
    Calls Tryz.prog 6 #[v, .int .i64 keep] w (GunR w g keep (gunF g keep)) := by
  obtain ⟨r, hr⟩ : ∃ r, r = gunF g keep := ⟨_, rfl⟩
  rw [← hr]
  have hvb : ∀ b o n c, v = .slice (some ⟨b, o, none⟩) n c → 0 < g.length → b < w.heap.size := fun b o n c e h0 => by
    obtain ⟨ao', cap', e', _, _, h3⟩ := hv
    obtain ⟨b', o', rfl, hc⟩ := h3 (by rwa [length_u8s])
    rw [e] at e'
    cases e'
    exact World.block_lt_of_cell? _ _ (hc 0 _ (by rw [getElem?_u8s _ _ h0]))
  obtain ⟨b0, hb0⟩ : ∃ b0, b0 ≤ w.heap.size ∧ ∀ b o n c, v = .slice (some ⟨b, o, none⟩) n c → 0 < g.length → b = b0 := by
    obtain ⟨ao, cap, rfl⟩ := hv.shape
    rcases Nat.eq_zero_or_pos g.length with h0 | h0
    · exact ⟨w.heap.size, Nat.le_refl _, fun b o n c _ h => by omega⟩
    · obtain ⟨b, o, rfl, _⟩ := rep_cells hv (by rwa [length_u8s])
      exact ⟨b, Nat.le_of_lt (hvb _ _ _ _ rfl h0), fun b2 o2 n c e _ => by cases e; rfl⟩
  obtain ⟨ga, gc, rfl⟩ := hv.shape
  rw [length_u8s] at *
  obtain ⟨GL, hGL⟩ : ∃ GL, GL = g.length := ⟨_, rfl⟩
  rw [← hGL] at hv hvb hb0 ⊢
  have HV := Lib.hid (show ViewL w (.slice ga GL gc) (u8s g) ∧ g.length ≤ 2 ^ 16 ∧ (∀ b ∈ g, b < 256) ∧ keep ≤ 2 ^ 62 ∧ GL = g.length ∧ r = gunF g keep from ⟨hv, hl, hb, hk, hGL, hr⟩)
  have HVB := Lib.hid (And.intro hvb hb0)
  have hkz : ¬ (keep : Int) < 0 := by omega
  clear hv hl hb hk hGL hr hvb hb0
  refine (callsIn_wide (n := 9)).1 ?_
  refine callsIn_of_wp_marks Tryz.func6 rfl trivial ?_ rfl
  simp only [Tryz.ntmps6, List.size_toArray, List.length_cons, List.length_nil, Nat.reduceAdd, Nat.reduceSub, Array.replicate_succ, Array.replicate_zero, List.push_toArray, List.append_toArray, List.nil_append, List.cons_append]
  gi_wp2_with fail
  refine ⟨trivial, (callsIn_wide.2 (gun_members ga GL gc keep _)).mono ?_⟩
  rintro e wz ⟨rfl, hwz⟩
  have hwz2 : wz = gunW w ga GL gc keep := hwz
  have hF := gunW_facts w ga GL gc keep
  rw [← hwz2] at hF
  have HZ := Lib.hid hF
  clear hwz2 hF
  have hwz3 := hwz.symm
  clear hwz
  gi_wp2_with fail
  clear hwz3
  obtain ⟨A, hA⟩ : ∃ A, A = w.heap.size + 1 + 1 := ⟨_, rfl⟩
  have hrow : ∀ (X : World) (row : Option Nat), (∀ r, row = some r → (r = w.heap.size + 1 + 1 + 1 + 1 ∨ r = w.heap.size + 1 + 1 + 1 + 1 + 1) ∨ (wz.heap.size ≤ r ∧ ∃ o : Obj, X.heap[r]? = some o ∧ o.isCells = false)) → ∀ (k : Nat) (o : Obj), X.heap[k]? = some o → o.isCells = true → k ≠ w.heap.size + 1 + 1 + 1 + 1 → k ≠ w.heap.size + 1 + 1 + 1 + 1 + 1 → ¬ row = some k := fun X row hr k o ho hc h1 h2 e => by
    rcases hr k e with (h | h) | ⟨_, o2, ho2, hc2⟩
    · exact h1 h
    · exact h2 h
    · rw [ho] at ho2; cases ho2; rw [hc] at hc2; cases hc2
  have HROW := Lib.hid hrow
  refine' wpIn_range_W (T := fun k => k = w.heap.size + 1 + 1 + 1 + 1 ∨ k = w.heap.size + 1 + 1 + 1 + 1 + 1) (gf := 22) (lb := #[.pointer (some ⟨w.heap.size + 1 + 1 + 1 + 1, 0, none⟩), .pointer (some ⟨w.heap.size + 1 + 1 + 1 + 1 + 1, 0, none⟩)]) rfl (by decide) rfl trivial (enters_of Tryz.func22 (by kernel_rfl) rfl) (fun k e => by have := HZ.out.2.1; omega)
    (members_seq 8 (by decide) b0 (w.heap.size + 1 + 1) (w.heap.size + 1 + 1 + 1 + 1) (w.heap.size + 1 + 1 + 1 + 1 + 1) g keep (Nat.le_trans HV.out.2.1 (by decide)) HV.out.2.2.1 HV.out.2.2.2.1 (by have := HVB.out.2.1; omega) wz wz.heap.size ⟨Nat.le_refl _, by have := HZ.out.2.1; omega⟩ (.slice ga GL gc) HZ.out.2.2.2.2.1 HZ.out.2.2.2.2.2 ⟨HV.out.1.ext HZ.out.1, fun b o n c e h0 => HVB.out.2.2 b o n c e (by have := HV.out.2.2.2.2.1; omega)⟩ (fun b o n c e h0 => by have := HVB.out.1 b o n c e (by have := HV.out.2.2.2.2.1; omega); have := HZ.out.2.1; omega))
    kpM_t (kpM_b (w := wz)) (Below.refl _ _) (fun _ => rfl) ?nb (fun pre W => GunI w wz ga GL gc g keep r pre W) (fun c pre W => GunX w wz r c pre W) ?own ?ownx ?start
    (fun x a' W => ∃ F, a' = { tmps := #[.slice ga GL gc, .int .i64 keep, undef, undef, .pointer (some ⟨w.heap.size, 0, none⟩), .pointer (some ⟨w.heap.size + 1, 0, none⟩), .pointer (some ⟨w.heap.size + 1 + 1, 0, none⟩), .pointer (some ⟨w.heap.size + 1 + 1 + 1, 0, none⟩), .pointer (some ⟨F, 0, none⟩), .int .i64 (x.e : Nat), .int .i64 keep, .bool false, undef, .func (.func 12) #[] #[.pointer (some ⟨w.heap.size + 1 + 1, 0, none⟩)], .slice ga GL gc, .int .i64 keep, .func (.func 22) #[] #[.pointer (some ⟨w.heap.size + 1 + 1 + 1 + 1, 0, none⟩), .pointer (some ⟨w.heap.size + 1 + 1 + 1 + 1 + 1, 0, none⟩)], .agg #[x.ov, .int .i64 (x.full.length : Nat), .int .i64 (x.u : Nat), .bool x.wr], .int .i64 (x.e : Nat), undef, undef, undef, undef, undef, undef, undef, undef], defers := [] } ∧ FB W F x.ov (x.full.length : Nat) (x.u : Nat) x.wr ∧ wz.heap.size ≤ F)
    ?ne ?ke ?ab ?assign ?body ?done ?stop
  case nb =>
    rintro pre x W l o o' ⟨h1, h2, oo, h3, h4⟩ hl ho hc
    refine ⟨h1, h2, oo, h3.keep ((Touch.refl (fun k => k = l) W).grown (grownBy_putObj' W l o') (fun k e => Or.inl (by cases e; rfl))) (fun k e e2 => ?_), h4⟩
    have := h3.isCellsT e (show W.heap[k]? = some o by rw [e2]; exact ho)
    rw [this] at hc; cases hc
  case own =>
    rintro pre X Y row ⟨h1, h2, h2b, h3, ⟨av, oa, h4, h5, h6⟩, h7⟩ hg hr
    have ht : Touch (fun k => row = some k) X Y := (Touch.refl _ X).grown hg (fun k e => Or.inl e)
    refine ⟨h1, h2, h2b, h3.keep ht (HROW.out _ _ hr _ _ h3.f rfl (by omega) (by omega)) (HROW.out _ _ hr _ _ h3.e rfl (by omega) (by omega)) (HROW.out _ _ hr _ _ h3.fn rfl (by omega) (by omega)), ⟨av, oa, h4.keep ht (HROW.out _ _ hr _ _ h4 rfl (by omega) (by omega)), h5.keep ht (fun k e => ?_), h6⟩, h7.grown hg (fun k e => ?_)⟩
    · obtain ⟨o, ho⟩ : ∃ o, X.heap[k]? = some o := ⟨_, Array.getElem?_eq_getElem (h5.lt k e)⟩
      exact HROW.out _ _ hr k o ho (h5.isCellsT e ho) (by have := h6 k e; have := HZ.out.2.1; omega) (by have := h6 k e; have := HZ.out.2.1; omega)
    · rcases hr k e with h | ⟨h, _⟩
      · exact Or.inl (Or.inr h)
      · exact Or.inr h
  case ownx =>
    rintro c pre X Y row ⟨h1, h2, h3, h4, h5⟩ hg hr
    have ht : Touch (fun k => row = some k) X Y := (Touch.refl _ X).grown hg (fun k e => Or.inl e)
    refine ⟨h1, h2, h3.keep ht (HROW.out _ _ hr _ _ h3 rfl (by omega) (by omega)), ht.keep h4 (HROW.out _ _ hr _ _ h4 rfl (by omega) (by omega)), h5.grown hg (fun k e => ?_)⟩
    rcases hr k e with h | ⟨h, _⟩
    · exact Or.inl (by have := HZ.out.2.1; rcases h with h | h <;> omega)
    · exact Or.inr h
  case start =>
    refine ⟨chG_nil HV.out.2.2.2.2.2, by simp [fullsG], by simp [gkF], HZ.out.2.2.1, ⟨.slice none 0 0, none, ?_, ?_, fun k e => by cases e⟩, Touch.refl _ _⟩
    · simpa [fullsG, wrsG, gkF] using HZ.out.2.2.2.1
    · simpa [fullsG, u8s] using Owns.nil wz 5 1
  case ne =>
    rintro pre x W W' ⟨h1, h2, oo, h3, h4⟩ hg
    exact ⟨h1, h2, oo, h3.keep ((Touch.refl (fun _ => False) W).grown hg (fun k e => by cases e)) (fun _ _ f => f), h4⟩
  case ke =>
    intro W W' hg
    have ht : Ext W W' := (Touch.refl (fun _ => False) W).grown hg (fun k e => by cases e)
    exact ⟨fun k cur T fz h1 _ _ => ht.keep h1 (fun f => f), fun o u h => cell_touch ht h (fun f => f)⟩
  case ab =>
    rintro x a' W l o o' ⟨F, h1, h2, h3⟩ hl ho hc
    refine ⟨F, h1, h2.keep ((Touch.refl (fun k => k = l) W).grown (grownBy_putObj' W l o') (fun k e => Or.inl (by cases e; rfl))) (fun e => ?_), h3⟩
    have := h2.isCells (show W.heap[F]? = some o by rw [e]; exact ho)
    rw [this] at hc; cases hc
  case assign =>
    intro l pre x W K hI hN hK
    obtain ⟨_, _, oo, hox, _⟩ := hN
    obtain ⟨_, _, _, _, _, hT⟩ := hI
    have HT := Lib.hid hT
    obtain ⟨xa, xc, hxs⟩ := hox.shape
    obtain ⟨ov, full, u, wr, e⟩ := x
    simp only at hxs hox ⊢
    obtain ⟨M, hM⟩ : ∃ M, M = (full.take (gkF g keep pre).2).length := ⟨_, rfl⟩
    obtain ⟨FL, hFL⟩ : ∃ FL, FL = full.length := ⟨_, rfl⟩
    rw [← hM] at hxs
    subst hxs
    have HKK := Lib.hid hK
    simp only [encG]
    rw [← hFL]
    have HFL := Lib.hid hFL
    clear hox hK hT hM hFL
    gi_wp2
    refine HKK.out _ (W.alloc (.cells #[.slice xa M xc, .int .i64 FL, .int .i64 (u : Nat), .bool wr] 24)) (World.grownBy_alloc W _ none) ⟨W.heap.size, ?_, ?_, HT.out.size⟩
    · simp only [HFL.out]
    · rw [← HFL.out]; exact FB.new _ _ _ _ _
  case body =>
    rintro l pre x a' W hI hlen ⟨hgx, hgn, oo, hox, hoo⟩ ⟨F, rfl, hF, hFz⟩
    obtain ⟨ov, full, u, wr, e⟩ := x
    simp only at hgx hox hF hoo ⊢
    obtain ⟨hch, hi2, hi3, hgb, ⟨av, oa, hfa, hoa, hol⟩, hT⟩ := hI
    obtain ⟨⟨d0, d1, d2, d3⟩, fd⟩ := hgb.f.cells
    obtain ⟨⟨c0, c1, c2, c3⟩, _⟩ := hF.cells
    have ce := hgb.e.cell
    have fe := hgb.e.frozen
    have cfn := hgb.fn.cell
    have f0 := fd 0
    have f1 := fd 1
    have f2 := fd 2
    have f3 := fd 3
    rcases hgx with ⟨he, hm⟩ | ⟨he, hm, hfu, hu, hw⟩
    · simp only at he hm
      subst he
      have HM := Lib.hid (And.intro hm (And.intro hgn (And.intro hox (And.intro hoo hF))))
      have HALL := Lib.hid (And.intro hch (And.intro hi2 (And.intro hi3 (And.intro hgb (And.intro hfa (And.intro hoa (And.intro hol hT)))))))
      clear hch hi2 hi3 hgb hfa hoa hol hT fd hm hgn hox hoo hF
      gi_wp2
      have hnums := gun_nums (pre := pre) (g := g) (keep := keep) HV.out.2.1 HALL.out.2.1 HALL.out.2.2.1 HM.out.1
      have hAoa : oa ≠ some (w.heap.size + 1 + 1) := fun e => by have := HALL.out.2.2.2.2.2.2.1 _ e; have := HZ.out.2.1; omega
      have hadd := gun_add (w.heap.size + 1 + 1) av ov oa ((fullsG pre).take keep) (full.take (gkF g keep pre).2) (fullsG pre).length (g.length - (gkF g keep pre).1.length) full.length u (wrsG pre) wr W HALL.out.2.2.2.2.1 HALL.out.2.2.2.2.2.1 HM.out.2.2.1.viewL hAoa hnums.1
      refine ⟨trivial, (CallsIn.inRound l (callsIn_wide.2 hadd)).mono ?_⟩
      clear hadd hnums hAoa
      rintro e2 w3 ⟨rfl, av', oa', hfb, how, hnear, hne, ht⟩
      have HP := Lib.hid (And.intro hfb (And.intro how (And.intro hnear (And.intro hne ht))))
      clear hfb how hnear hne ht
      gi_wp2_with fail
      obtain ⟨hfb, how, hnear, hne, ht⟩ := HP.out
      obtain ⟨hch, hi2, hi3, hgb, hfa, hoa, hol, hT⟩ := HALL.out
      obtain ⟨hm, hgn, hox, hoo, hF⟩ := HM.out
      have hz := HZ.out.2.1
      have hn := gun_nums (pre := pre) (g := g) (keep := keep) HV.out.2.1 hi2 hi3 hm
      have htk : (fullsG (pre ++ [(⟨ov, full, u, wr, 0⟩ : GX)])).take keep = (fullsG pre).take keep ++ full.take (gkF g keep pre).2 := by
        rw [fullsG_snoc, List.take_append, gk_two]
      have hlow : ∀ k, (k = w.heap.size + 1 + 1 ∨ oa = some k) → k ≠ w.heap.size ∧ k ≠ w.heap.size + 1 ∧ k ≠ w.heap.size + 1 + 1 + 1 ∧ k ≠ w.heap.size + 1 + 1 + 1 + 1 ∧ k ≠ w.heap.size + 1 + 1 + 1 + 1 + 1 ∧ w.heap.size ≤ k := fun k h => by
        rcases h with h | h
        · omega
        · have := hol k h; omega
      refine ⟨ht.keepsFrom' (fun k o h ho => ?_) _, ⟨fun k cur T fz hk hT8 hkA => ht.keep hk (fun h => ?_), fun o x h => cell_touch ht h (fun hh => ?_)⟩, chG_snoc hch hgn (Or.inl ⟨rfl, hm⟩) rfl, ?_, ?_, hgb.keep ht (fun h => (hlow _ h).1 rfl) (fun h => (hlow _ h).2.1 rfl) (fun h => (hlow _ h).2.2.1 rfl), ⟨av', oa', ?_, ?_, fun k e => ?_⟩, hT.trans ht (fun k hk h => ?_)⟩
      · rcases h with rfl | h
        · exact hfa.isCells ho
        · exact hoa.isCellsT h ho
      · rcases h with h | h
        · exact hkA h
        · exact hT8 (owns_type hoa h hk)
      · have := (hlow _ hh).2.2.2.2.2
        have h2 := HVB.out.2.1
        rcases hh with hh | hh
        · simp only at hh; omega
        · have := hol _ hh; simp only at this; omega
      · rw [fullsG_snoc, List.length_append, List.length_append, List.length_singleton]; dsimp only; have := hn.2.2.1; omega
      · rw [gk_snoc, List.length_append, List.length_singleton, List.length_drop]; dsimp only; have := hn.2.1; have := hn.2.2.2; omega
      · rw [fullsG_snoc, wrsG_snoc, gk_snoc, List.length_append, List.length_drop, show g.length - ((gkF g keep pre).1.length - u) = g.length - (gkF g keep pre).1.length + u by have := hn.2.1; have := hn.2.2.2; omega]
        exact hfb
      · rw [htk]; exact how
      · rcases hnear with h | ⟨q, h, hq⟩
        · exact hol k (by rw [← h, e])
        · rw [e] at h; cases h; exact Nat.le_trans hT.size hq
      · rcases h with h | h
        · exact Or.inl h
        · have := hol k h; omega
    · simp only at he hm hfu hu hw
      subst he hfu hu hw
      have HM := Lib.hid (And.intro hm (And.intro hgn (And.intro hox (And.intro hoo hF))))
      have HALL := Lib.hid (And.intro hch (And.intro hi2 (And.intro hi3 (And.intro hgb (And.intro hfa (And.intro hoa (And.intro hol hT)))))))
      clear hch hi2 hi3 hgb hfa hoa hol hT fd hm hgn hox hoo hF
      gi_wp2
      obtain ⟨hch, hi2, hi3, hgb, hfa, hoa, hol, hT⟩ := HALL.out
      obtain ⟨hm, hgn, hox, hoo, hF⟩ := HM.out
      have hz := HZ.out.2.1
      have hs := hgb.f.set (.slice none 0 0) 0 0 false
      obtain ⟨W4, hW4⟩ : ∃ W4, W4 = (((W.setCell ⟨w.heap.size, 0, none⟩ (.slice none 0 0)).setCell ⟨w.heap.size, 1, none⟩ (.int .i64 0)).setCell ⟨w.heap.size, 2, none⟩ (.int .i64 0)).setCell ⟨w.heap.size, 3, none⟩ (.bool false) := ⟨_, rfl⟩
      rw [← hW4] at hs ⊢
      have he4 := hs.2.keep hgb.e (by omega)
      have ht5 : Touch (fun k => k = w.heap.size + 1) W4 (W4.setCell ⟨w.heap.size + 1, 0, none⟩ (.int .i64 2)) := (Touch.refl (fun k => k = w.heap.size + 1) W4).setCell (Or.inl rfl) _
      have he5 : Boxed (W4.setCell ⟨w.heap.size + 1, 0, none⟩ (.int .i64 2)) (w.heap.size + 1) 25 (.int .i64 2) := Boxed.set _ he4
      obtain ⟨W5, hW5⟩ : ∃ W5, W5 = W4.setCell ⟨w.heap.size + 1, 0, none⟩ (.int .i64 2) := ⟨_, rfl⟩
      rw [← hW5] at ht5 he5 ⊢
      have hf5 := hs.1.keep ht5 (by omega)
      have htt : Touch (fun k => k = w.heap.size ∨ k = w.heap.size + 1) W W5 := Touch.trans (S := fun k => k = w.heap.size ∨ k = w.heap.size + 1) ((Touch.refl _ W).trans hs.2 (fun k _ h => Or.inl h)) ht5 (fun k _ h => Or.inr h)
      refine ⟨htt.keepsFrom' (fun k o h ho => ?_) _, rfl, chG_bad (x := ⟨ov, [], 0, false, 2⟩) hch hgn (Or.inr ⟨rfl, hm, rfl, rfl, rfl⟩) (show (2 : Nat) ≠ 0 from by decide), hf5, he5, (hT.mono (fun k _ h => ?_)).trans htt (fun k _ h => ?_)⟩
      · rcases h with rfl | rfl
        · exact hgb.f.isCells ho
        · exact Boxed.isCells3 hgb.e ho
      · omega
      · omega
  case done =>
    intro D ys W hD hS hI hDh
    obtain ⟨h1, h2, h2b, h3, ⟨av, oa, h4, h5, h6⟩, h7⟩ := hI
    obtain ⟨avb, avc, eav⟩ := h5.shape
    obtain ⟨M, hM⟩ : ∃ M, M = ((fullsG ys).take keep).length := ⟨_, rfl⟩
    obtain ⟨S0, hS0⟩ : ∃ S0, S0 = (fullsG ys).length := ⟨_, rfl⟩
    obtain ⟨U0, hU0⟩ : ∃ U0, U0 = g.length - (gkF g keep ys).1.length := ⟨_, rfl⟩
    obtain ⟨b3, hb3⟩ : ∃ b3, b3 = wrsG ys := ⟨_, rfl⟩
    rw [← hM] at eav h5
    rw [← hS0, ← hU0, ← hb3] at h4
    subst eav
    have HN := Lib.hid (And.intro hM (And.intro hS0 (And.intro hU0 hb3)))
    clear hM hS0 hU0 hb3
    obtain ⟨⟨c0, c1, c2, c3⟩, fr⟩ := h4.cells
    obtain ⟨⟨d0, d1, d2, d3⟩, fd⟩ := h3.f.cells
    have ce := h3.e.cell
    have fe := h3.e.frozen
    have f0 := fd 0
    have f1 := fd 1
    have f2 := fd 2
    have f3 := fd 3
    have HALL := Lib.hid (And.intro hS (And.intro h1 (And.intro h3 (And.intro h4 (And.intro h5 (And.intro h6 (And.intro h7 hDh)))))))
    clear hS h1 h2 h2b h3 h4 h5 h6 h7 hDh fr fd
    gi_wp2
    obtain ⟨⟨pre, x, hpx, hend⟩, hch, h3, h4, h5, h6, h7, hDh⟩ := HALL.out
    have he0 : (gkF g keep ys).1 = [] := by
      rcases hend with h | h
      · exact absurd (hch.1 x (by rw [hpx]; simp)) h
      · exact h
    have hr := hch.2.1 ⟨by rw [hpx]; simp, he0⟩
    have hU : U0 = g.length := by rw [HN.out.2.2.1, he0]; simp
    have hz := HZ.out.2.1
    have hs := h3.f.set (.slice avb M avc) (S0 : Nat) (U0 : Nat) b3
    obtain ⟨W4, hW4⟩ : ∃ W4, W4 = (((W.setCell ⟨w.heap.size, 0, none⟩ (.slice avb M avc)).setCell ⟨w.heap.size, 1, none⟩ (.int .i64 (S0 : Nat))).setCell ⟨w.heap.size, 2, none⟩ (.int .i64 (U0 : Nat))).setCell ⟨w.heap.size, 3, none⟩ (.bool b3) := ⟨_, rfl⟩
    rw [← hW4] at hs ⊢
    have he4 := hs.2.keep h3.e (by omega)
    have ht5 : Touch (fun k => k = w.heap.size + 1) W4 (W4.setCell ⟨w.heap.size + 1, 0, none⟩ (.int .i64 0)) := (Touch.refl (fun k => k = w.heap.size + 1) W4).setCell (Or.inl rfl) _
    have he5 : Boxed (W4.setCell ⟨w.heap.size + 1, 0, none⟩ (.int .i64 0)) (w.heap.size + 1) 25 (.int .i64 0) := Boxed.set _ he4
    obtain ⟨W5, hW5⟩ : ∃ W5, W5 = W4.setCell ⟨w.heap.size + 1, 0, none⟩ (.int .i64 0) := ⟨_, rfl⟩
    rw [← hW5] at ht5 he5 ⊢
    have hf5 := hs.1.keep ht5 (by omega)
    have htt : Touch (fun k => k = w.heap.size ∨ k = w.heap.size + 1) W W5 := Touch.trans (S := fun k => k = w.heap.size ∨ k = w.heap.size + 1) ((Touch.refl _ W).trans hs.2 (fun k _ h => Or.inl h)) ht5 (fun k _ h => Or.inr h)
    have hD5 := htt.keep hDh (by omega)
    have hall := Touch.trans (S := fun _ => False) (Touch.trans (S := fun _ => False) HZ.out.1 h7 (fun k hk e => by omega)) htt (fun k hk e => by omega)
    have hp := grownBy_putObj' W5 D (.deferred Option.none)
    have ht6 : Touch (fun k => k = D) W5 (W5.putObj D (.deferred Option.none)) := (Touch.refl _ W5).grown hp (fun k e => by cases e; exact Or.inl rfl)
    have ho5 := h5.keep htt (fun k e f => by have := h6 k e; omega)
    refine gun_ret rfl rfl hf5 he5 (by omega) hD5 (Or.inl ⟨fullsG ys, wrsG ys, .slice avb M avc, oa, hr, ?_, ?_, fun k e => by have := h6 k e; omega, hall.grown hp (fun k e => Or.inr (by cases e; omega))⟩)
    · rw [HN.out.2.1, hU, HN.out.2.2.2]
    · rw [← HN.out.1]
      refine ho5.keep ht6 (fun k e e2 => ?_)
      have h := ho5.isCellsT e (show W5.heap[k]? = some (.deferred (some [])) by rw [e2]; exact hD5)
      cases h
  case stop =>
    intro D c pre W hD hS hI hDh
    obtain ⟨rfl, hrn, hf, he, hT⟩ := hI
    have HALL := Lib.hid (And.intro hrn (And.intro hf (And.intro he (And.intro hT hDh))))
    clear hrn hf he hT hDh
    gi_wp2
    refine gun_ret rfl rfl HALL.out.2.1 HALL.out.2.2.1 (by have := HZ.out.2.1; omega) HALL.out.2.2.2.2 (Or.inr ⟨HALL.out.1, rfl, ?_⟩)
    exact (Touch.trans (S := fun _ => False) HZ.out.1 HALL.out.2.2.2.1 (fun k hk e => by omega)).grown (grownBy_putObj' W D _) (fun k e => Or.inr (by cases e; have := HZ.out.2.1; omega))
end Go.Proofs.YtbbcphloafmldaaGreat
