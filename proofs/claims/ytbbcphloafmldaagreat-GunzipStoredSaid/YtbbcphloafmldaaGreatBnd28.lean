/- Arguments that are bytes, opened. BY HAND Arguments that are rows of bytes, opened. An argument that is a head, opened. -/
import Derived.Test.YtbbcphloafmldaaGreatBnd3
import Derived.Test.YtbbcphloafmldaaGreatBnd1
import Derived.Deep.Slices
import Derived.Test.YtbbcphloafmldaaGreatBnd21
import Derived.Deep.Fields
import Derived.ChangeSame
import Derived.Lib.SmallJoins
/-! Arguments that are bytes, opened. -/
namespace Go.Proofs.YtbbcphloafmldaaGreat
open Go.ChangeShapes Go.WideShapes Go.ChangeAt Go.RowKit Go.Deep

theorem cells_u8 : Tryz.prog.cellsOf 5 = 1 := by kernel_rfl
theorem bytes_u8 : Tryz.prog.bytesOf 5 = 1 := by kernel_rfl
set_option maxRecDepth 100000 in
/-- bytes that came in. -/
theorem open_bytes {H : Type} {enc : TypeId × Value → H} (W : World) {base : Nat} {v : Value} {d : DataW H} {p : List MemPlace} (hv : Value.okWide Tryz.prog W .any base 22 v)
    (h : DataW.Trod enc Tryz.prog W 0 (fun _ => true) true 22 v d p) (hsz : ∀ el sp, d = .slice el sp → (el.length + sp.length) * Tryz.prog.bytesOf 5 ≤ reachBytes) :
    ∃ bs : List Nat, (View W v bs ∧ ViewL W v (u8s bs)) ∧ (∀ b ∈ bs, b < 256) ∧ bs.length ≤ 140737488351232 := by
  obtain ⟨a0, len, cap, rfl⟩ := okWide_slice Tryz.underlying22 hv
  obtain ⟨fuel, hf⟩ := h
  rcases open_ints Tryz.underlying22 Tryz.underlying5 cells_u8 hf with ⟨hcs, _⟩ | ⟨a, len', cap', zs, hcs, _, hl, _, hz, hx, hcell, hwz⟩
  · simp [Value.cells] at hcs
    obtain ⟨rfl, rfl, rfl⟩ := hcs
    exact ⟨[], ⟨Or.inl ⟨rfl, rfl⟩, View.viewL (Or.inl ⟨rfl, rfl⟩) (fun a n cap e => by cases e)⟩, by simp, by simp⟩
  · simp [Value.cells] at hcs
    obtain ⟨rfl, rfl, rfl⟩ := hcs
    simp only [if_true] at hz
    simp only [Prod.mk.injEq] at hx
    have hw : ∀ z ∈ zs, 0 ≤ z ∧ z ≤ 255 := fun z hz => by simpa [Lit.wf, IntKind.min, IntKind.max, IntKind.signed, IntKind.bits] using hwz z hz
    have hlen : ((zs.take len).map Int.toNat).length = len := by rw [List.length_map, List.length_take]; omega
    have hv : View W (.slice (some a) len cap) ((zs.take len).map Int.toNat) := by
      refine Or.inr ⟨a, cap, by rw [hlen], ?_⟩
      intro j u hu
      have hj : j < len := by
        have := (List.getElem?_eq_some_iff.1 hu).1
        rw [length_u8s, hlen] at this; exact this
      have hjz : j < zs.length := by omega
      rw [hcell j hjz, ← hu]
      have h0 := hw (zs[j]) (List.getElem_mem hjz)
      simp [u8s, hj, List.getD, List.getElem?_eq_getElem hjz]
      omega
    refine ⟨(zs.take len).map Int.toNat, ⟨hv, hv.viewL (fun a' n' c' e => by cases e; omega)⟩, ?_, ?_⟩
    · intro b hb
      obtain ⟨z, hz', rfl⟩ := List.mem_map.1 hb
      have := hw z (List.mem_of_mem_take hz')
      omega
    · have h1 := hsz _ _ hx.1
      rw [bytes_u8] at h1
      simp only [lits, List.length_map, List.length_take, List.length_drop, reachBytes] at h1
      rw [hlen]; omega
end Go.Proofs.YtbbcphloafmldaaGreat

/-! BY HAND Arguments that are rows of bytes, opened. -/
namespace Go.Proofs.YtbbcphloafmldaaGreat
open Go.ChangeShapes Go.WideShapes Go.ChangeAt Go.RowKit Go.Deep
set_option linter.unusedVariables false

def RowsQ (w : World) (v : Value) (Ls : List (List Nat)) : Prop := ∃ us : List Value, ViewL w v us ∧ us.length = Ls.length ∧ ∀ (k : Nat) (u : Value) (L : List Nat), us[k]? = some u → Ls[k]? = some L → ViewL w u (u8s L)
theorem RowsQ.ext {w w' : World} {v : Value} {Ls : List (List Nat)} (h : RowsQ w v Ls) (hx : Ext w w') : RowsQ w' v Ls := by
  obtain ⟨us, h1, h2, h3⟩ := h
  exact ⟨us, h1.ext hx, h2, fun k u L a b => (h3 k u L a b).ext hx⟩
theorem RowsQ.shape {w : World} {v : Value} {Ls : List (List Nat)} (h : RowsQ w v Ls) : ∃ ao cap, v = .slice ao Ls.length cap := by
  obtain ⟨us, h1, h2, _⟩ := h
  obtain ⟨ao, cap, rfl⟩ := h1.shape
  exact ⟨ao, cap, by rw [h2]⟩
/-- a row of them. -/
theorem RowsQ.at {w : World} {ao : Option Addr} {n cap : Nat} {Ls : List (List Nat)} (h : RowsQ w (.slice ao n cap) Ls) {k : Nat} {L : List Nat} {m : Nat} (hk : Ls[k]? = some L) (hm : L.length = m) :
    ∃ b o uo uc, ao = some ⟨b, o, none⟩ ∧ w.cell? ⟨b, o + k, none⟩ = some (.slice uo m uc) ∧ ViewL w (.slice uo m uc) (u8s L) := by
  obtain ⟨us, h1, h2, h3⟩ := h
  have hkl := (List.getElem?_eq_some_iff.1 hk).1
  obtain ⟨b, o, rfl, _, hc⟩ := viewL_cells h1 (by omega)
  have hu : us[k]? = some us[k] := List.getElem?_eq_getElem (by omega)
  have hv := h3 k _ L hu hk
  obtain ⟨uo, uc, e⟩ := hv.shape
  rw [length_u8s, hm] at e
  refine ⟨b, o, uo, uc, rfl, by rw [← e]; exact hc k _ hu, by rw [← e]; exact hv⟩
theorem cells_row : Tryz.prog.cellsOf 22 = 1 := by kernel_rfl
/-- one row. -/
theorem row_bytes {H : Type} {enc : TypeId × Value → H} {W : World} {v : Value} {n : Nat} {y : DataW H × List MemPlace} (hf : DataW.trod enc Tryz.prog W 0 (fun _ => true) true n 22 [v] = some y) :
    ∃ bs : List Nat, ViewL W v (u8s bs) ∧ (∀ b ∈ bs, b < 256) ∧ bs.length ≤ maxLen := by
  rcases open_ints Tryz.underlying22 Tryz.underlying5 cells_u8 hf with ⟨hcs, _⟩ | ⟨a, len, cap, zs, hcs, _, hl, hmx, hz, hx, hcell, hwz⟩
  · simp at hcs
    subst hcs
    exact ⟨[], View.viewL (Or.inl ⟨rfl, rfl⟩) (fun a n cap e => by cases e), by simp, by simp⟩
  · simp at hcs
    subst hcs
    simp only [if_true] at hz
    have hw : ∀ z ∈ zs, 0 ≤ z ∧ z ≤ 255 := fun z hz => by simpa [Lit.wf, IntKind.min, IntKind.max, IntKind.signed, IntKind.bits] using hwz z hz
    have hlen : ((zs.take len).map Int.toNat).length = len := by rw [List.length_map, List.length_take]; omega
    have hv : View W (.slice (some a) len cap) ((zs.take len).map Int.toNat) := by
      refine Or.inr ⟨a, cap, by rw [hlen], ?_⟩
      intro j u hu
      have hj : j < len := by
        have := (List.getElem?_eq_some_iff.1 hu).1
        rw [length_u8s, hlen] at this; exact this
      have hjz : j < zs.length := by omega
      rw [hcell j hjz, ← hu]
      have h0 := hw (zs[j]) (List.getElem_mem hjz)
      simp [u8s, hj, List.getD, List.getElem?_eq_getElem hjz]
      omega
    refine ⟨(zs.take len).map Int.toNat, hv.viewL (fun a' n' c' e => by cases e; omega), ?_, by rw [hlen]; omega⟩
    intro b hb
    obtain ⟨z, hz', rfl⟩ := List.mem_map.1 hb
    have := hw z (List.mem_of_mem_take hz')
    omega
set_option maxRecDepth 100000 in
/-- rows of bytes that came in. -/
theorem open_rows {H : Type} {enc : TypeId × Value → H} (W : World) {base : Nat} {v : Value} {d : DataW H} {p : List MemPlace} (hv : Value.okWide Tryz.prog W .any base 31 v)
    (h : DataW.Trod enc Tryz.prog W 0 (fun _ => true) true 31 v d p) :
    ∃ Ls : List (List Nat), RowsQ W v Ls ∧ (∀ L ∈ Ls, L.length ≤ maxLen ∧ ∀ b ∈ L, b < 256) ∧ Ls.length ≤ maxLen := by
  obtain ⟨a0, len, cap, rfl⟩ := okWide_slice Tryz.underlying31 hv
  obtain ⟨fuel, hf⟩ := h
  rcases open_slice1 Tryz.underlying31 cells_row hf with ⟨hcs, _⟩ | ⟨a, len', cap', m, n, V, D, Pl, hcs, _, hl, hm, hmm, _, hi⟩
  · simp [Value.cells] at hcs
    obtain ⟨rfl, rfl, rfl⟩ := hcs
    exact ⟨[], ⟨[], ⟨none, 0, rfl, Nat.le_refl _, fun _ => rfl, fun h => by simp at h⟩, rfl, fun k u L h => by simp at h⟩, by simp, by simp⟩
  · simp [Value.cells] at hcs
    obtain ⟨rfl, rfl, rfl⟩ := hcs
    simp only [if_true] at hmm
    have hi2 : ∀ i, i < len → ∃ bs : List Nat, ViewL W (V i) (u8s bs) ∧ (∀ b ∈ bs, b < 256) ∧ bs.length ≤ maxLen := fun i hil => row_bytes (hi i (by omega)).2
    obtain ⟨f, hfb⟩ := choose_lt (α := List Nat) (p := fun i bs => ViewL W (V i) (u8s bs) ∧ (∀ b ∈ bs, b < 256) ∧ bs.length ≤ maxLen) hi2
    refine ⟨(List.range len).map f, ⟨(List.range len).map V, ⟨some a, cap, by simp, by simpa using hl, fun e => (by cases e), fun h0 => ?_⟩, by simp, fun k u L hu hL => ?_⟩, fun L hL => ?_, by simp; omega⟩
    · simp at h0
      have hs : a.spot = none := by
        have h1 := (hi 0 (by omega)).1
        have : a.add 0 = a := by simp [Addr.add]
        rw [this] at h1
        unfold World.cell? at h1
        split at h1
        · split at h1
          · cases h1
          · rename_i hs; simpa using hs
        · cases h1
      refine ⟨a.block, a.off, by cases a; simp_all, fun j u hu => ?_⟩
      have hj : j < len := by
        have := (List.getElem?_eq_some_iff.1 hu).1
        simpa using this
      have e : a.add j = ⟨a.block, a.off + j, none⟩ := by
        unfold Addr.add; split
        · rename_i hk; subst hk; cases a; simp_all
        · rfl
      rw [← e, (hi j (by omega)).1, ← hu]
      simp [hj]
    · have hk : k < len := by
        have := (List.getElem?_eq_some_iff.1 hu).1
        simpa using this
      simp [hk] at hu hL
      subst hu
      subst hL
      exact (hfb k hk).1
    · obtain ⟨i, hil, rfl⟩ := List.mem_map.1 hL
      have := hfb i (List.mem_range.1 hil)
      exact ⟨this.2.2, this.2.1⟩
end Go.Proofs.YtbbcphloafmldaaGreat

/-! An argument that is a head, opened. -/
namespace Go.Proofs.YtbbcphloafmldaaGreat
open Go.Joins Go.ChangeShapes Go.WideShapes Go.ChangeAt Go.RowKit Go.Deep
set_option linter.unusedVariables false

theorem cells_u8h : Tryz.prog.cellsOf 5 = 1 := by kernel_rfl
theorem array9 {α : Type} {cs : Array α} (h : cs.size = 9) : ∃ c0 c1 c2 c3 c4 c5 c6 c7 c8, cs = #[c0, c1, c2, c3, c4, c5, c6, c7, c8] := by
  obtain ⟨l⟩ := cs
  match l, h with
  | [c0, c1, c2, c3, c4, c5, c6, c7, c8], _ => exact ⟨c0, c1, c2, c3, c4, c5, c6, c7, c8, rfl⟩
/-- a field that is bytes. -/
theorem field_bytes {H : Type} {enc : TypeId × Value → H} {W : World} {v : Value} {n : Nat} {y : DataW H × List MemPlace} (hf : DataW.trod enc Tryz.prog W 0 (fun _ => true) true n 22 [v] = some y) :
    ∃ (bs : List Nat) (eo : Option Addr) (ec : Nat), v = .slice eo bs.length ec ∧ ViewL W v (u8s bs) ∧ (∀ b ∈ bs, b < 256) := by
  rcases open_ints Tryz.underlying22 Tryz.underlying5 cells_u8h hf with ⟨hcs, _⟩ | ⟨a, len, cap, zs, hcs, _, hl, _, hz, hx, hcell, hwz⟩
  · simp at hcs
    subst hcs
    exact ⟨[], none, 0, rfl, View.viewL (Or.inl ⟨rfl, rfl⟩) (fun a n cap e => by cases e), by simp⟩
  · simp at hcs
    subst hcs
    simp only [if_true] at hz
    have hw : ∀ z ∈ zs, 0 ≤ z ∧ z ≤ 255 := fun z hz => by simpa [Lit.wf, IntKind.min, IntKind.max, IntKind.signed, IntKind.bits] using hwz z hz
    have hlen : ((zs.take len).map Int.toNat).length = len := by rw [List.length_map, List.length_take]; omega
    have hv : View W (.slice (some a) len cap) ((zs.take len).map Int.toNat) := by
      refine Or.inr ⟨a, cap, by rw [hlen], ?_⟩
      intro j u hu
      have hj : j < len := by
        have := (List.getElem?_eq_some_iff.1 hu).1
        rw [length_u8s, hlen] at this; exact this
      have hjz : j < zs.length := by omega
      rw [hcell j hjz, ← hu]
      have h0 := hw (zs[j]) (List.getElem_mem hjz)
      simp [u8s, hj, List.getD, List.getElem?_eq_getElem hjz]
      omega
    refine ⟨(zs.take len).map Int.toNat, some a, cap, by rw [hlen], hv.viewL (fun a' n' c' e => by cases e; omega), ?_⟩
    intro b hb
    obtain ⟨z, hz', rfl⟩ := List.mem_map.1 hb
    have := hw z (List.mem_of_mem_take hz')
    omega
theorem field_int {H : Type} {enc : TypeId × Value → H} {W : World} {v : Value} {n : Nat} {y : DataW H × List MemPlace} {t : TypeId} {k : IntKind} (ht : Tryz.prog.underlying t = some (.int k)) (hf : DataW.trod enc Tryz.prog W 0 (fun _ => true) true n t [v] = some y) :
    ∃ x : Int, v = .int k x ∧ (Lit.int k x).wf = true := by
  obtain ⟨x, h, _, hw⟩ := DataW.trod_int ht hf
  simp at h
  exact ⟨x, h, hw⟩
theorem field_bool {H : Type} {enc : TypeId × Value → H} {W : World} {v : Value} {n : Nat} {y : DataW H × List MemPlace} {t : TypeId} (ht : Tryz.prog.underlying t = some .bool) (hf : DataW.trod enc Tryz.prog W 0 (fun _ => true) true n t [v] = some y) : ∃ b : Bool, v = .bool b := by
  obtain ⟨b, h, _⟩ := DataW.trod_bool ht hf
  simp at h
  exact ⟨b, h⟩
theorem field_string {H : Type} {enc : TypeId × Value → H} {W : World} {v : Value} {n : Nat} {y : DataW H × List MemPlace} {t : TypeId} (ht : Tryz.prog.underlying t = some .string) (hf : DataW.trod enc Tryz.prog W 0 (fun _ => true) true n t [v] = some y) : ∃ s : ByteArray, v = .string s := by
  obtain ⟨s, h, _⟩ := DataW.trod_string ht hf
  simp at h
  exact ⟨s, h⟩
theorem head_struct : ∃ fs : Array Field, Tryz.prog.underlying 34 = some (.struct fs) ∧ fs.map (fun f => (f.type, f.offset, Tryz.prog.cellsOf f.type)) = #[(4, 0, 1), (32, 1, 1), (5, 2, 1), (5, 3, 1), (22, 4, 1), (9, 5, 1), (9, 6, 1), (5, 7, 1), (4, 8, 1)] := ⟨_, Tryz.underlying34, by kernel_rfl⟩
theorem head_cellsOf : Tryz.prog.cellsOf 34 = 9 := by kernel_rfl
theorem head_field {fs : Array Field} (head_types : fs.map (fun f => (f.type, f.offset, Tryz.prog.cellsOf f.type)) = #[(4, 0, 1), (32, 1, 1), (5, 2, 1), (5, 3, 1), (22, 4, 1), (9, 5, 1), (9, 6, 1), (5, 7, 1), (4, 8, 1)]) (j : Nat) (ty : TypeId) (h : (#[(4, 0, 1), (32, 1, 1), (5, 2, 1), (5, 3, 1), (22, 4, 1), (9, 5, 1), (9, 6, 1), (5, 7, 1), (4, 8, 1)] : Array (Nat × Nat × Nat))[j]? = some (ty, j, 1)) :
    ∃ f : Field, fs[j]? = some f ∧ f.type = ty ∧ f.offset = j ∧ Tryz.prog.cellsOf f.type = 1 := by
  rw [← head_types, Array.getElem?_map] at h
  obtain ⟨f, hf, e⟩ := Option.map_eq_some_iff.1 h
  simp only [Prod.mk.injEq] at e
  exact ⟨f, hf, e.1, e.2.1, e.2.2⟩
set_option maxRecDepth 100000 in
/-- a head that came in. -/
theorem open_head {H : Type} {enc : TypeId × Value → H} (W : World) {base : Nat} {v : Value} {d : DataW H} {p : List MemPlace} (hv : Value.okWide Tryz.prog W .any base 34 v)
    (h : DataW.Trod enc Tryz.prog W 0 (fun _ => true) true 34 v d p) :
    ∃ (hd : Hd) (eo : Option Addr) (ec : Nat), v = .agg (hcells hd (.slice eo hd.extra.length ec)) ∧ HOk hd ∧ ViewL W (.slice eo hd.extra.length ec) (u8s hd.extra) := by
  obtain ⟨fs, hst, hty⟩ := head_struct
  obtain ⟨cs, rfl, hsz⟩ := okWide_struct hst hv
  obtain ⟨c0, c1, c2, c3, c4, c5, c6, c7, c8, rfl⟩ := array9 (hsz.trans head_cellsOf)
  obtain ⟨fuel, hf⟩ := h
  obtain ⟨xs, n, _, _, hl, hlen, hfs⟩ := DataW.trod_struct hst hf
  have key : ∀ (j : Nat) (ty : TypeId) (c : Value), (#[c0, c1, c2, c3, c4, c5, c6, c7, c8] : Array Value).toList.drop j = c :: (#[c0, c1, c2, c3, c4, c5, c6, c7, c8] : Array Value).toList.drop (j + 1) → (#[(4, 0, 1), (32, 1, 1), (5, 2, 1), (5, 3, 1), (22, 4, 1), (9, 5, 1), (9, 6, 1), (5, 7, 1), (4, 8, 1)] : Array (Nat × Nat × Nat))[j]? = some (ty, j, 1) → j < xs.length →
      ∃ y, DataW.trod enc Tryz.prog W 0 (fun _ => true) true n ty [c] = some y := by
    intro j ty c hd he hj
    obtain ⟨f, hfj, e1, e2, e3⟩ := head_field hty j ty he
    have := hfs j f hfj
    rw [e2, e3, e1, List.getElem?_eq_getElem hj] at this
    have e : (Value.agg #[c0, c1, c2, c3, c4, c5, c6, c7, c8]).cells = #[c0, c1, c2, c3, c4, c5, c6, c7, c8] := rfl
    rw [e, hd] at this
    exact ⟨xs[j], this⟩
  have hx9 : xs.length = 9 := by
    have := congrArg Array.size hty
    simp at this
    omega
  obtain ⟨y0, k0⟩ := key 0 _ c0 rfl rfl (by omega)
  obtain ⟨y1, k1⟩ := key 1 _ c1 rfl rfl (by omega)
  obtain ⟨y2, k2⟩ := key 2 _ c2 rfl rfl (by omega)
  obtain ⟨y3, k3⟩ := key 3 _ c3 rfl rfl (by omega)
  obtain ⟨y4, k4⟩ := key 4 _ c4 rfl rfl (by omega)
  obtain ⟨y5, k5⟩ := key 5 _ c5 rfl rfl (by omega)
  obtain ⟨y6, k6⟩ := key 6 _ c6 rfl rfl (by omega)
  obtain ⟨y7, k7⟩ := key 7 _ c7 rfl rfl (by omega)
  obtain ⟨y8, k8⟩ := key 8 _ c8 rfl rfl (by omega)
  obtain ⟨b0, rfl⟩ := field_bool Tryz.underlying4 k0
  obtain ⟨x1, rfl, w1⟩ := field_int Tryz.underlying32 k1
  obtain ⟨x2, rfl, w2⟩ := field_int Tryz.underlying5 k2
  obtain ⟨x3, rfl, w3⟩ := field_int Tryz.underlying5 k3
  obtain ⟨bs, eo, ec, rfl, vw, hb⟩ := field_bytes k4
  obtain ⟨s5, rfl⟩ := field_string Tryz.underlying9 k5
  obtain ⟨s6, rfl⟩ := field_string Tryz.underlying9 k6
  obtain ⟨x7, rfl, w7⟩ := field_int Tryz.underlying5 k7
  obtain ⟨b8, rfl⟩ := field_bool Tryz.underlying4 k8
  have r1 : 0 ≤ x1 ∧ x1 ≤ 4294967295 := by simpa [Lit.wf, IntKind.min, IntKind.max, IntKind.signed, IntKind.bits] using w1
  have r2 : 0 ≤ x2 ∧ x2 ≤ 255 := by simpa [Lit.wf, IntKind.min, IntKind.max, IntKind.signed, IntKind.bits] using w2
  have r3 : 0 ≤ x3 ∧ x3 ≤ 255 := by simpa [Lit.wf, IntKind.min, IntKind.max, IntKind.signed, IntKind.bits] using w3
  have r7 : 0 ≤ x7 ∧ x7 ≤ 255 := by simpa [Lit.wf, IntKind.min, IntKind.max, IntKind.signed, IntKind.bits] using w7
  obtain ⟨n1, rfl⟩ := Int.eq_ofNat_of_zero_le r1.1
  obtain ⟨n2, rfl⟩ := Int.eq_ofNat_of_zero_le r2.1
  obtain ⟨n3, rfl⟩ := Int.eq_ofNat_of_zero_le r3.1
  obtain ⟨n7, rfl⟩ := Int.eq_ofNat_of_zero_le r7.1
  exact ⟨⟨b0, n1, n2, n3, bs, s5, s6, n7, b8⟩, eo, ec, rfl, ⟨by simp only; omega, by simp only; omega, by simp only; omega, by simp only; omega, hb⟩, vw⟩
end Go.Proofs.YtbbcphloafmldaaGreat
