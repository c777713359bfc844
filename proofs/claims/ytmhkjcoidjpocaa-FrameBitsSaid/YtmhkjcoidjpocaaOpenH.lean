/- An argument that is a head, opened. -/
import Derived.Test.YtmhkjcoidjpocaaView
import Derived.Test.YtmhkjcoidjpocaaLaw
import Derived.Test.YtmhkjcoidjpocaaFrmGetLaw
import Derived.Deep.Slices
import Derived.Deep.Fields
import Derived.ChangeSame
import Derived.Lib.SmallJoins
namespace Go.Proofs.Ytmhkjcoidjpocaa
open Go.Joins Go.ChangeShapes Go.WideShapes Go.ChangeAt Go.RowKit Go.Deep
set_option linter.unusedVariables false

theorem cells_u8h : Try.prog.cellsOf 5 = 1 := by kernel_rfl
theorem array9 {α : Type} {cs : Array α} (h : cs.size = 9) : ∃ c0 c1 c2 c3 c4 c5 c6 c7 c8, cs = #[c0, c1, c2, c3, c4, c5, c6, c7, c8] := by
  obtain ⟨l⟩ := cs
  match l, h with
  | [c0, c1, c2, c3, c4, c5, c6, c7, c8], _ => exact ⟨c0, c1, c2, c3, c4, c5, c6, c7, c8, rfl⟩
/-- a field that is bytes. -/
theorem field_bytes {H : Type} {enc : TypeId × Value → H} {W : World} {v : Value} {n : Nat} {y : DataW H × List MemPlace} (hf : DataW.trod enc Try.prog W 0 (fun _ => true) true n 23 [v] = some y) :
    ∃ (bs : List Nat) (eo : Option Addr) (ec : Nat), v = .slice eo bs.length ec ∧ ViewL W v (u8s bs) ∧ (∀ b ∈ bs, b < 256) := by
  rcases open_ints Try.underlying23 Try.underlying5 cells_u8h hf with ⟨hcs, _⟩ | ⟨a, len, cap, zs, hcs, _, hl, _, hz, hx, hcell, hwz⟩
  · simp at hcs
    subst hcs
    exact ⟨[], none, 0, rfl, View.viewL (Or.inl ⟨rfl, rfl⟩) (fun a n cap e => by cases e), by simp⟩
  · simp at hcs
    subst hcs
    simp only [if_true] at hz
    have hw : ∀ z ∈ zs, 0 ≤ z ∧ z ≤ 255 := fun z hz => by simpa [Lit.wf, IntKind.min, IntKind.max, IntKind.signed, IntKind.bits] using hwz z hz
    have hlen : ((zs.take len).map Int.toNat).length = len := by rw [List.length_map, List.length_take]; omega
    have hv : View W (.slice (some a) len cap) ((zs.take len).map Int.toNat) := by
      refine Or.inr ⟨a, cap, by rw [hlen], ?_⟩
      intro j u hu
      have hj : j < len := by
        have := (List.getElem?_eq_some_iff.1 hu).1
        rw [length_u8s, hlen] at this; exact this
      have hjz : j < zs.length := by omega
      rw [hcell j hjz, ← hu]
      have h0 := hw (zs[j]) (List.getElem_mem hjz)
      simp [u8s, hj, List.getD, List.getElem?_eq_getElem hjz]
      omega
    refine ⟨(zs.take len).map Int.toNat, some a, cap, by rw [hlen], hv.viewL (fun a' n' c' e => by cases e; omega), ?_⟩
    intro b hb
    obtain ⟨z, hz', rfl⟩ := List.mem_map.1 hb
    have := hw z (List.mem_of_mem_take hz')
    omega
theorem field_int {H : Type} {enc : TypeId × Value → H} {W : World} {v : Value} {n : Nat} {y : DataW H × List MemPlace} {t : TypeId} {k : IntKind} (ht : Try.prog.underlying t = some (.int k)) (hf : DataW.trod enc Try.prog W 0 (fun _ => true) true n t [v] = some y) :
    ∃ x : Int, v = .int k x ∧ (Lit.int k x).wf = true := by
  obtain ⟨x, h, _, hw⟩ := DataW.trod_int ht hf
  simp at h
  exact ⟨x, h, hw⟩
theorem field_bool {H : Type} {enc : TypeId × Value → H} {W : World} {v : Value} {n : Nat} {y : DataW H × List MemPlace} {t : TypeId} (ht : Try.prog.underlying t = some .bool) (hf : DataW.trod enc Try.prog W 0 (fun _ => true) true n t [v] = some y) : ∃ b : Bool, v = .bool b := by
  obtain ⟨b, h, _⟩ := DataW.trod_bool ht hf
  simp at h
  exact ⟨b, h⟩
theorem field_string {H : Type} {enc : TypeId × Value → H} {W : World} {v : Value} {n : Nat} {y : DataW H × List MemPlace} {t : TypeId} (ht : Try.prog.underlying t = some .string) (hf : DataW.trod enc Try.prog W 0 (fun _ => true) true n t [v] = some y) : ∃ s : ByteArray, v = .string s := by
  obtain ⟨s, h, _⟩ := DataW.trod_string ht hf
  simp at h
  exact ⟨s, h⟩
theorem head_struct : ∃ fs : Array Field, Try.prog.underlying 25 = some (.struct fs) ∧ fs.map (fun f => (f.type, f.offset, Try.prog.cellsOf f.type)) = #[(4, 0, 1), (22, 1, 1), (5, 2, 1), (5, 3, 1), (23, 4, 1), (9, 5, 1), (9, 6, 1), (5, 7, 1), (4, 8, 1)] := ⟨_, Try.underlying25, by kernel_rfl⟩
theorem head_cellsOf : Try.prog.cellsOf 25 = 9 := by kernel_rfl
theorem head_field {fs : Array Field} (head_types : fs.map (fun f => (f.type, f.offset, Try.prog.cellsOf f.type)) = #[(4, 0, 1), (22, 1, 1), (5, 2, 1), (5, 3, 1), (23, 4, 1), (9, 5, 1), (9, 6, 1), (5, 7, 1), (4, 8, 1)]) (j : Nat) (ty : TypeId) (h : (#[(4, 0, 1), (22, 1, 1), (5, 2, 1), (5, 3, 1), (23, 4, 1), (9, 5, 1), (9, 6, 1), (5, 7, 1), (4, 8, 1)] : Array (Nat × Nat × Nat))[j]? = some (ty, j, 1)) :
    ∃ f : Field, fs[j]? = some f ∧ f.type = ty ∧ f.offset = j ∧ Try.prog.cellsOf f.type = 1 := by
  rw [← head_types, Array.getElem?_map] at h
  obtain ⟨f, hf, e⟩ := Option.map_eq_some_iff.1 h
  simp only [Prod.mk.injEq] at e
  exact ⟨f, hf, e.1, e.2.1, e.2.2⟩
/-- a head that came in. -/
theorem open_head {H : Type} {enc : TypeId × Value → H} (W : World) {base : Nat} {v : Value} {d : DataW H} {p : List MemPlace} (hv : Value.okWide Try.prog W .any base 25 v)
    (h : DataW.Trod enc Try.prog W 0 (fun _ => true) true 25 v d p) :
    ∃ (hd : Hd) (eo : Option Addr) (ec : Nat), v = .agg (hcells hd (.slice eo hd.extra.length ec)) ∧ HOk hd ∧ ViewL W (.slice eo hd.extra.length ec) (u8s hd.extra) := by
  obtain ⟨fs, hst, hty⟩ := head_struct
  obtain ⟨cs, rfl, hsz⟩ := okWide_struct hst hv
  obtain ⟨c0, c1, c2, c3, c4, c5, c6, c7, c8, rfl⟩ := array9 (hsz.trans head_cellsOf)
  obtain ⟨fuel, hf⟩ := h
  obtain ⟨xs, n, _, _, hl, hlen, hfs⟩ := DataW.trod_struct hst hf
  have key : ∀ (j : Nat) (ty : TypeId) (c : Value), (#[c0, c1, c2, c3, c4, c5, c6, c7, c8] : Array Value).toList.drop j = c :: (#[c0, c1, c2, c3, c4, c5, c6, c7, c8] : Array Value).toList.drop (j + 1) → (#[(4, 0, 1), (22, 1, 1), (5, 2, 1), (5, 3, 1), (23, 4, 1), (9, 5, 1), (9, 6, 1), (5, 7, 1), (4, 8, 1)] : Array (Nat × Nat × Nat))[j]? = some (ty, j, 1) → j < xs.length →
      ∃ y, DataW.trod enc Try.prog W 0 (fun _ => true) true n ty [c] = some y := by
    intro j ty c hd he hj
    obtain ⟨f, hfj, e1, e2, e3⟩ := head_field hty j ty he
    have := hfs j f hfj
    rw [e2, e3, e1, List.getElem?_eq_getElem hj] at this
    have e : (Value.agg #[c0, c1, c2, c3, c4, c5, c6, c7, c8]).cells = #[c0, c1, c2, c3, c4, c5, c6, c7, c8] := rfl
    rw [e, hd] at this
    exact ⟨xs[j], this⟩
  have hx9 : xs.length = 9 := by
    have := congrArg Array.size hty
    simp at this
    omega
  obtain ⟨y0, k0⟩ := key 0 _ c0 rfl rfl (by omega)
  obtain ⟨y1, k1⟩ := key 1 _ c1 rfl rfl (by omega)
  obtain ⟨y2, k2⟩ := key 2 _ c2 rfl rfl (by omega)
  obtain ⟨y3, k3⟩ := key 3 _ c3 rfl rfl (by omega)
  obtain ⟨y4, k4⟩ := key 4 _ c4 rfl rfl (by omega)
  obtain ⟨y5, k5⟩ := key 5 _ c5 rfl rfl (by omega)
  obtain ⟨y6, k6⟩ := key 6 _ c6 rfl rfl (by omega)
  obtain ⟨y7, k7⟩ := key 7 _ c7 rfl rfl (by omega)
  obtain ⟨y8, k8⟩ := key 8 _ c8 rfl rfl (by omega)
  obtain ⟨b0, rfl⟩ := field_bool Try.underlying4 k0
  obtain ⟨x1, rfl, w1⟩ := field_int Try.underlying22 k1
  obtain ⟨x2, rfl, w2⟩ := field_int Try.underlying5 k2
  obtain ⟨x3, rfl, w3⟩ := field_int Try.underlying5 k3
  obtain ⟨bs, eo, ec, rfl, vw, hb⟩ := field_bytes k4
  obtain ⟨s5, rfl⟩ := field_string Try.underlying9 k5
  obtain ⟨s6, rfl⟩ := field_string Try.underlying9 k6
  obtain ⟨x7, rfl, w7⟩ := field_int Try.underlying5 k7
  obtain ⟨b8, rfl⟩ := field_bool Try.underlying4 k8
  have r1 : 0 ≤ x1 ∧ x1 ≤ 4294967295 := by simpa [Lit.wf, IntKind.min, IntKind.max, IntKind.signed, IntKind.bits] using w1
  have r2 : 0 ≤ x2 ∧ x2 ≤ 255 := by simpa [Lit.wf, IntKind.min, IntKind.max, IntKind.signed, IntKind.bits] using w2
  have r3 : 0 ≤ x3 ∧ x3 ≤ 255 := by simpa [Lit.wf, IntKind.min, IntKind.max, IntKind.signed, IntKind.bits] using w3
  have r7 : 0 ≤ x7 ∧ x7 ≤ 255 := by simpa [Lit.wf, IntKind.min, IntKind.max, IntKind.signed, IntKind.bits] using w7
  obtain ⟨n1, rfl⟩ := Int.eq_ofNat_of_zero_le r1.1
  obtain ⟨n2, rfl⟩ := Int.eq_ofNat_of_zero_le r2.1
  obtain ⟨n3, rfl⟩ := Int.eq_ofNat_of_zero_le r3.1
  obtain ⟨n7, rfl⟩ := Int.eq_ofNat_of_zero_le r7.1
  exact ⟨⟨b0, n1, n2, n3, bs, s5, s6, n7, b8⟩, eo, ec, rfl, ⟨by simp only; omega, by simp only; omega, by simp only; omega, by simp only; omega, hb⟩, vw⟩
end Go.Proofs.Ytmhkjcoidjpocaa
