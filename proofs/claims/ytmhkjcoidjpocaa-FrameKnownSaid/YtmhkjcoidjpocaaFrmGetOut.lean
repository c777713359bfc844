/- The ways out of frame.Get. -/
import Derived.Test.YtmhkjcoidjpocaaFrmCatchB
import Derived.Test.YtmhkjcoidjpocaaFrmGetLaw
namespace Go.Proofs.Ytmhkjcoidjpocaa
open Go.RowKit
set_option linter.unusedVariables false
set_option linter.unusedSimpArgs false

/-- no head. -/
def hdZ : Hd := { text := false, time := 0, xfl := 0, os := 0, extra := [], name := ⟨#[]⟩, comment := ⟨#[]⟩, has := 0, sum := false }
theorem get_ret {R : Ending → World → Prop} {wr : World} {p q r s : Nat} {h : Hd} {ev : Value} {n : Int} {b : Bool} {x : Int} {tmps : Array Value} (t2 : tmps[2]? = some (.pointer (some ⟨p, 0, none⟩))) (t3 : tmps[3]? = some (.pointer (some ⟨q, 0, none⟩))) (t4 : tmps[4]? = some (.pointer (some ⟨r, 0, none⟩))) (t5 : tmps[5]? = some (.pointer (some ⟨s, 0, none⟩)))
    (hp : IsBox wr p h ev) (hq : wr.cell? ⟨q, 0, none⟩ = some (.int .i64 n)) (hr : wr.cell? ⟨r, 0, none⟩ = some (.bool b)) (hs : wr.cell? ⟨s, 0, none⟩ = some (.int .i64 x))
    (hR : R (.returned (.tuple #[.agg (hcells h ev), .int .i64 n, .bool b, .int .i64 x])) wr) :
    bodyPostD Try.prog Try.f15 R Exit.ret { tmps := tmps, defers := [{ target := .fn (.func 26) #[.pointer (some ⟨p, 0, none⟩), .pointer (some ⟨q, 0, none⟩), .pointer (some ⟨r, 0, none⟩), .pointer (some ⟨s, 0, none⟩)], args := #[] }] } wr := by
  refine leaves_cons (f := 26) (args := #[.pointer (some ⟨p, 0, none⟩), .pointer (some ⟨q, 0, none⟩), .pointer (some ⟨r, 0, none⟩), .pointer (some ⟨s, 0, none⟩)]) (by simp) (by simp [go_sem]) ?_
  refine (frm_get_idle _ _ _ _ _).mono ?_
  rintro e u' w'' ⟨rfl, rfl, rfl⟩
  have c0 : w''.cell? ⟨p, 0, none⟩ = some (.bool h.text) := hp.cell 0
  have c1 : w''.cell? ⟨p, 1, none⟩ = some (.int .u32 h.time) := hp.cell 1
  have c2 : w''.cell? ⟨p, 2, none⟩ = some (.int .u8 h.xfl) := hp.cell 2
  have c3 : w''.cell? ⟨p, 3, none⟩ = some (.int .u8 h.os) := hp.cell 3
  have c4 : w''.cell? ⟨p, 4, none⟩ = some ev := hp.cell 4
  have c5 : w''.cell? ⟨p, 5, none⟩ = some (.string h.name) := hp.cell 5
  have c6 : w''.cell? ⟨p, 6, none⟩ = some (.string h.comment) := hp.cell 6
  have c7 : w''.cell? ⟨p, 7, none⟩ = some (.int .u8 h.has) := hp.cell 7
  have c8 : w''.cell? ⟨p, 8, none⟩ = some (.bool h.sum) := hp.cell 8
  simp [Leaves, settle, results, Try.results15, go_sem, t2, t3, t4, t5, c0, c1, c2, c3, c4, c5, c6, c7, c8, hq, hr, hs]
  exact hR
set_option maxHeartbeats 1000000 in
theorem get_panic {R : Ending → World → Prop} {wr : World} {p q r s : Nat} {h : Hd} {ev : Value} {n : Int} {b : Bool} {x : Int} {tmps : Array Value} (t2 : tmps[2]? = some (.pointer (some ⟨p, 0, none⟩))) (t3 : tmps[3]? = some (.pointer (some ⟨q, 0, none⟩))) (t4 : tmps[4]? = some (.pointer (some ⟨r, 0, none⟩))) (t5 : tmps[5]? = some (.pointer (some ⟨s, 0, none⟩)))
    (hp : IsBox wr p h ev) (hq : wr.heap[q]? = some (.cells #[.int .i64 n] 3 (0, 0))) (hr : wr.heap[r]? = some (.cells #[.bool b] 4 (0, 0))) (hs : wr.heap[s]? = some (.cells #[.int .i64 x] 27 (0, 0))) (d1 : q ≠ p) (d2 : r ≠ p) (d3 : s ≠ p) (d4 : r ≠ q) (d5 : s ≠ q) (d6 : s ≠ r)
    (hR : ∀ w', Touch (fun k => k = p ∨ k = q ∨ k = r ∨ k = s) wr w' → R (.returned (.tuple #[.agg (hcells hdZ (.slice none 0 0)), .int .i64 0, .bool false, .int .i64 2])) w') :
    bodyPostD Try.prog Try.f15 R (Exit.panic [formF]) { tmps := tmps, defers := [{ target := .fn (.func 26) #[.pointer (some ⟨p, 0, none⟩), .pointer (some ⟨q, 0, none⟩), .pointer (some ⟨r, 0, none⟩), .pointer (some ⟨s, 0, none⟩)], args := #[] }] } wr := by
  refine leaves_cons (f := 26) (args := #[.pointer (some ⟨p, 0, none⟩), .pointer (some ⟨q, 0, none⟩), .pointer (some ⟨r, 0, none⟩), .pointer (some ⟨s, 0, none⟩)]) (by simp) (by simp [go_sem]) ?_
  refine (frm_get_catch p q r s h ev n b x wr hp hq hr hs d1 d2 d3 d4 d5 d6).mono ?_
  rintro e u' w'' ⟨rfl, rfl, rfl⟩
  have c0 : wr.cell? ⟨p, 0, none⟩ = some (.bool h.text) := hp.cell 0
  have c1 : wr.cell? ⟨p, 1, none⟩ = some (.int .u32 h.time) := hp.cell 1
  have c2 : wr.cell? ⟨p, 2, none⟩ = some (.int .u8 h.xfl) := hp.cell 2
  have c3 : wr.cell? ⟨p, 3, none⟩ = some (.int .u8 h.os) := hp.cell 3
  have c4 : wr.cell? ⟨p, 4, none⟩ = some (ev) := hp.cell 4
  have c5 : wr.cell? ⟨p, 5, none⟩ = some (.string h.name) := hp.cell 5
  have c6 : wr.cell? ⟨p, 6, none⟩ = some (.string h.comment) := hp.cell 6
  have c7 : wr.cell? ⟨p, 7, none⟩ = some (.int .u8 h.has) := hp.cell 7
  have c8 : wr.cell? ⟨p, 8, none⟩ = some (.bool h.sum) := hp.cell 8
  have cq : wr.cell? ⟨q, 0, none⟩ = some (.int .i64 n) := by simp [World.cell?, hq]
  have cr : wr.cell? ⟨r, 0, none⟩ = some (.bool b) := by simp [World.cell?, hr]
  have cs : wr.cell? ⟨s, 0, none⟩ = some (.int .i64 x) := by simp [World.cell?, hs]
  simp [Leaves, settle, results, Try.results15, go_sem, t2, t3, t4, t5, c0, c1, c2, c3, c4, c5, c6, c7, c8, cq, cr, cs, d1, d2, d3, d4, d5, d6, d1.symm, d2.symm, d3.symm, d4.symm, d5.symm, d6.symm]
  refine hR _ ?_
  repeat (refine Touch.setCell ?_ (Or.inl (by simp)) _)
  exact Touch.refl _ _
end Go.Proofs.Ytmhkjcoidjpocaa
