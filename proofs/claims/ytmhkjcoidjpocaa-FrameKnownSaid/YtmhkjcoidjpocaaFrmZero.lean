/- The document's zero: its walk. -/
import Derived.Test.YtmhkjcoidjpocaaFrmTail
import Derived.Test.YtmhkjcoidjpocaaFrmGetLaw
namespace Go.Proofs.Ytmhkjcoidjpocaa
open Go.RowKit
set_option linter.unusedVariables false
set_option linter.unusedSimpArgs false

def zI (bs : List Nat) (k : Nat) : Int := if fzI (bs.drop k) = -1 then -1 else (k : Int) + fzI (bs.drop k)
theorem zI_here {bs : List Nat} {k : Nat} (h : bs[k]? = some 0) : zI bs k = k := by
  obtain ⟨hk, h2⟩ := List.getElem?_eq_some_iff.1 h
  have e : bs.drop k = bs[k] :: bs.drop (k + 1) := by rw [List.getElem_cons_drop]
  rw [zI, e, h2, fzI]; simp
theorem zI_next {bs : List Nat} {k c : Nat} (h : bs[k]? = some c) (hc : c ≠ 0) : zI bs k = zI bs (k + 1) := by
  obtain ⟨hk, h2⟩ := List.getElem?_eq_some_iff.1 h
  have e : bs.drop k = bs[k] :: bs.drop (k + 1) := by rw [List.getElem_cons_drop]
  have hg := fzI_ge (bs.drop (k + 1))
  rw [zI, e, h2, fzI, if_neg hc, zI]
  by_cases h3 : fzI (bs.drop (k + 1)) = -1
  · simp [h3]
  · rw [if_neg h3, if_neg h3, if_neg (by omega)]; omega
theorem zI_end {bs : List Nat} {k : Nat} (h : bs.length ≤ k) : zI bs k = -1 := by
  rw [zI, List.drop_eq_nil_of_le h]; rfl
set_option maxHeartbeats 4000000 in
theorem frm_zero (v : Value) (bs : List Nat) (p : Nat) (w : World) (hv : ViewL w v (u8s bs)) (hb : ∀ b ∈ bs, b < 256) (hl : bs.length ≤ 2 ^ 40) (hp : p ≤ bs.length) :
    Calls Try.prog 35 #[v, .int .i64 p] w fun e w' => e = .returned (.int .i64 (zI bs p)) ∧ w = w' := by
  obtain ⟨ao, cap, rfl⟩ := hv.shape
  rw [length_u8s] at *
  have HV := Lib.hid hv
  have HB := Lib.hid hb
  clear hv hb
  go_enter Try.func35, Try.ntmps35
  go_wp2_with fail
  go_loopw [1] (fun kv wr => ∃ k : Nat, kv = .int .i64 k ∧ k ≤ bs.length ∧ Hid (zI bs p = zI bs k) ∧ wr = w) (fun kv _ => bs.length - (intOf kv).toNat)
  case atStart => exact ⟨p, rfl, hp, Lib.hid rfl, rfl⟩
  case round =>
    obtain ⟨k, rfl, hk, HZ, rfl⟩ := hrel
    by_cases hlt : k < bs.length
    · obtain ⟨b, o, rfl, _, hc⟩ := viewL_cells HV.out (by rw [length_u8s]; omega)
      obtain ⟨c, hcc⟩ : ∃ c, bs[k]? = some c := ⟨_, List.getElem?_eq_getElem hlt⟩
      have cB := hc k (.int .u8 c) (by simp [u8s, hcc])
      have hlti : (k : Int) < (bs.length : Int) := by omega
      have HCC := Lib.hid hcc
      clear hc hcc
      by_cases h0 : c = 0
      · subst h0
        have HE := Lib.hid (HZ.out.trans (zI_here HCC.out))
        go_wp2_with fail
        go_ret
        exact ⟨by rw [HE.out]; rfl, rfl⟩
      · have hc0 : ((c : Int) == 0) = false := by simp; omega
        have HE := Lib.hid (HZ.out.trans (zI_next HCC.out h0))
        go_wp2_with fail
        go_roundw
        case rel => exact ⟨k + 1, by go_num, by omega, HE, trivial⟩
        case measure => simp [intOf]; omega
    · have hlti : ¬ (k : Int) < (bs.length : Int) := by omega
      have HE := Lib.hid (HZ.out.trans (zI_end (by omega)))
      go_wp2_with fail
      go_ret
      exact ⟨by rw [HE.out]; rfl, rfl⟩
end Go.Proofs.Ytmhkjcoidjpocaa
