/- slices.Compact of bytes that are the caller's own: its walk; only how long the result is is told. -/
import Derived.Lib.SliceRun
import Derived.Lib.SlicesS
import Derived.Lib.SlicesCompact
import Derived.Shelf.RegionOpenPlain
import Derived.Sort.WalkB12
import Derived.Test.YteabjmebnbaonaaPickSl
namespace Go.Proofs.Yteabjmebnbaonaa
open Go.RowKit
set_option linter.unusedVariables false

/-- no byte is as the one ahead of it. -/
def ApartP (bs : List Nat) : Prop := ∀ i x, bs[i]? = some x → bs[i + 1]? ≠ some x
theorem Touch.setCells {S : Nat → Prop} {w : World} {b : Nat} (hb : S b) : ∀ (vs : List Value) (o : Nat) (w' : World), Touch S w w' → Touch S w (w'.setCells b o vs)
  | [], o, w', h => h
  | v :: vs, o, w', h => Touch.setCells hb vs (o + 1) _ (h.setCell (Or.inl hb) v)
set_option maxHeartbeats 4000000 in
set_option maxRecDepth 100000 in
theorem pick_compact (g cap : Nat) (bs : List Nat) (w : World) (hv : Owns w 5 1 (.slice (some ⟨g, 0, none⟩) bs.length cap) (some g) bs.length (u8s bs)) (hl : bs.length ≤ 2 ^ 40) :
    Calls Try.prog 44 #[.slice (some ⟨g, 0, none⟩) bs.length cap] w fun e w' => ∃ m : Nat, e = .returned (.slice (some ⟨g, 0, none⟩) m cap) ∧ (m = bs.length ↔ ApartP bs) ∧ Touch (fun k => k = g) w w' := by
  have hcap : bs.length ≤ cap := by
    rcases hv.form with ⟨h, _⟩ | ⟨g', cap', cur, h1, h2, h3, h4, h5, h6, h7⟩
    · cases h
    · cases h2; exact h4
  by_cases h2 : bs.length < 2
  · have HA := Lib.hid (show ApartP bs from fun i x h1 h2 => by have := (List.getElem?_eq_some_iff.1 h2).1; omega)
    clear hv
    go_enter Try.func44, Try.ntmps44
    go_wp2_with fail
    go_ret
    exact ⟨bs.length, rfl, ⟨fun _ => HA.out, fun _ => rfl⟩, Touch.refl _ _⟩
  · have HV := Lib.hid hv
    clear hv
    go_enter Try.func44, Try.ntmps44
    go_wp2_with fail
    go_loopw [3] (fun iv wr => ∃ k : Nat, iv = .int .i64 k ∧ 1 ≤ k ∧ k ≤ bs.length ∧ (∀ i x, i + 1 < k → bs[i]? = some x → bs[i + 1]? ≠ some x) ∧ Ext w wr) (fun iv _ => bs.length - (intOf iv).toNat)
    case atStart => exact ⟨1, rfl, Nat.le_refl _, by omega, fun i x h => absurd h (by omega), Ext.refl w⟩
    case round =>
      obtain ⟨k, rfl, hk1, hk, hall, hext⟩ := hrel
      have HALL := Lib.hid hall
      have HX := Lib.hid hext
      clear hall hext
      by_cases hlt : k < bs.length
      · have hlti : (k : Int) < (bs.length : Int) := by omega
        obtain ⟨x, hx⟩ : ∃ x, bs[k - 1]? = some x := ⟨_, List.getElem?_eq_getElem (by omega)⟩
        obtain ⟨y, hy⟩ : ∃ y, bs[k]? = some y := ⟨_, List.getElem?_eq_getElem hlt⟩
        have c1 := (HV.out.ext' HX.out).cell (k - 1) (.int .u8 x) (by simp [u8s, hx])
        have c2 := (HV.out.ext' HX.out).cell k (.int .u8 y) (by simp [u8s, hy])
        have k0 : (1 : Int) ≤ (k : Int) := by omega
        have k1 : ((k : Int) - 1).toNat = k - 1 := by omega
        have k2 : (0 : Int) ≤ (k : Int) - 1 := by omega
        have k3 : (k : Int).toNat = k := by omega
        have k4 : (0 : Int) ≤ (k : Int) := by omega
        have k5 : (k : Int) - 1 < (bs.length : Int) := by omega
        have k6 : IntKind.i64.wrap ((k : Int) - 1) = (k : Int) - 1 := IntWalk.i64_in _ (by omega)
        have HXY := Lib.hid (And.intro hx hy)
        clear hx hy
        by_cases hxy : y = x
        · have hb : ((y : Int) == (x : Int)) = true := by rw [hxy]; simp
          go_wp2_with fail
          go_quiet (fail)
          have HV1 := Lib.hid ((HV.out.ext' HX.out).ext' ((Ext.refl wr).drewN nq))
          have HT1 := Lib.hid (show Touch (fun k => k = g) w (wr.drewN nq) from (HX.out.drewN nq).mono (fun _ _ f => f.elim))
          have HN := Lib.hid (show ¬ ApartP bs from fun h => h (k - 1) x HXY.out.1 (by rw [show k - 1 + 1 = k by omega, HXY.out.2, hxy]))
          obtain ⟨W1, hW1⟩ : ∃ W1, W1 = wr.drewN nq := ⟨_, rfl⟩
          rw [← hW1] at HV1 HT1 ⊢
          clear hW1 c1 c2 hb
          go_wp2_with fail
          have HKK := Lib.hid (show k < bs.length from hlt)
          clear k0 k1 k2 k3 k4 k5 k6
          go_loopw [3, 5] (fun s3 s5 wr2 => ∃ (kk k2 : Nat) (dk : List Nat), s3 = .int .i64 kk ∧ s5 = .int .i64 k2 ∧ 1 ≤ k2 ∧ k + k2 ≤ bs.length ∧ k ≤ kk ∧ kk < k + k2 ∧ dk.length = bs.length ∧ Owns wr2 5 1 (.slice (some ⟨g, 0, none⟩) bs.length cap) (some g) bs.length (u8s dk) ∧ Touch (fun k => k = g) w wr2) (fun _ s5 _ => bs.length - (intOf s5).toNat)
          case atStart => exact ⟨k, 1, bs, rfl, rfl, Nat.le_refl _, by omega, Nat.le_refl _, by omega, rfl, HV1.out, HT1.out⟩
          case round =>
            obtain ⟨kk, k2, dk, rfl, rfl, h21, h2l, hkk, hkk2, hdl, hown, htch⟩ := hrel
            have HO := Lib.hid hown
            have HTT := Lib.hid htch
            clear hown htch
            by_cases hlt2 : k + k2 < bs.length
            · obtain ⟨u, hu⟩ : ∃ u, dk[k + (k2 - 1)]? = some u := ⟨_, List.getElem?_eq_getElem (by omega)⟩
              obtain ⟨v, hvv⟩ : ∃ v, dk[k + k2]? = some v := ⟨_, List.getElem?_eq_getElem (by omega)⟩
              have c1 := HO.out.cell (k + (k2 - 1)) (.int .u8 u) (by simp [u8s, hu])
              have c2 := HO.out.cell (k + k2) (.int .u8 v) (by simp [u8s, hvv])
              have k0 : (1 : Int) ≤ (k2 : Int) := by omega
              have k1 : ((k2 : Int) - 1).toNat = k2 - 1 := by omega
              have k2' : (0 : Int) ≤ (k2 : Int) - 1 := by omega
              have k3 : (k2 : Int).toNat = k2 := by omega
              have k4 : (0 : Int) ≤ (k2 : Int) := by omega
              have k5 : (k2 : Int) - 1 < ((bs.length - k : Nat) : Int) := by omega
              have k6 : IntKind.i64.wrap ((k2 : Int) - 1) = (k2 : Int) - 1 := IntWalk.i64_in _ (by omega)
              have k7 : (k2 : Int) < ((bs.length - k : Nat) : Int) := by omega
              have k8 : k2 < bs.length - k := by omega
              have k9 : k2 - 1 < bs.length - k := by omega
              by_cases huv : v = u
              · have hb : ((v : Int) == (u : Int)) = true := by rw [huv]; simp
                have hb2 : (v : Int) = (u : Int) := by rw [huv]
                go_wp2_with fail
                go_quiet (fail)
                clear k0 k1 k2' k3 k4 k5 k6 k7 k8 k9 c1 c2 hb hb2
                go_wp2_with fail
                go_roundw
                case rel => exact ⟨kk, k2 + 1, dk, rfl, by go_num, by omega, by omega, hkk, by omega, hdl, HO.out.ext' ((Ext.refl _).drewN _), HTT.out.drewN _⟩
                case measure => simp [intOf]; omega
              · have hb : ((v : Int) == (u : Int)) = false := by rw [beq_eq_false_iff_ne]; omega
                have hb2 : ¬ (v : Int) = (u : Int) := by omega
                have hkb : kk < bs.length := by omega
                have HS := Lib.hid (HO.out.set kk (.int .u8 v) hkb)
                have hs2 : u8s (dk.set kk v) = (u8s dk).set kk (.int .u8 v) := by rw [u8s_set]
                have HS2 := Lib.hid hs2
                have hck := HO.out.cell kk (.int .u8 (dk[kk]'(by omega))) (by simp [u8s, hdl, hkb])
                have hfr := HO.out.free kk
                have hkb3 : (kk : Int).toNat = kk := by omega
                have hkb4 : (0 : Int) ≤ (kk : Int) := by omega
                have hkb5 : (kk : Int) < (bs.length : Int) := by omega
                clear hs2
                go_wp2_with fail
                go_quiet (fail)
                clear k0 k1 k2' k5 k6
                go_wp2_with fail
                go_roundw
                case rel => exact ⟨kk + 1, k2 + 1, dk.set kk v, by go_num, by go_num, by omega, by omega, by omega, by omega, by simpa using hdl, by rw [HS2.out]; exact (HS.out.keep (S := fun _ => False) ⟨rfl, rfl, rfl, Nat.le_refl _, fun _ _ _ => rfl⟩ (fun _ _ f => f)), (HTT.out.drewN _).setCell (Or.inl rfl) _⟩
                case measure => simp [intOf]; omega
            · have hkb : kk < bs.length := by omega
              have hcl : ∀ ty, (Builtin.clear_ #[22] ty #[.slice (some ⟨g, kk, none⟩) (bs.length - kk) (cap - kk)]).run Try.prog wr = .ok (.tuple #[]) (wr.setCells g kk (List.replicate (bs.length - kk) (.int .u8 0))) :=
                fun ty => Lib.run_clear_slice wr _ _ ty _ Try.underlying22 Try.zeroValue5 rfl rfl g kk _ _ (by omega) (fun j hj => by rw [HO.out.cell (kk + j) (.int .u8 (dk[kk + j]'(by omega))) (by simp [u8s, hdl, show kk + j < bs.length by omega])]; rfl) (fun j hj => HO.out.free (kk + j))
              go_wp2_with fail
              go_ret
              exact ⟨kk, rfl, ⟨fun h => absurd h (by omega), fun h => absurd h HN.out⟩, Touch.setCells (S := fun k => k = g) rfl _ _ _ HTT.out⟩
        · have hb : ((y : Int) == (x : Int)) = false := by rw [beq_eq_false_iff_ne]; omega
          have hf : ∀ i a, i + 1 < k + 1 → bs[i]? = some a → bs[i + 1]? ≠ some a := fun i a hi ha => by
            by_cases h : i + 1 < k
            · exact HALL.out i a h ha
            · obtain rfl : i = k - 1 := by omega
              rw [show k - 1 + 1 = k by omega, HXY.out.2]
              rw [HXY.out.1] at ha
              cases ha
              simpa using hxy
          have HF := Lib.hid hf
          clear hf
          go_wp2_with fail
          go_quiet (fail)
          clear k0 k1 k2 k3 k4 k5 k6 c1 c2 hb
          go_wp2_with fail
          go_roundw
          case rel => exact ⟨k + 1, by go_num, by omega, by omega, HF.out, HX.out.drewN _⟩
          case measure => simp [intOf]; omega
      · obtain rfl : k = bs.length := by omega
        go_wp2_with fail
        go_ret
        exact ⟨bs.length, rfl, ⟨fun _ i x hx hy => HALL.out i x (by have := (List.getElem?_eq_some_iff.1 hy).1; omega) hx hy, fun _ => rfl⟩, HX.out.mono (fun _ _ f => f.elim)⟩
end Go.Proofs.Yteabjmebnbaonaa
