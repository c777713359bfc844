/- pressworkref24.GetLengths: its walk. -/
import Derived.Test.YteabjmebnbaonaaTabRefS
import Derived.Test.YteabjmebnbaonaaTabLens
import Derived.Test.YteabjmebnbaonaaMsbRefOf
namespace Go.Proofs.Yteabjmebnbaonaa
open Go.RowKit
set_option linter.unusedVariables false

/-- the bits of a row, by place. -/
def rowF (L : List Bool) : Nat → Bool := fun j => L.getD j false
theorem rowF_bits (L : List Bool) (p n : Nat) (h : p + n ≤ L.length) : (L.drop p).take n = fbits (rowF L) p n := by
  apply List.ext_getElem
  · simp [fbits]; omega
  · intro i h1 h2
    have hi : i < n := by rw [List.length_take] at h1; omega
    simp [fbits, rowF, List.getD, List.getElem?_eq_getElem (show p + i < L.length by omega)]
theorem rowF_of (bs : List Nat) : rowF (ofBits true bs) = rbit true bs := funext (ofBits_get true bs)
theorem rowF_get (L : List Bool) (j : Nat) (h : j < L.length) : (bls L)[j]? = some (.bool (rowF L j)) := by
  rw [getElem?_bls L j h]; simp [rowF, List.getD, h]
theorem lenGet_step {f : Nat → Bool} {N m k q k2 q2 : Nat} (h : oneLen f N k q = oneLen f N k2 q2) (hm : 0 < m) : lenGet f N m k q = lenGet f N m k2 q2 := by
  obtain ⟨j, rfl⟩ : ∃ j, m = j + 1 := ⟨m - 1, by omega⟩
  rw [lenGet, lenGet, h]
def RG (w : World) (r : Option (List Nat × Nat)) (e : Ending) (w' : World) : Prop :=
  (∃ l q v, r = some (l, q) ∧ e = .returned (.tuple #[v, .int .i64 (q : Nat), .int .i64 0]) ∧ BO w l v w') ∨
  (∃ q : Int, r = none ∧ e = .returned (.tuple #[.slice none 0 0, .int .i64 q, .int .i64 2]) ∧ Ext w w')
set_option maxHeartbeats 4000000 in
set_option maxRecDepth 100000 in
theorem tab_ref_get (v : Value) (L : List Bool) (p n : Nat) (w : World) (hv : ViewL w v (bls L)) (hl : L.length ≤ 2 ^ 24) (hp : p ≤ L.length) (hn : n ≤ 2 ^ 20) :
    Calls Try.prog 39 #[v, .int .i64 p, .int .i64 n] w (RG w (gLens (rowF L) L.length p n)) := by
  obtain ⟨i0, hi, hz0, hz1, hz2⟩ := info_parts info_u8
  have HC := Lib.hid (show ∀ wr, Ext w wr → ∀ j, j < L.length → ∃ ao cap b o, v = .slice ao L.length cap ∧ ao = some ⟨b, o, none⟩ ∧ wr.cell? ⟨b, o + j, none⟩ = some (.bool (rowF L j)) from fun wr hx j hj => by
    obtain ⟨ao, cap, rfl⟩ := hv.shape
    rw [length_bls] at hv ⊢
    obtain ⟨b, o, rfl, _, hc⟩ := viewL_cells hv (by rw [length_bls]; omega)
    exact ⟨_, cap, b, o, rfl, rfl, cell_touch hx (hc j _ (rowF_get L j hj)) (fun f => f)⟩)
  have HOK := Lib.hid (fun h => msb_ref_get_ok v L p 5 w hv (by decide) (by omega) h)
  have hlb := length_bls L
  obtain ⟨ao, cap, rfl⟩ := hv.shape
  rw [hlb] at HC HOK ⊢
  have HFAR := Lib.hid (fun h => msb_ref_get_far ao L.length cap p 5 w (by decide) (by omega) hp h)
  obtain ⟨f, hf⟩ : ∃ f, f = rowF L := ⟨_, rfl⟩
  have HK := Lib.hid (show p + 5 ≤ L.length → (L.drop p).take 5 = fbits f p 5 from fun h => by rw [hf]; exact rowF_bits L p 5 h)
  obtain ⟨N, hN⟩ : ∃ N, N = L.length := ⟨_, rfl⟩
  obtain ⟨G, hG⟩ : ∃ G, G = gLens f N p n := ⟨_, rfl⟩
  obtain ⟨K, hK⟩ : ∃ K, K = numOf true ((L.drop p).take 5) := ⟨_, rfl⟩
  rw [← hK] at HOK
  rw [← hf] at HC ⊢
  rw [← hN] at HC HOK HFAR HK ⊢
  rw [← hG]
  have HKE := Lib.hid hK
  have HG := Lib.hid hG
  have hNl : N ≤ 2 ^ 24 := by omega
  have hpN : p ≤ N := by omega
  clear hv hG hK hN hlb hl hp hf
  have HB0 := Lib.hid (show BO w [] (.slice none 0 0) w from ⟨none, Owns.nil _ _ _, fun g e => (by cases e), Ext.refl w⟩)
  go_enter Try.func39, Try.ntmps39
  go_wp2_with fail
  by_cases h5 : N < p + 5
  · have HN := Lib.hid (show G = none by rw [HG.out, gLens, if_pos h5])
    refine (HFAR.out h5).mono ?_
    rintro e w' ⟨rfl, rfl⟩
    clear HFAR HOK HC HB0
    go_wp2_with fail
    go_ret3
    exact Or.inr ⟨_, HN.out, rfl, Ext.refl _⟩
  · have hGL : G = lenGet f N n K (p + 5) := by rw [HG.out, gLens, if_neg h5, HKE.out, HK.out (by omega)]
    have hK32 : K < 32 := by rw [HKE.out, HK.out (by omega)]; exact numOf_lt5 _ 5 (length_fbits _ _ _)
    refine (HOK.out (by omega)).mono ?_
    rintro e w' ⟨rfl, rfl⟩
    have HGL := Lib.hid hGL
    clear HFAR HOK hGL HK HKE HG
    go_wp2_with fail
    go_loopw [1, 11, 12] (fun av kv ov wr => ∃ (l : List Nat) (k q : Nat), av = .int .i64 q ∧ kv = .int .i64 k ∧ k ≤ 40 ∧ l.length ≤ n ∧ q ≤ N ∧ BO w l ov wr ∧
      Hid (G = (lenGet f N (n - l.length) k q).map fun y => (l ++ y.1, y.2))) (fun av _ _ _ => N - (intOf av).toNat)
    case atStart => exact ⟨[], K, p + 5, by go_num, rfl, by omega, Nat.zero_le _, by omega, HB0.out, Lib.hid (by rw [HGL.out]; simp)⟩
    case round =>
      clear HB0 HGL
      obtain ⟨l, k, q, rfl, rfl, hk, hln, hq, hbo, HEQ⟩ := hrel
      obtain ⟨oa, ocap, rfl⟩ := hbo.choose_spec.1.shape
      have HBO := Lib.hid hbo
      clear hbo
      by_cases hlt : l.length < n
      · have hlti : (l.length : Int) < (n : Int) := by omega
        by_cases hr1 : k < 1
        · have hri : (k : Int) < 1 := by omega
          have HN := Lib.hid (show G = none from lg_none HEQ.out hlt (by rw [oneLen, if_pos (Or.inl hr1)]))
          go_wp2_with fail
          go_ret3
          exact Or.inr ⟨_, HN.out, rfl, HBO.out.toExt⟩
        · have hri : ¬ (k : Int) < 1 := by omega
          by_cases hr2 : 20 < k
          · have hrj : (20 : Int) < (k : Int) := by omega
            have HN := Lib.hid (show G = none from lg_none HEQ.out hlt (by rw [oneLen, if_pos (Or.inr (Or.inl hr2))]))
            go_wp2_with fail
            go_ret3
            exact Or.inr ⟨_, HN.out, rfl, HBO.out.toExt⟩
          · have hrj : ¬ (20 : Int) < (k : Int) := by omega
            by_cases hqN : q = N
            · have hqi : ((q : Int) == (N : Int)) = true := by simp [hqN]
              have hqi2 : (q : Int) = (N : Int) := by omega
              have HN := Lib.hid (show G = none from lg_none HEQ.out hlt (by rw [oneLen, if_pos (Or.inr (Or.inr (by omega)))]))
              clear hqN
              go_wp2_with fail
              go_ret3
              exact Or.inr ⟨_, HN.out, rfl, HBO.out.toExt⟩
            · have hqi : ((q : Int) == (N : Int)) = false := by rw [beq_eq_false_iff_ne]; omega
              have hqi2 : ¬ (q : Int) = (N : Int) := by omega
              obtain ⟨ao1, cap1, b1, o1, e1, e2, c1⟩ := HC.out wr HBO.out.toExt q (by omega)
              cases e1
              subst e2
              cases hb : f q with
              | false =>
                have HS := Lib.hid (lg_some HEQ.out hlt (v := k) (r := q + 1) (by rw [oneLen, if_neg (by omega), if_pos hb]))
                rw [hb] at c1
                have k8 : IntKind.u8.wrap (k : Int) = (k : Int) := IntWalk.u8_in _ (by omega)
                clear hb
                go_wp2_with (at_builtin; go_must (refine wpList_append_own_at _ rfl (.tmp 47) (.tmp 50) 22 rfl 0 5 i0 (.int .u8 0) 1 1 Try.underlying22 hi hz0 hz1 hz2 rfl (by decide) _ l.length (u8s l) rfl (HBO.out.choose_spec.1.1.alloc _) ⟨wr.heap.size, 0, none⟩ 1 1 [.int .u8 k] rfl rfl (news _ _ _ _) (by simp [Value.oneCell']) (by unfold maxLen; omega) (by omega) (Nat.zero_le _) ?_))
                intro v' w5 hown' hgrow _ hat
                have HBO5 := Lib.hid (bo_snoc HBO.out hown' hgrow hat)
                clear hown' hgrow hat c1 k8
                go_wp2_with fail
                go_roundw
                case rel => exact ⟨l ++ [k], k, q + 1, by go_num, rfl, by omega, by simp; omega, by omega, HBO5.out, HS⟩
                case measure => simp [intOf]; omega
              | true =>
                have HB := Lib.hid hb
                rw [hb] at c1
                clear hb
                by_cases hq2 : q + 1 = N
                · have hqj : ((q : Int) + 1 == (N : Int)) = true := by rw [beq_iff_eq]; omega
                  have hqj2 : (q : Int) + 1 = (N : Int) := by omega
                  have HN := Lib.hid (show G = none from lg_none HEQ.out hlt (by rw [oneLen, if_neg (by omega), if_neg (by rw [HB.out]; simp), if_pos (by omega)]))
                  clear hq2
                  go_wp2_with fail
                  go_ret3
                  exact Or.inr ⟨_, HN.out, rfl, HBO.out.toExt⟩
                · have hqj : ((q : Int) + 1 == (N : Int)) = false := by rw [beq_eq_false_iff_ne]; omega
                  have hqj2 : ¬ (q : Int) + 1 = (N : Int) := by omega
                  obtain ⟨ao2, cap2, b2, o2, e1, e2, c2⟩ := HC.out wr HBO.out.toExt (q + 1) (by omega)
                  cases e1
                  cases e2
                  have hqn : (q : Int) + 1 < (N : Int) := by omega
                  have hlg := fun x => lenGet_step (f := f) (N := N) (m := n - l.length) (k := k) (q := q) (k2 := x) (q2 := q + 2)
                  cases hb2 : f (q + 1) with
                  | false =>
                    have HE := Lib.hid (show G = (lenGet f N (n - l.length) (k + 1) (q + 2)).map fun y => (l ++ y.1, y.2) by rw [← hlg (k + 1) (by conv => lhs; rw [oneLen, if_neg (by omega), if_neg (by rw [HB.out]; simp), if_neg (by omega), hb2, if_neg (by simp)]) (by omega)]; exact HEQ.out)
                    rw [hb2] at c2
                    clear hb2 hlg
                    go_wp2_with fail
                    go_roundw
                    case rel => exact ⟨l, k + 1, q + 2, by go_num, by go_num, by omega, hln, by omega, HBO.out, HE⟩
                    case measure => simp [intOf]; omega
                  | true =>
                    have HE := Lib.hid (show G = (lenGet f N (n - l.length) (k - 1) (q + 2)).map fun y => (l ++ y.1, y.2) by rw [← hlg (k - 1) (by conv => lhs; rw [oneLen, if_neg (by omega), if_neg (by rw [HB.out]; simp), if_neg (by omega), hb2, if_pos rfl]) (by omega)]; exact HEQ.out)
                    rw [hb2] at c2
                    clear hb2 hlg
                    go_wp2_with fail
                    go_roundw
                    case rel => exact ⟨l, k - 1, q + 2, by go_num, by go_num, by omega, hln, by omega, HBO.out, HE⟩
                    case measure => simp [intOf]; omega
      · have hlti : ¬ (l.length : Int) < (n : Int) := by omega
        have HS := Lib.hid (show G = some (l, q) from lg_end HEQ.out (by omega))
        go_wp2_with fail
        go_ret3
        exact Or.inl ⟨_, _, _, HS.out, rfl, HBO.out⟩
end Go.Proofs.Yteabjmebnbaonaa
