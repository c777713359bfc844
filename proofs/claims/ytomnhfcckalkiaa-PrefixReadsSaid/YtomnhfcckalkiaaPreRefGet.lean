/- pressworkref06.begins, Get: their walks. -/
import Derived.BigQuiet
import Derived.Test.YtomnhfcckalkiaaPreLawPuts
namespace Go.Proofs.Ytomnhfcckalkiaa
open Go.RowKit
set_option linter.unusedVariables false


theorem view_none0 (ao : Option Addr) (w : World) : View w (.slice ao 0 0) [] := by
  cases ao with
  | none => exact Or.inl ⟨rfl, rfl⟩
  | some a => exact Or.inr ⟨a, 0, rfl, fun j u hu => by simp [u8s] at hu⟩
theorem viewL_view {w : World} {ao : Option Addr} {n cap : Nat} {bs : List Nat} (h : ViewL w (.slice ao n cap) (u8s bs)) (hn : bs.length = n) : View w (.slice ao n cap) bs := by
  subst hn
  obtain ⟨ao', cap', e, h1, h2, h3⟩ := h
  rw [length_u8s] at e h1 h3
  cases e
  cases ao with
  | none =>
    have := h2 rfl
    subst this
    exact Or.inl ⟨by congr 1; omega, List.eq_nil_of_length_eq_zero (by omega)⟩
  | some a =>
    refine Or.inr ⟨a, cap, rfl, fun j u hu => ?_⟩
    have hj := getE_lt hu
    rw [length_u8s] at hj
    obtain ⟨b, o, e, hc⟩ := h3 (by omega)
    cases e
    have := hc j u hu
    have e2 : (⟨b, o, none⟩ : Addr).add j = ⟨b, o + j, none⟩ := by unfold Addr.add; split <;> simp_all
    rw [e2]; exact this
set_option maxHeartbeats 2000000 in
theorem pre_begins (u v : Value) (rs bs : List Nat) (w : World) (hu : View w u rs) (hv : View w v bs) (hul : ViewL w u (u8s rs)) (ha : ∀ x ∈ rs, x < 256) (hb : ∀ x ∈ bs, x < 256) :
    Calls Try.prog 38 #[u, v] w fun e w' => e = .returned (.bool (decide (bs <+: rs))) ∧ ∃ m, w' = w.drewN m := by
  obtain ⟨ao, acap, rfl⟩ := hu.shape
  obtain ⟨bo, bcap, rfl⟩ := hv.shape
  have hac : rs.length ≤ acap := by
    obtain ⟨_, _, e, h, _⟩ := hul
    rw [length_u8s] at e h
    cases e; exact h
  have HU := Lib.hid hu
  have HV := Lib.hid hv
  by_cases hl : bs.length ≤ rs.length
  · have hli : (bs.length : Int) ≤ (rs.length : Int) := by omega
    have hc := hu.cut bs.length hl
    have hs1 := fun n => run_string_view (P := Try.prog) 22 9 5 (hc.ext ((Ext.refl w).drewN n)) Try.underlying22 Try.underlying5 Try.underlying9
    have hs2 := fun n => run_string_view (P := Try.prog) 22 9 5 (hv.ext ((Ext.refl w).drewN n)) Try.underlying22 Try.underlying5 Try.underlying9
    have hq := str_eq (a := rs.take bs.length) (b := bs) (fun x hx => ha x (List.mem_of_mem_take hx)) hb
    have HD := Lib.hid (show decide (rs.take bs.length = bs) = decide (bs <+: rs) from decide_eq_decide.2 ⟨fun h => by rw [← h]; exact List.take_prefix _ _, fun h => (List.prefix_iff_eq_take.1 h).symm⟩)
    have hac2 : ¬ acap < bs.length := by omega
    clear hu hv hul hc
    go_enter Try.func38, Try.ntmps38
    go_wp2_with fail
    go_quiet (fail)
    go_wp2_with fail
    go_ret
    exact ⟨by rw [← HD.out]; rfl, _, rfl⟩
  · have HD := Lib.hid (show decide (bs <+: rs) = false from decide_eq_false (fun h => hl h.length_le))
    have hli : ¬ (bs.length : Int) ≤ (rs.length : Int) := by omega
    clear hu hv hul
    go_enter Try.func38, Try.ntmps38
    go_wp2_with fail
    go_quiet (fail)
    go_wp2_with fail
    go_ret
    exact ⟨by rw [HD.out]; rfl, _, rfl⟩
theorem bn_prefix (x r : List Bool) : bn x <+: bn r ↔ x <+: r := by
  constructor
  · intro h
    obtain ⟨t, ht⟩ := h
    have hl : x.length ≤ r.length := by have := congrArg List.length ht; simp [bn] at this; omega
    refine List.prefix_iff_eq_take.2 ?_
    have h2 := congrArg (List.take x.length) ht
    rw [show x.length = (bn x).length from (length_bn x).symm, List.take_left, length_bn] at h2
    have inj : ∀ a b : List Bool, bn a = bn b → a = b := by
      intro a
      induction a with
      | nil => intro b h; cases b with
        | nil => rfl
        | cons y b => simp [bn] at h
      | cons y a ih => intro b h; cases b with
        | nil => simp [bn] at h
        | cons z b =>
          simp only [bn, List.map_cons, List.cons.injEq] at h
          have e : y = z := by cases y <;> cases z <;> simp_all
          rw [e, ih b h.2]
    exact inj x (r.take x.length) (by rw [h2]; simp [bn, List.map_take])
  · rintro ⟨t, rfl⟩
    rw [bn_append]; exact List.prefix_append _ _
/-- what rows of rows read as. -/
def RowsV (w : World) (v : Value) (n : Nat) (rows : List (List Nat)) : Prop :=
  ∃ ao cap, v = .slice ao n cap ∧ ∀ (i : Nat) (r : List Nat) (m : Nat), rows[i]? = some r → r.length = m → ∃ g uo uc, ao = some ⟨g, 0, none⟩ ∧ w.cell? ⟨g, i, none⟩ = some (.slice uo m uc) ∧ ViewL w (.slice uo m uc) (u8s r) ∧ View w (.slice uo m uc) r
theorem RowsV.ext {w w' : World} {v : Value} {n : Nat} {rows : List (List Nat)} (h : RowsV w v n rows) (x : Ext w w') : RowsV w' v n rows := by
  obtain ⟨ao, cap, e, k⟩ := h
  refine ⟨ao, cap, e, fun i r m hr hm => ?_⟩
  obtain ⟨g, uo, uc, e1, e2, e3, e4⟩ := k i r m hr hm
  exact ⟨g, uo, uc, e1, cell_touch x e2 (fun f => f), e3.ext x, e4.ext x⟩
/-- is there a row that begins so, ahead of the i-th? -/
def BegTo (rs : List (List Bool)) (x : List Bool) (i : Nat) : Prop := ∃ (j : Nat) (r : List Bool), j < i ∧ rs[j]? = some r ∧ r ≠ [] ∧ x <+: r
theorem begTo_all {rs : List (List Bool)} {x : List Bool} : BegTo rs x rs.length ↔ Beg rs x :=
  ⟨fun ⟨j, r, _, h⟩ => ⟨j, r, h⟩, fun ⟨j, r, h⟩ => ⟨j, r, getE_lt h.1, h⟩⟩
theorem begTo_succ {rs : List (List Bool)} {x r : List Bool} {i : Nat} (h : rs[i]? = some r) : BegTo rs x (i + 1) ↔ BegTo rs x i ∨ (r ≠ [] ∧ x <+: r) := by
  constructor
  · rintro ⟨j, q, hj, hq, k⟩
    by_cases hji : j < i
    · exact Or.inl ⟨j, q, hji, hq, k⟩
    · obtain rfl : j = i := by omega
      rw [h] at hq; cases hq; exact Or.inr k
  · rintro (⟨j, q, hj, hq, k⟩ | k)
    · exact ⟨j, q, by omega, hq, k⟩
    · exact ⟨i, r, by omega, h, k⟩
theorem bn_piece (bits : List Bool) (p n : Nat) : ((bn bits).drop p).take n = bn (xAt bits p n) := by simp [bn, xAt, List.map_drop, List.map_take]
theorem xAt_len (bits : List Bool) (p n : Nat) (h : p + n ≤ bits.length) : (xAt bits p n).length = n := by simp [xAt]; omega
set_option maxHeartbeats 8000000 in
set_option maxRecDepth 100000 in
theorem pre_ref_get (v bv : Value) (rs : List (List Bool)) (bits : List Bool) (p : Nat) (w : World) (hv : RowsV w v rs.length (rs.map bn)) (hb : ViewL w bv (u8s (bn bits))) (hr : rs.length ≤ 512) (hr2 : ∀ r ∈ rs, r.length ≤ 20) (hl : bits.length ≤ 2 ^ 30) (hp : p ≤ bits.length) :
    Calls Try.prog 23 #[v, bv, .int .i64 p] w fun e w' => ∃ (s q : Nat) (er : Int), e = .returned (.tuple #[.int .i64 s, .int .i64 q, .int .i64 er]) ∧ IsDec rs bits p s q er ∧ ∃ m, w' = w.drewN m := by
  obtain ⟨ra, rcap, rfl, hrc⟩ := hv
  obtain ⟨bo, bcap, rfl⟩ := hb.shape
  have hbc : bits.length ≤ bcap := by
    obtain ⟨_, _, e, h, _⟩ := hb
    rw [length_u8s, length_bn] at e h
    cases e; exact h
  have HB2 := Lib.hid hb
  have HB := Lib.hid hb
  rw [length_u8s, length_bn] at HB ⊢
  have HRC := Lib.hid hrc
  have HR2 := Lib.hid hr2
  clear hb hrc hr2
  go_enter Try.func23, Try.ntmps23
  go_wp2_with fail
  go_loopw [9] (fun nv wr => ∃ n q : Nat, nv = .int .i64 n ∧ p + n ≤ bits.length ∧ (∀ j, j < n → GoOn rs bits p j) ∧ wr = w.drewN q) (fun nv _ => bits.length - (intOf nv).toNat)
  case atStart => exact ⟨0, 0, rfl, by omega, fun j hj => by omega, rfl⟩
  case round =>
    obtain ⟨n, q, rfl, hpn, hgo, rfl⟩ := hrel
    have HGO := Lib.hid hgo
    clear hgo
    obtain ⟨x, hx⟩ : ∃ x, x = xAt bits p n := ⟨_, rfl⟩
    have hxl : x.length = n := by rw [hx]; exact xAt_len bits p n hpn
    have hpc := bn_piece bits p n
    rw [← hx] at hpc
    have HX := Lib.hid hx
    have HPC := Lib.hid hpc
    clear hx hpc
    go_wp2_with fail
    go_loopw [10, 11] (fun sv iv wr => ∃ (i q : Nat) (f : Bool), iv = .int .i64 i ∧ sv = .bool f ∧ i ≤ rs.length ∧ (f = true ↔ BegTo rs x i) ∧ (∀ j, j < i → ¬ Hit rs x j) ∧ wr = w.drewN q) (fun _ iv _ => rs.length - (intOf iv).toNat)
    case atStart => exact ⟨0, q, false, rfl, rfl, Nat.zero_le _, by simp [BegTo], fun j hj => by omega, rfl⟩
    case round =>
      obtain ⟨i, q2, f, rfl, rfl, hi, hf, hnh, rfl⟩ := hrel
      have HF := Lib.hid hf
      have HNH := Lib.hid hnh
      clear hf hnh
      by_cases hin : i < rs.length
      · have hini : (i : Int) < (rs.length : Int) := by omega
        obtain ⟨r, hri⟩ : ∃ r, rs[i]? = some r := ⟨_, List.getElem?_eq_getElem hin⟩
        have hr20 := HR2.out r (List.mem_of_getElem? hri)
        obtain ⟨m, hm⟩ : ∃ m, r.length = m := ⟨_, rfl⟩
        obtain ⟨g, uo, uc, rfl, c1, c2, c3⟩ := HRC.out i (bn r) m (by simp [hri]) (by rw [length_bn, hm])
        have HS := Lib.hid (begTo_succ (x := x) hri)
        have HRI := Lib.hid hri
        have HM := Lib.hid hm
        rw [hm] at hr20
        clear hri hm
        by_cases hm0 : m = 0
        · subst hm0
          have c1n := fun k => (show (w.drewN k).cell? ⟨g, i, none⟩ = some (.slice uo 0 uc) from c1)
          clear c1 c2 c3
          go_wp2_with fail
          go_quiet (fail)
          go_wp2_with fail
          go_roundw
          case rel => exact ⟨i + 1, q2 + nq, f, by go_num, rfl, by omega, HF.out.trans ⟨fun h => HS.out.2 (Or.inl h), fun h => (HS.out.1 h).elim id (fun k => absurd (List.eq_nil_of_length_eq_zero HM.out) k.1)⟩, fun j hj hh => (by
            by_cases hji : j < i
            · exact HNH.out j hji hh
            · obtain rfl : j = i := by omega
              rw [Hit, HRI.out] at hh
              have e := Option.some.inj hh.1
              exact hh.2 (by rw [← e]; exact List.eq_nil_of_length_eq_zero HM.out)), by first | rfl | rw [World.drewN_drewN]⟩
          case measure => simp [intOf]; omega
        · have hm0i : ¬ (m : Int) = 0 := by omega
          have hm0b : ((m : Int) == 0) = false := beq_eq_false_iff_ne.2 hm0i
          have HRN := Lib.hid (show r ≠ [] from fun e => by have := HM.out; rw [e] at this; simp at this; omega)
          have hcp : ¬ bcap < p + n := by omega
          have hcpi : ((p : Int) + (n : Int)) ≤ (bcap : Int) := by omega
          by_cases hci : bcap = p
          · subst hci
            obtain rfl : n = 0 := by omega
            have k1 : IntKind.i64.wrap (bcap : Int) = (bcap : Int) := IntWalk.i64_in _ (by omega)
            have hpv := (HB2.out).piece_end 0 (by rw [length_u8s, length_bn]; omega)
            have HBEG := Lib.hid (show ∀ k, Calls Try.prog 38 #[.slice uo m uc, .slice bo 0 0] (w.drewN (q2 + k)) (fun e w' => e = .returned (.bool (decide (bn x <+: bn r))) ∧ ∃ j, w' = w.drewN (q2 + j)) from fun k => by
              have x1 : Ext w (w.drewN (q2 + k)) := (Ext.refl w).drewN _
              obtain rfl : x = [] := List.eq_nil_of_length_eq_zero hxl
              exact (pre_begins _ _ (bn r) (bn []) _ (c3.ext x1) (view_none0 bo _) (c2.ext x1) (bn_lt r) (bn_lt _)).mono (fun e w' ⟨h, m, hm⟩ => ⟨h, k + m, by rw [hm, World.drewN_drewN, Nat.add_assoc]⟩))
            clear c2 c3 hpv
            by_cases hpre : x <+: r
            · rw [show decide (bn x <+: bn r) = true from decide_eq_true ((bn_prefix x r).2 hpre)] at HBEG
              have HPRE := Lib.hid hpre
              clear hpre
              go_wp2_with fail
              go_quiet (exact HBEG.out _)
              clear k1
              by_cases hmn : m = 0
              · exact absurd hmn hm0
              · have hmni : ¬ (m : Int) = 0 := by omega
                have hmnb : ((m : Int) == 0) = false := beq_eq_false_iff_ne.2 hmni
                go_wp2_with fail
                go_roundw
                case rel => exact ⟨i + 1, q2 + nq, true, by go_num, rfl, by omega, ⟨fun _ => HS.out.2 (Or.inr ⟨HRN.out, HPRE.out⟩), fun _ => rfl⟩, fun j hj hh => (by
                  by_cases hji : j < i
                  · exact HNH.out j hji hh
                  · obtain rfl : j = i := by omega
                    rw [Hit, HRI.out] at hh
                    have e := congrArg List.length (Option.some.inj hh.1)
                    rw [HM.out, hxl] at e
                    exact hmn e), by first | rfl | rw [World.drewN_drewN]⟩
                case measure => simp [intOf]; omega
            · rw [show decide (bn x <+: bn r) = false from decide_eq_false (fun h => hpre ((bn_prefix x r).1 h))] at HBEG
              have HPRE := Lib.hid hpre
              clear hpre
              go_wp2_with fail
              go_quiet (exact HBEG.out _)
              clear k1
              go_wp2_with fail
              go_roundw
              case rel => exact ⟨i + 1, q2 + nq, f, by go_num, rfl, by omega, HF.out.trans ⟨fun h => HS.out.2 (Or.inl h), fun h => (HS.out.1 h).elim id (fun k => absurd k.2 HPRE.out)⟩, fun j hj hh => (by
                by_cases hji : j < i
                · exact HNH.out j hji hh
                · obtain rfl : j = i := by omega
                  rw [Hit, HRI.out] at hh
                  have e := Option.some.inj hh.1
                  exact HPRE.out (by rw [e]; exact List.prefix_refl _)), by first | rfl | rw [World.drewN_drewN]⟩
              case measure => simp [intOf]; omega
          · have k1 : IntKind.i64.wrap ((p : Int) + (n : Int)) = (p : Int) + (n : Int) := IntWalk.i64_in _ (by omega)
            have hpv := (HB2.out).piece p n (by rw [length_u8s, length_bn]; omega) hci
            have HBEG := Lib.hid (show ∀ k, Calls Try.prog 38 #[.slice uo m uc, .slice (bo.map fun y => y.add p) n (bcap - p)] (w.drewN (q2 + k)) (fun e w' => e = .returned (.bool (decide (bn x <+: bn r))) ∧ ∃ j, w' = w.drewN (q2 + j)) from fun k => by
              have x1 : Ext w (w.drewN (q2 + k)) := (Ext.refl w).drewN _
              have h2 : ((u8s (bn bits)).drop p).take n = u8s (bn x) := by rw [← HPC.out]; simp [u8s, List.map_drop, List.map_take]
              rw [h2] at hpv
              exact (pre_begins _ _ (bn r) (bn x) _ (c3.ext x1) (viewL_view (hpv.ext x1) (by rw [length_bn]; exact hxl)) (c2.ext x1) (bn_lt r) (bn_lt _)).mono (fun e w' ⟨h, m, hm⟩ => ⟨h, k + m, by rw [hm, World.drewN_drewN, Nat.add_assoc]⟩))
            clear c2 c3 hpv
            by_cases hpre : x <+: r
            · rw [show decide (bn x <+: bn r) = true from decide_eq_true ((bn_prefix x r).2 hpre)] at HBEG
              have HPRE := Lib.hid hpre
              clear hpre
              go_wp2_with fail
              go_quiet (exact HBEG.out _)
              clear k1
              by_cases hmn : m = n
              · have hmni : (m : Int) = (n : Int) := by omega
                have HD := Lib.hid (show IsDec rs bits p i (p + n) 0 from ⟨n, rfl, hpn, HGO.out, Or.inl ⟨rfl, by
                  rw [← HX.out]
                  have e : x = r := HPRE.out.eq_of_length (by rw [hxl, HM.out, hmn])
                  rw [e]
                  exact ⟨HRI.out, HRN.out⟩⟩⟩)
                go_wp2_with fail
                go_ret3
                exact ⟨i, p + n, 0, rfl, HD.out, q2 + nq, by first | rfl | rw [World.drewN_drewN]⟩
              · have hmni : ¬ (m : Int) = (n : Int) := by omega
                have hmnb : ((m : Int) == (n : Int)) = false := beq_eq_false_iff_ne.2 hmni
                go_wp2_with fail
                go_roundw
                case rel => exact ⟨i + 1, q2 + nq, true, by go_num, rfl, by omega, ⟨fun _ => HS.out.2 (Or.inr ⟨HRN.out, HPRE.out⟩), fun _ => rfl⟩, fun j hj hh => (by
                  by_cases hji : j < i
                  · exact HNH.out j hji hh
                  · obtain rfl : j = i := by omega
                    rw [Hit, HRI.out] at hh
                    have e := congrArg List.length (Option.some.inj hh.1)
                    rw [HM.out, hxl] at e
                    exact hmn e), by first | rfl | rw [World.drewN_drewN]⟩
                case measure => simp [intOf]; omega
            · rw [show decide (bn x <+: bn r) = false from decide_eq_false (fun h => hpre ((bn_prefix x r).1 h))] at HBEG
              have HPRE := Lib.hid hpre
              clear hpre
              go_wp2_with fail
              go_quiet (exact HBEG.out _)
              clear k1
              go_wp2_with fail
              go_roundw
              case rel => exact ⟨i + 1, q2 + nq, f, by go_num, rfl, by omega, HF.out.trans ⟨fun h => HS.out.2 (Or.inl h), fun h => (HS.out.1 h).elim id (fun k => absurd k.2 HPRE.out)⟩, fun j hj hh => (by
                by_cases hji : j < i
                · exact HNH.out j hji hh
                · obtain rfl : j = i := by omega
                  rw [Hit, HRI.out] at hh
                  have e := Option.some.inj hh.1
                  exact HPRE.out (by rw [e]; exact List.prefix_refl _)), by first | rfl | rw [World.drewN_drewN]⟩
              case measure => simp [intOf]; omega
      · obtain rfl : i = rs.length := by omega
        have hbg : f = true ↔ Beg rs x := HF.out.trans begTo_all
        have hno : ¬ ∃ i, Hit rs x i := fun ⟨j, h⟩ => HNH.out j (getE_lt h.1) h
        have HBG := Lib.hid hbg
        have HNO := Lib.hid hno
        have hn63 : wrap64 ((p : Int) + (n : Int)) = (p : Int) + (n : Int) := IntWalk.wrap64_in _ (by omega)
        clear hbg hno
        cases f with
        | false =>
          have HD := Lib.hid (show IsDec rs bits p 0 (p + n) 2 from ⟨n, rfl, hpn, HGO.out, Or.inr ⟨rfl, rfl, by rw [← HX.out]; exact HNO.out, Or.inl (by rw [← HX.out]; intro h; have := HBG.out.2 h; cases this)⟩⟩)
          go_wp2_with fail
          go_ret3
          exact ⟨0, p + n, 2, rfl, HD.out, _, rfl⟩
        | true =>
          by_cases hend : p + n = bits.length
          · have hendi : (p : Int) + (n : Int) = (bits.length : Int) := by omega
            have HD := Lib.hid (show IsDec rs bits p 0 bits.length 2 from ⟨n, hend.symm, Nat.le_refl _, HGO.out, Or.inr ⟨rfl, rfl, by rw [← HX.out]; exact HNO.out, Or.inr hend⟩⟩)
            go_wp2_with fail
            go_ret3
            exact ⟨0, bits.length, 2, rfl, HD.out, _, rfl⟩
          · have hendi : ¬ (p : Int) + (n : Int) = (bits.length : Int) := by omega
            have hendb : ((p : Int) + (n : Int) == (bits.length : Int)) = false := beq_eq_false_iff_ne.2 hendi
            have HG2 := Lib.hid (show ∀ j, j < n + 1 → GoOn rs bits p j from fun j hj => by
              by_cases hjn : j < n
              · exact HGO.out j hjn
              · obtain rfl : j = n := by omega
                exact ⟨by rw [← HX.out]; exact HNO.out, by rw [← HX.out]; exact HBG.out.1 rfl, hend⟩)
            go_wp2_with fail
            go_roundw
            case rel => exact ⟨n + 1, q2, by go_num, by omega, HG2.out, rfl⟩
            case measure => simp [intOf]; omega
end Go.Proofs.Ytomnhfcckalkiaa
