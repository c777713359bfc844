/- Heads that are put and got: plain. -/
import Derived.Test.YtbbcphloafmldaaGreatBnd21
namespace Go.Proofs.YtbbcphloafmldaaGreat
set_option linter.unusedVariables false
set_option linter.unusedSimpArgs false

theorem drop_app {P Q : List Nat} {p : Nat} (h : P.length = p) : (P ++ Q).drop p = Q := by subst h; simp
theorem take_app {P Q : List Nat} {p : Nat} (h : P.length = p) : (P ++ Q).take p = P := by subst h; simp
theorem sb_strOf (l : List Nat) (h : ∀ b ∈ l, b < 256) : sb (strOf l) = l := by
  simp only [sb, strOf, List.map_map]
  refine (List.map_congr_left (g := id) (fun x hx => ?_)).trans (List.map_id _)
  have := h x hx
  simp [Function.comp]; omega
theorem str_empty {s : ByteArray} (h : s.size = 0) : s = ⟨#[]⟩ := by
  have e : sb s = [] := List.eq_nil_of_length_eq_zero (by rw [length_sb, h])
  rw [← strOf_sb s, e]; rfl
theorem fzI_app (l r : List Nat) (h : 0 ∉ l) : fzI (l ++ 0 :: r) = l.length := by
  induction l with
  | nil => simp [fzI]
  | cons b l ih =>
    have hb : b ≠ 0 := fun e => h (by rw [e]; exact List.mem_cons_self ..)
    have ih := ih (fun e => h (List.mem_cons_of_mem _ e))
    rw [List.cons_append, fzI, if_neg hb, ih, if_neg (by omega)]; simp
theorem fz_app {P l r : List Nat} {p : Nat} (hp : P.length = p) (h : 0 ∉ l) : fz (P ++ (l ++ 0 :: r)) p = some l.length := by
  rw [fz, drop_app hp, fzI_app l r h, if_neg (by omega)]; simp
theorem stX_back {P ex R : List Nat} {p f : Nat} (h : Hd) (hp : P.length = p) (hf : f / 4 % 2 = 1) (hex : ex.length ≤ 65535) :
    stX (P ++ (leN 2 ex.length ++ ex ++ R)) f (h, p) = some ({ h with has := h.has + 1, extra := ex }, p + 2 + ex.length) := by
  have e1 : exL (P ++ (leN 2 ex.length ++ ex ++ R)) p = ex.length := by
    rw [exL, drop_app hp, List.append_assoc, take_app (length_leN _ _), valL_leN]
    exact Nat.mod_eq_of_lt (by omega)
  have e2 : exB (P ++ (leN 2 ex.length ++ ex ++ R)) p = ex := by
    rw [exB, e1, show P ++ (leN 2 ex.length ++ ex ++ R) = (P ++ leN 2 ex.length) ++ (ex ++ R) by simp, drop_app (by simp [length_leN, hp]), take_app rfl]
  rw [stX, if_pos hf]
  simp only [e1, e2]
  rw [if_pos (by simp [length_leN, hp]; omega)]
theorem stN_back {P l R : List Nat} {p f : Nat} (h : Hd) (hp : P.length = p) (hf : f / 8 % 2 = 1) (hl : 0 ∉ l) :
    stN (P ++ (l ++ 0 :: R)) f (h, p) = some ({ h with has := h.has + 2, name := strOf l }, p + (l.length + 1)) := by
  rw [stN, if_pos hf]
  simp only [fz_app hp hl, drop_app hp, take_app rfl, Option.map_some]
theorem stC_back {P l R : List Nat} {p f : Nat} (h : Hd) (hp : P.length = p) (hf : f / 16 % 2 = 1) (hl : 0 ∉ l) :
    stC (P ++ (l ++ 0 :: R)) f (h, p) = some ({ h with has := h.has + 4, comment := strOf l }, p + (l.length + 1)) := by
  rw [stC, if_pos hf]
  simp only [fz_app hp hl, drop_app hp, take_app rfl, Option.map_some]
theorem stS_back {P R : List Nat} {p f x y : Nat} (h : Hd) (hp : P.length = p) (hf : f / 2 % 2 = 1) :
    stS (P ++ (x :: y :: R)) f (h, p) = some ({ h with sum := true }, p + 2, decide (x + 256 * y ≠ crcL P % 65536)) := by
  have e1 : exL (P ++ (x :: y :: R)) p = x + 256 * y := by rw [exL, drop_app hp]; simp [valL]
  rw [stS, if_pos hf]
  simp only [e1, take_app hp]
  rw [if_pos (by simp [hp])]
/-- a head without its sum. -/
def noS (h : Hd) : Hd := { h with sum := false }
def hZero (h : Hd) : Hd := { text := h.text, time := h.time, xfl := h.xfl, os := h.os, extra := [], name := ⟨#[]⟩, comment := ⟨#[]⟩, has := 0, sum := false }
def hX (h : Hd) : Hd := { hZero h with has := h.has % 2, extra := h.extra }
def hN (h : Hd) : Hd := { hX h with has := h.has % 2 + h.has / 2 % 2 * 2, name := h.name }
theorem len_fx8 (h : Hd) (f : Nat) : (fx8 h f).length = 10 := by simp [fx8, length_leN]
theorem fx8_form (h : Hd) (f : Nat) : fx8 h f = 31 :: 139 :: 8 :: f :: (leN 4 h.time ++ [h.xfl, h.os]) := rfl
theorem leN4_form (v : Nat) : ∃ a b c d, leN 4 v = [a, b, c, d] := ⟨_, _, _, _, rfl⟩
theorem hd0_back (h : Hd) (ok : HOk h) (h8 : h.has < 8) (Q : List Nat) : hd0 (fx8 h (flH h) ++ Q) = hZero h := by
  have hv : valL (leN 4 h.time) = h.time := by rw [valL_leN]; exact Nat.mod_eq_of_lt (by have := ok.time; omega)
  obtain ⟨a, b, c, d, e⟩ := leN4_form h.time
  rw [hd0, hZero, fx8_form, e]
  rw [e] at hv
  have ht : decide (flH h % 2 = 1) = h.text := by
    unfold flH fl0
    cases h.text <;> cases h.sum <;> simp <;> omega
  simp only [List.cons_append, List.nil_append, List.getD_cons_succ, List.getD_cons_zero, List.drop_succ_cons, List.drop_zero, List.take_succ_cons, List.take_zero, hv, ht]
theorem app_px (h : Hd) (Q : List Nat) : ∃ Q', px h ++ Q = fx8 h (flH h) ++ Q' := by
  unfold px; split
  · exact ⟨_, by rw [List.append_assoc, List.append_assoc]⟩
  · exact ⟨Q, rfl⟩
theorem app_pn (h : Hd) (Q : List Nat) : ∃ Q', pn h ++ Q = px h ++ Q' := by
  unfold pn; split
  · exact ⟨_, by rw [List.append_assoc, List.append_assoc]⟩
  · exact ⟨Q, rfl⟩
theorem app_pc (h : Hd) (Q : List Nat) : ∃ Q', pc h ++ Q = pn h ++ Q' := by
  unfold pc; split
  · exact ⟨_, by rw [List.append_assoc, List.append_assoc]⟩
  · exact ⟨Q, rfl⟩
theorem px_back (h : Hd) (may : MayH h) (Q : List Nat) : stX (px h ++ Q) (flH h) (hZero h, 10) = some (hX h, (px h).length) := by
  have hf := (flH_lt h may.1).2
  by_cases hx : h.has % 2 = 1
  · rw [px, if_pos hx, List.append_assoc, List.append_assoc, ← List.append_assoc (leN 2 _), stX_back (hZero h) (len_fx8 _ _) (by rw [hf]; exact hx) may.2.1]
    simp [hX, hZero, hx, len_fx8, length_leN]; omega
  · have h0 : h.extra = [] := List.eq_nil_of_length_eq_zero (by have := may.2.2.1; omega)
    rw [px, if_neg hx, stX, if_neg (by rw [hf]; exact hx), len_fx8]
    simp [hX, hZero, h0]; omega
theorem pn_back (h : Hd) (may : MayH h) (Q : List Nat) : stN (pn h ++ Q) (flH h) (hX h, (px h).length) = some (hN h, (pn h).length) := by
  have hf := (flH_lt h may.1).2
  by_cases hx : h.has / 2 % 2 = 1
  · rw [pn, if_pos hx, List.append_assoc, List.append_assoc, show [0] ++ Q = 0 :: Q from rfl, stN_back (hX h) rfl (by rw [show flH h / 8 = h.has / 2 by omega]; exact hx) may.2.2.2.2.2.1]
    simp [hN, hX, hx, strOf_sb]
  · have h0 : h.name = ⟨#[]⟩ := str_empty (by have := may.2.2.2.1; omega)
    rw [pn, if_neg hx, stN, if_neg (by rw [show flH h / 8 = h.has / 2 by omega]; exact hx)]
    have h3 : h.has / 2 % 2 = 0 := by omega
    simp [hN, hX, hZero, h0, h3]
theorem pc_back (h : Hd) (may : MayH h) (Q : List Nat) : stC (pc h ++ Q) (flH h) (hN h, (pn h).length) = some (noS h, (pc h).length) := by
  have hf := (flH_lt h may.1).2
  have h8 := may.1
  by_cases hx : h.has / 4 % 2 = 1
  · rw [pc, if_pos hx, List.append_assoc, List.append_assoc, show [0] ++ Q = 0 :: Q from rfl, stC_back (hN h) rfl (by rw [show flH h / 16 = h.has / 4 by omega]; exact hx) may.2.2.2.2.2.2]
    simp [hN, hX, hZero, noS, strOf_sb]
    omega
  · have h0 : h.comment = ⟨#[]⟩ := str_empty (by have := may.2.2.2.2.1; omega)
    rw [pc, if_neg hx, stC, if_neg (by rw [show flH h / 16 = h.has / 4 by omega]; exact hx)]
    have h3 : h.has / 4 % 2 = 0 := by omega
    have h4 : h.has % 2 + h.has / 2 % 2 * 2 = h.has := by omega
    simp [hN, hX, hZero, noS, h0, h4]
theorem getH_open (h : Hd) (ok : HOk h) (may : MayH h) (Q : List Nat) : getH (pc h ++ Q) = stS (pc h ++ Q) (flH h) (noS h, (pc h).length) := by
  have h1 := pc_back h may Q
  obtain ⟨Q1, e1⟩ := app_pc h Q
  have h2 := pn_back h may Q1
  rw [← e1] at h2
  obtain ⟨Q2, e2⟩ := app_pn h Q1
  have h3 := px_back h may Q2
  rw [← e2, ← e1] at h3
  obtain ⟨Q3, e3⟩ := app_px h Q2
  have e : pc h ++ Q = fx8 h (flH h) ++ Q3 := by rw [e1, e2, e3]
  have h4 := hd0_back h ok may.1 Q3
  rw [← e] at h4
  have h5 : (pc h ++ Q).getD 3 0 = flH h := by rw [e, fx8_form]; rfl
  rw [getH, h5, h4, if_pos, h3]
  · simp only [Option.bind_some, h2, h1]
  · refine ⟨?_, ?_, (flH_lt h may.1).1⟩
    · rw [e, List.length_append, len_fx8]; omega
    · rw [e, fx8_form]; rfl
theorem fl_sum (h : Hd) : flH h / 2 % 2 = if h.sum then 1 else 0 := by
  unfold flH fl0
  cases h.text <;> cases h.sum <;> simp <;> omega
theorem getH_plain (h : Hd) (ok : HOk h) (may : MayH h) (hs : h.sum = false) (Q : List Nat) : getH (pc h ++ Q) = some (h, (pc h).length, false) := by
  have hf := fl_sum h
  rw [hs] at hf
  rw [getH_open h ok may, stS, if_neg (by rw [hf]; decide)]
  have : noS h = h := by cases h; cases hs; rfl
  rw [this]
theorem getH_sum (h : Hd) (ok : HOk h) (may : MayH h) (hs : h.sum = true) (x y : Nat) (Q : List Nat) : getH (pc h ++ (x :: y :: Q)) = some (h, (pc h).length + 2, decide (x + 256 * y ≠ crcL (pc h) % 65536)) := by
  have hf := fl_sum h
  rw [hs] at hf
  rw [getH_open h ok may, stS_back _ rfl hf]
  have : ({ noS h with sum := true } : Hd) = h := by cases h; cases hs; rfl
  rw [this]
theorem leN2_form (v : Nat) : leN 2 v = [v % 256, v / 256 % 256] := by
  have : leN 2 v = [v / 256 ^ 0 % 256, v / 256 ^ 1 % 256] := rfl
  rw [this]; simp
/-- what is put is got. -/
theorem getH_putH (h : Hd) (ok : HOk h) (may : MayH h) (Q : List Nat) : getH (putH h ++ Q) = some (h, (putH h).length, false) := by
  cases hs : h.sum with
  | false => rw [putH, hs]; exact getH_plain h ok may hs Q
  | true =>
    rw [putH, hs, if_pos rfl, leN2_form, List.append_assoc]
    refine (getH_sum h ok may hs _ _ Q).trans ?_
    have : crcL (pc h) % 256 + 256 * (crcL (pc h) / 256 % 256) = crcL (pc h) % 65536 := by omega
    rw [this]; simp
theorem stX_inv {bs : List Nat} {f p : Nat} {h : Hd} {s : Hd × Nat} (hb : ∀ b ∈ bs, b < 256) (hp : p ≤ bs.length) (hs : stX bs f (h, p) = some s) :
    (f / 4 % 2 = 1 ∧ ∃ ex : List Nat, ex.length ≤ 65535 ∧ (∀ b ∈ ex, b < 256) ∧ s = ({ h with has := h.has + 1, extra := ex }, p + 2 + ex.length) ∧ p + 2 + ex.length ≤ bs.length ∧ bs.take (p + 2 + ex.length) = (bs.take p ++ leN 2 ex.length) ++ ex) ∨ (f / 4 % 2 = 0 ∧ s = (h, p)) := by
  rw [stX] at hs
  by_cases hf : f / 4 % 2 = 1
  · rw [if_pos hf] at hs
    simp only at hs
    by_cases hc : p + 2 + exL bs p ≤ bs.length
    · rw [if_pos hc] at hs
      have hlt := exL_lt bs p hb
      have hl : (exB bs p).length = exL bs p := by rw [exB, List.length_take, List.length_drop]; omega
      refine Or.inl ⟨hf, exB bs p, by omega, fun b h => hb b (List.mem_of_mem_drop (List.mem_of_mem_take h)), ?_, by omega, ?_⟩
      · rw [hl]; exact (Option.some.inj hs).symm
      · rw [hl]
        have h2 : ((bs.drop p).take 2).length = 2 := by rw [List.length_take, List.length_drop]; omega
        have e : leN 2 (exL bs p) = (bs.drop p).take 2 := by
          have := leN_valL ((bs.drop p).take 2) (fun b h => hb b (List.mem_of_mem_drop (List.mem_of_mem_take h)))
          rw [h2] at this; exact this
        rw [e, exB, List.take_add (i := p + 2), List.take_add (i := p)]
    · rw [if_neg hc] at hs; cases hs
  · rw [if_neg hf] at hs
    exact Or.inr ⟨by omega, (Option.some.inj hs).symm⟩
theorem fz_inv {bs : List Nat} {p z : Nat} (h : fz bs p = some z) : p + (z + 1) ≤ bs.length ∧ 0 ∉ (bs.drop p).take z ∧ bs.take (p + (z + 1)) = bs.take p ++ (bs.drop p).take z ++ [0] := by
  rw [fz] at h
  by_cases hc : fzI (bs.drop p) = -1
  · rw [if_pos hc] at h; cases h
  · rw [if_neg hc] at h
    obtain ⟨z', h1, h2, h3, h4⟩ := fzI_nat _ hc
    obtain rfl : z' = z := by have := Option.some.inj h; omega
    rw [List.length_drop] at h2
    refine ⟨by omega, h4, ?_⟩
    rw [List.take_add (i := p), List.append_assoc, List.take_add (i := z')]
    congr 2
    rw [List.take_one, List.head?_drop, h3]; rfl
theorem stN_inv {bs : List Nat} {f p : Nat} {h : Hd} {s : Hd × Nat} (hb : ∀ b ∈ bs, b < 256) (hs : stN bs f (h, p) = some s) :
    (f / 8 % 2 = 1 ∧ ∃ l : List Nat, 0 ∉ l ∧ sb (strOf l) = l ∧ s = ({ h with has := h.has + 2, name := strOf l }, p + (l.length + 1)) ∧ p + (l.length + 1) ≤ bs.length ∧ bs.take (p + (l.length + 1)) = (bs.take p ++ l) ++ [0]) ∨ (f / 8 % 2 = 0 ∧ s = (h, p)) := by
  rw [stN] at hs
  by_cases hf : f / 8 % 2 = 1
  · rw [if_pos hf] at hs
    obtain ⟨z, hz, e⟩ := Option.map_eq_some_iff.1 hs
    obtain ⟨h1, h2, h3⟩ := fz_inv hz
    simp only at h1 h2 h3 e
    have hl : ((bs.drop p).take z).length = z := by rw [List.length_take, List.length_drop]; omega
    exact Or.inl ⟨hf, (bs.drop p).take z, h2, sb_strOf _ (fun b h => hb b (List.mem_of_mem_drop (List.mem_of_mem_take h))), by rw [hl]; exact e.symm, by omega, by rw [hl]; exact h3⟩
  · rw [if_neg hf] at hs
    exact Or.inr ⟨by omega, (Option.some.inj hs).symm⟩
theorem stC_inv {bs : List Nat} {f p : Nat} {h : Hd} {s : Hd × Nat} (hb : ∀ b ∈ bs, b < 256) (hs : stC bs f (h, p) = some s) :
    (f / 16 % 2 = 1 ∧ ∃ l : List Nat, 0 ∉ l ∧ sb (strOf l) = l ∧ s = ({ h with has := h.has + 4, comment := strOf l }, p + (l.length + 1)) ∧ p + (l.length + 1) ≤ bs.length ∧ bs.take (p + (l.length + 1)) = (bs.take p ++ l) ++ [0]) ∨ (f / 16 % 2 = 0 ∧ s = (h, p)) := by
  rw [stC] at hs
  by_cases hf : f / 16 % 2 = 1
  · rw [if_pos hf] at hs
    obtain ⟨z, hz, e⟩ := Option.map_eq_some_iff.1 hs
    obtain ⟨h1, h2, h3⟩ := fz_inv hz
    simp only at h1 h2 h3 e
    have hl : ((bs.drop p).take z).length = z := by rw [List.length_take, List.length_drop]; omega
    exact Or.inl ⟨hf, (bs.drop p).take z, h2, sb_strOf _ (fun b h => hb b (List.mem_of_mem_drop (List.mem_of_mem_take h))), by rw [hl]; exact e.symm, by omega, by rw [hl]; exact h3⟩
  · rw [if_neg hf] at hs
    exact Or.inr ⟨by omega, (Option.some.inj hs).symm⟩
def pcF (F : List Nat) (has : Nat) (ex nm cm : List Nat) : List Nat :=
  let x := if has % 2 = 1 then (F ++ leN 2 ex.length) ++ ex else F
  let n := if has / 2 % 2 = 1 then (x ++ nm) ++ [0] else x
  if has / 4 % 2 = 1 then (n ++ cm) ++ [0] else n
theorem pc_eq {h : Hd} {f : Nat} {F : List Nat} (hfl : f = flH h) (hF : fx8 h f = F) : pc h = pcF F h.has h.extra (sb h.name) (sb h.comment) := by subst hfl; subst hF; rfl
/-- what a head that was got is: all fields but the sum's. -/
structure PcOk (bs : List Nat) (f : Nat) (h : Hd) (p : Nat) : Prop where
  sum : h.sum = false
  text : h.text = decide (f % 2 = 1)
  has : h.has = f / 4
  le : p ≤ bs.length
  ge : 10 ≤ p
  pc : ∀ b : Bool, f = flH { h with sum := b } → pc { h with sum := b } = bs.take p
  ok : HOk h
  may : MayH h
theorem sb_empty : sb ⟨#[]⟩ = [] := rfl
theorem size_empty : (⟨#[]⟩ : ByteArray).size = 0 := rfl
theorem size_strOf (l : List Nat) : (strOf l).size = l.length := by simp [strOf, ByteArray.size]
theorem bits_of {f : Nat} (h : f < 32) (b4 b8 b16 : Nat) (h1 : f / 4 % 2 = b4) (h2 : f / 8 % 2 = b8) (h3 : f / 16 % 2 = b16) : b4 + b8 * 2 + b16 * 4 = f / 4 := by omega
theorem pcOk' {bs : List Nat} {f T X O : Nat} {s1 s2 s3 : Hd × Nat} (hb : ∀ b ∈ bs, b < 256) (h10 : 10 ≤ bs.length) (hf : f < 32) (hT : T < 4294967296) (hX : X < 256) (hO : O < 256) (e10 : ∀ h : Hd, h.time = T → h.xfl = X → h.os = O → fx8 h f = bs.take 10)
    (hx : stX bs f (⟨decide (f % 2 = 1), T, X, O, [], ⟨#[]⟩, ⟨#[]⟩, 0, false⟩, 10) = some s1) (hn : stN bs f s1 = some s2) (hc : stC bs f s2 = some s3) :
    PcOk bs f s3.1 s3.2 := by
  rcases stX_inv hb (by omega) hx with ⟨f1, ex, x1, x2, rfl, x4, x5⟩ | ⟨f1, rfl⟩ <;>
  rcases stN_inv hb hn with ⟨f2, nm, n1, n2, rfl, n4, n5⟩ | ⟨f2, rfl⟩ <;>
  rcases stC_inv hb hc with ⟨f3, cm, c1, c2, rfl, c4, c5⟩ | ⟨f3, rfl⟩ <;>
  (refine ⟨rfl, rfl, ?_, by first | exact c4 | exact n4 | exact x4 | exact h10, by simp only; omega, fun b hfl => ?_, ⟨hT, hX, hO, ?_, by first | exact x2 | (intro b hb; exact absurd hb (List.not_mem_nil))⟩, ?_⟩
   · simp only; omega
   · rw [pc_eq hfl (e10 _ rfl rfl rfl)]
     simp only at *
     simp [pcF, sb_empty, *]
   · simp only; omega
   · clear hx hn hc
     simp [MayH, sb_empty, size_empty, *])
theorem pcOk {bs : List Nat} {s1 s2 s3 : Hd × Nat} (hb : ∀ b ∈ bs, b < 256) (h10 : 10 ≤ bs.length) (h3 : bs.take 3 = [31, 139, 8]) (hf : bs.getD 3 0 < 32) (hx : stX bs (bs.getD 3 0) (hd0 bs, 10) = some s1) (hn : stN bs (bs.getD 3 0) s1 = some s2) (hc : stC bs (bs.getD 3 0) s2 = some s3) :
    PcOk bs (bs.getD 3 0) s3.1 s3.2 := by
  have hl : ((bs.drop 4).take 4).length = 4 := by rw [List.length_take, List.length_drop]; omega
  have hb4 : ∀ b ∈ (bs.drop 4).take 4, b < 256 := fun b h => hb b (List.mem_of_mem_drop (List.mem_of_mem_take h))
  have hg : ∀ i, bs.getD i 0 < 256 := fun i => by
    rw [List.getD_eq_getElem?_getD]
    cases h : bs[i]? with
    | none => simp
    | some b => exact hb b (List.mem_of_getElem? h)
  refine pcOk' hb h10 hf ?_ (hg 8) (hg 9) ?_ hx hn hc
  · have := valL_lt _ hb4
    rw [hl] at this; exact this
  · intro h e1 e2 e3
    rw [fx8, e1, e2, e3]
    have := leN_valL _ hb4
    rw [hl] at this
    rw [this]
    have e : bs.take 10 = bs.take 3 ++ (bs.drop 3).take 1 ++ (bs.drop 4).take 4 ++ (bs.drop 8).take 2 := by
      rw [← List.take_add, ← List.take_add, ← List.take_add]
    rw [e, h3]
    have k1 : (bs.drop 3).take 1 = [bs.getD 3 0] := by
      rw [List.take_one, List.head?_drop, List.getElem?_eq_getElem (by omega), List.getD_eq_getElem?_getD, List.getElem?_eq_getElem (by omega)]; rfl
    have k2 : (bs.drop 8).take 2 = [bs.getD 8 0, bs.getD 9 0] := by
      rw [List.take_add (i := 1) (j := 1) (l := bs.drop 8), List.drop_drop, List.take_one, List.take_one, List.head?_drop, List.head?_drop, List.getElem?_eq_getElem (by omega), List.getElem?_eq_getElem (by omega), List.getD_eq_getElem?_getD, List.getD_eq_getElem?_getD, List.getElem?_eq_getElem (by omega), List.getElem?_eq_getElem (by omega)]; rfl
    rw [k1, k2]; simp
/-- what was got may be put. -/
structure Inv (bs : List Nat) (h : Hd) (n : Nat) (wr : Bool) : Prop where
  ok : HOk h
  may : MayH h
  le : n ≤ bs.length
  plain : h.sum = false → wr = false ∧ pc h = bs.take n
  sum : h.sum = true → 12 ≤ n ∧ pc h = bs.take (n - 2) ∧ wr = decide (valL ((bs.drop (n - 2)).take 2) ≠ crcL (bs.take (n - 2)) % 65536)
theorem getH_inv {bs : List Nat} {h : Hd} {n : Nat} {wr : Bool} (hb : ∀ b ∈ bs, b < 256) (hg : getH bs = some (h, n, wr)) : Inv bs h n wr := by
  rw [getH] at hg
  by_cases hc : 10 ≤ bs.length ∧ bs.take 3 = [31, 139, 8] ∧ bs.getD 3 0 < 32
  · rw [if_pos hc] at hg
    obtain ⟨s1, hx, hg⟩ := Option.bind_eq_some_iff.1 hg
    obtain ⟨s2, hn, hg⟩ := Option.bind_eq_some_iff.1 hg
    obtain ⟨s3, hcm, hg⟩ := Option.bind_eq_some_iff.1 hg
    have P := pcOk hb hc.1 hc.2.1 hc.2.2 hx hn hcm
    have h32 := hc.2.2
    generalize bs.getD 3 0 = f at *
    obtain ⟨h3, p⟩ := s3
    simp only at P
    have hfl : ∀ b : Bool, (f / 2 % 2 = if b then 1 else 0) → f = flH { h3 with sum := b } := by
      intro b hb
      have e1 := P.text
      have e2 := P.has
      unfold flH fl0
      simp only [e1, e2]
      cases b <;> by_cases h2 : f % 2 = 1 <;> simp [h2] at hb ⊢ <;> omega
    rw [stS] at hg
    by_cases hs : f / 2 % 2 = 1
    · rw [if_pos hs] at hg
      simp only at hg
      by_cases hle : p + 2 ≤ bs.length
      · rw [if_pos hle] at hg
        have := Option.some.inj hg
        obtain ⟨rfl, rfl, rfl⟩ : { h3 with sum := true } = h ∧ p + 2 = n ∧ decide (exL bs p ≠ crcL (bs.take p) % 65536) = wr := by simpa using this
        have ge := P.ge
        refine ⟨⟨P.ok.time, P.ok.xfl, P.ok.os, P.ok.has, P.ok.extra⟩, P.may, hle, fun e => (by cases e), fun _ => ⟨by omega, ?_, rfl⟩⟩
        exact P.pc true (hfl true (by simpa using hs))
      · rw [if_neg hle] at hg; cases hg
    · rw [if_neg hs] at hg
      have := Option.some.inj hg
      obtain ⟨rfl, rfl, rfl⟩ : h3 = h ∧ p = n ∧ false = wr := by simpa using this
      have hs0 := P.sum
      have e : ({ h3 with sum := false } : Hd) = h3 := by cases h3; cases hs0; rfl
      have k := P.pc false (hfl false (by simp; omega))
      rw [e] at k
      exact ⟨P.ok, P.may, P.le, fun _ => ⟨rfl, k⟩, fun e => by rw [hs0] at e; cases e⟩
  · rw [if_neg hc] at hg; cases hg
/-- more behind changes nothing. -/
theorem getH_more {bs : List Nat} {h : Hd} {n : Nat} {wr : Bool} (hb : ∀ b ∈ bs, b < 256) (hg : getH bs = some (h, n, wr)) (t : List Nat) : getH (bs ++ t) = some (h, n, wr) := by
  have I := getH_inv hb hg
  have hle := I.le
  cases hs : h.sum with
  | false =>
    obtain ⟨rfl, hp⟩ := I.plain hs
    have e : bs ++ t = pc h ++ (bs.drop n ++ t) := by rw [hp, ← List.append_assoc, List.take_append_drop]
    rw [e, getH_plain h I.ok I.may hs, hp, List.length_take, Nat.min_eq_left hle]
  | true =>
    obtain ⟨h12, hp, hw⟩ := I.sum hs
    have h2 : ((bs.drop (n - 2)).take 2).length = 2 := by rw [List.length_take, List.length_drop]; omega
    obtain ⟨x, y, hxy⟩ : ∃ x y, (bs.drop (n - 2)).take 2 = [x, y] := by
      generalize (bs.drop (n - 2)).take 2 = l at h2
      match l, h2 with
      | [x, y], _ => exact ⟨x, y, rfl⟩
    have e : bs ++ t = pc h ++ (x :: y :: (bs.drop n ++ t)) := by
      have k : bs = bs.take (n - 2) ++ ((bs.drop (n - 2)).take 2 ++ bs.drop n) := by
        have : bs.drop n = (bs.drop (n - 2)).drop 2 := by rw [List.drop_drop]; congr 1; omega
        rw [this, List.take_append_drop, List.take_append_drop]
      rw [hp]
      conv => lhs; rw [k, hxy]
      simp
    have hl : (pc h).length + 2 = n := by rw [hp, List.length_take]; omega
    rw [e, getH_sum h I.ok I.may hs, hl, hw, hxy, hp]
    simp only [valL, Nat.mul_zero, Nat.add_zero, List.length_cons]
    exact congrArg some (Prod.ext rfl (Prod.ext rfl (decide_eq_decide.2 Iff.rfl)))
/-- without its last byte it is none. -/
theorem getH_short (h : Hd) (ok : HOk h) (may : MayH h) (hb : ∀ b ∈ putH h, b < 256) : getH ((putH h).take ((putH h).length - 1)) = none := by
  cases hg : getH ((putH h).take ((putH h).length - 1)) with
  | none => rfl
  | some r =>
    obtain ⟨h', n, wr⟩ := r
    have hb' : ∀ b ∈ (putH h).take ((putH h).length - 1), b < 256 := fun b k => hb b (List.mem_of_mem_take k)
    have h1 := getH_more hb' hg ((putH h).drop ((putH h).length - 1))
    have h2 := getH_putH h ok may []
    rw [List.append_nil] at h2
    rw [List.take_append_drop, h2] at h1
    have h3 := (getH_inv hb' hg).le
    have : (putH h).length = n := by injection h1 with e; injection e with _ e; injection e
    have hp : 0 < (putH h).length := by
      cases hl : putH h with
      | nil => rw [hl] at h2; simp [getH] at h2
      | cons a l => simp
    rw [List.length_take] at h3
    omega
end Go.Proofs.YtbbcphloafmldaaGreat
