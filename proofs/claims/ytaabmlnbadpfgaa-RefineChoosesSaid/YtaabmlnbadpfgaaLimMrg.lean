/- slices.symMergeCmpFunc of ints: the whole, by induction. -/
import Derived.Test.YtaabmlnbadpfgaaLimMrgD
import Derived.Test.YtaabmlnbadpfgaaLimMrgE
namespace Go.Proofs.Ytaabmlnbadpfgaa
open Go.RowKit Go.Sort
set_option linter.unusedVariables false

theorem lim_merge (F : List Nat) (cb : Value) (blk off cap : Nat) (l0 : List Nat) (w : World) (hc : CmpAt F cb w blk off l0.length) (hH : Holds encN w blk off l0.toArray) (hsz : l0.length ≤ 2 ^ 40) : ∀ sz, MrgSays F cb blk off cap l0 w sz
  | 0 => fun P L R S m0 a m b N h1 h2 h3 => by
    exact (h2 (List.eq_nil_of_length_eq_zero (by omega))).elim
  | sz + 1 => fun P L R S m0 a m b N hlen hL0 hR0 hN hl0 ha hm hb hF hup hL hR => by
    have hih := lim_merge F cb blk off cap l0 w hc hH hsz sz
    have hL1 := List.length_pos_iff.2 hL0
    have hR1 := List.length_pos_iff.2 hR0
    by_cases h1 : L.length = 1
    · obtain ⟨x, rfl⟩ := List.length_eq_one_iff.1 h1
      rw [show P ++ [x] ++ R ++ S = P ++ x :: R ++ S by simp]
      exact lim_merge_left F cb blk off cap l0 P R S x w m0 a m b N hc hH hN (by rw [← hl0]; simp) ha (by rw [hm, ha]; simp) (by rw [hb]; simp) hF (fun y hy => hup x (List.mem_singleton.2 rfl) y hy) hR hsz
    · by_cases h2 : R.length = 1
      · obtain ⟨y, rfl⟩ := List.length_eq_one_iff.1 h2
        rw [show P ++ L ++ [y] ++ S = P ++ L ++ y :: S by simp]
        exact lim_merge_right F cb blk off cap l0 P L S y w m0 a m b N hc hH hN (by rw [← hl0]; simp) ha hm (by rw [hb, hm]; simp; omega) h1 (fun x hx => hF x ((List.mem_cons.1 hx).elim (fun h => List.mem_append_right _ (List.mem_singleton.2 h)) (fun h => List.mem_append_left _ h))) (fun x hx => hup x hx y (List.mem_singleton.2 rfl)) hL hsz
      · have hml : m = a + L.length := by rw [hm, ha]; simp
        have hbl : b = m + R.length := by rw [hb, hm]; simp; omega
        by_cases h3 : (a + b) / 2 < m
        · exact lim_merge_up F cb blk off cap l0 P L R S w sz m0 a m b N _ _ ((a + b) / 2 + m - 1) ((a + b) / 2 + m - b) hih hc hH hN hl0 ha hm hb hlen (by omega) (by omega) hF hup hL hR hsz rfl rfl (by omega) ⟨h3, by omega⟩
        · exact lim_merge_down F cb blk off cap l0 P L R S w sz m0 a m b N _ _ ((a + b) / 2 + m - 1) hih hc hH hN hl0 ha hm hb hlen (by omega) (by omega) hF hup hL hR hsz rfl rfl (by omega) (by omega)
end Go.Proofs.Ytaabmlnbadpfgaa
