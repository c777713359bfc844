/- Bytes in memory, wherever they lie; clones. Values that read as lists of one-cell elements, wherever they lie. 'append' of whatever reads as a list of one-cell elements, nil too. Bytes in new memory; the cells of what reads as a list. Bytes as strings. A new writer; bytes just laid. Rows of 32-bit numbers; rows just made. -/
import Derived.Test.YtbbcphloafmldaaGreatBnd2
import Derived.Test.YtbbcphloafmldaaGreatRows
import Derived.Outline
import Derived.WalkSpells
import Derived.Deep.DeepMust
import Derived.Laws.AppendOwnNone
/-! Bytes in memory, wherever they lie; clones. -/
namespace Go.Proofs.YtbbcphloafmldaaGreat
open Go.RowKit

/-- a value that reads as bytes: nil, or a row wherever it lies. -/
def View (w : World) (v : Value) (bs : List Nat) : Prop :=
  (v = .slice none 0 0 ∧ bs = []) ∨ ∃ a cap, v = .slice (some a) bs.length cap ∧ ∀ j u, (u8s bs)[j]? = some u → w.cell? (a.add j) = some u
theorem Owns.view {w : World} {e : TypeId} {v : Value} {og : Option Nat} {bs : List Nat} (h : Owns w e 1 v og bs.length (u8s bs)) : View w v bs := by
  rcases h.form with ⟨_, h1, h2, h3⟩ | ⟨g, cap, cur, rfl, rfl, hh, hcap, _, _, htake⟩
  · exact Or.inl ⟨h1, by simpa [u8s] using h3⟩
  · exact Or.inr ⟨_, cap, rfl, fun j u hu => h.1.cells (g := g) rfl j u hu⟩
theorem View.ext {w w' : World} {v : Value} {bs : List Nat} (h : View w v bs) (ht : Ext w w') : View w' v bs := by
  rcases h with h | ⟨a, cap, rfl, hc⟩
  · exact Or.inl h
  · exact Or.inr ⟨a, cap, rfl, fun j u hu => cell_touch ht (hc j u hu) (fun f => f)⟩
theorem View.shape {w : World} {v : Value} {bs : List Nat} (h : View w v bs) : ∃ ao cap, v = .slice ao bs.length cap := by
  rcases h with ⟨rfl, rfl⟩ | ⟨a, cap, rfl, _⟩
  · exact ⟨none, 0, rfl⟩
  · exact ⟨_, _, rfl⟩
/-- bytes in a block that has just been laid. -/
theorem view_new (w : World) (bs : List Nat) (e : TypeId) (fr : Nat × Nat) : View (w.alloc (.cells (u8s bs).toArray e fr)) (.slice (some ⟨w.heap.size, 0, none⟩) bs.length bs.length) bs := by
  refine Or.inr ⟨_, _, rfl, fun j u hu => ?_⟩
  have e2 : (⟨w.heap.size, 0, none⟩ : Addr).add j = ⟨w.heap.size, j, none⟩ := by unfold Addr.add; split <;> simp_all
  rw [e2, World.cell?, heap_alloc_new]
  simpa using hu
/-- what a clone is. -/
def CloneOf (w : World) (bs : List Nat) (e : Ending) (w' : World) : Prop :=
  ∃ v og, e = .returned v ∧ Owns w' 5 1 v og bs.length (u8s bs) ∧ (∀ g, og = some g → w.heap.size ≤ g) ∧ Touch (fun _ => False) w w'
theorem u8s_one (bs : List Nat) : ∀ u ∈ u8s bs, u.oneCell' = true := by
  intro u hu
  obtain ⟨b, _, rfl⟩ := List.mem_map.1 hu
  rfl
theorem info_u8 : (Tryz.prog.info? 5).map (fun i => (i.zero, i.size, i.bytes)) = some (some (.int .u8 0), 1, 1) := by kernel_rfl

theorem run_eql_slice_nil_any {P : Program} (w : World) (t e : TypeId) (a : Option Addr) (n c : Nat) (h : P.underlying t = some (.slice e)) :
    (binOp .eql t (.slice a n c) (.slice none 0 0)).run P w = .ok (.bool a.isNone) w := by
  simp only [binOp]
  simp [Op.equal, Op.maxDepth, Lib.run_equalIn_slice_nil w 9999 t e a n c 0 0 h]

end Go.Proofs.YtbbcphloafmldaaGreat

/-! Values that read as lists of one-cell elements, wherever they lie. -/
namespace Go.Proofs.YtbbcphloafmldaaGreat
open Go.RowKit

def ViewL (w : World) (v : Value) (xs : List Value) : Prop :=
  ∃ ao cap, v = .slice ao xs.length cap ∧ xs.length ≤ cap ∧ (ao = none → cap = 0) ∧ (0 < xs.length → ∃ b o, ao = some ⟨b, o, none⟩ ∧ ∀ j u, xs[j]? = some u → w.cell? ⟨b, o + j, none⟩ = some u)
theorem add_lit (g j : Nat) : (⟨g, 0, none⟩ : Addr).add j = ⟨g, j, none⟩ := by unfold Addr.add; split <;> simp_all
theorem Owns.viewL {w : World} {e : TypeId} {v : Value} {og : Option Nat} {n : Nat} {xs : List Value} (h : Owns w e 1 v og n xs) : ViewL w v xs := by
  have hl : xs.length = n := by simpa using h.1.1
  rcases h.form with ⟨_, rfl, rfl, rfl⟩ | ⟨g, cap, cur, rfl, rfl, hh, hcap, _, _, htake⟩
  · exact ⟨none, 0, rfl, Nat.le_refl _, fun _ => rfl, fun h => by simp at h⟩
  · refine ⟨_, cap, by rw [hl], by omega, fun e => by simp at e, fun _ => ⟨g, 0, rfl, fun j u hu => ?_⟩⟩
    have := h.1.cells (g := g) rfl j u hu
    rw [add_lit] at this; simpa using this
theorem ViewL.keep {S : Nat → Prop} {w w' : World} {v : Value} {xs : List Value} (h : ViewL w v xs) (ht : Touch S w w') (hn : ∀ b o n cap, v = .slice (some ⟨b, o, none⟩) n cap → ¬ S b) : ViewL w' v xs := by
  obtain ⟨ao, cap, rfl, h1, h2, h3⟩ := h
  refine ⟨ao, cap, rfl, h1, h2, fun h0 => ?_⟩
  obtain ⟨b, o, rfl, hc⟩ := h3 h0
  exact ⟨b, o, rfl, fun j u hu => cell_touch ht (hc j u hu) (hn b o _ _ rfl)⟩
theorem ViewL.ext {w w' : World} {v : Value} {xs : List Value} (h : ViewL w v xs) (he : Ext w w') : ViewL w' v xs := h.keep he (fun _ _ _ _ _ f => f)
theorem ViewL.shape {w : World} {v : Value} {xs : List Value} (h : ViewL w v xs) : ∃ ao cap, v = .slice ao xs.length cap := by
  obtain ⟨ao, cap, rfl, _⟩ := h; exact ⟨ao, cap, rfl⟩
theorem View.viewL {w : World} {v : Value} {bs : List Nat} (h : View w v bs) (hcap : ∀ a n cap, v = .slice (some a) n cap → n ≤ cap) : ViewL w v (u8s bs) := by
  rcases h with ⟨rfl, rfl⟩ | ⟨a, cap, rfl, hc⟩
  · exact ⟨none, 0, rfl, Nat.le_refl _, fun _ => rfl, fun h => by simp [u8s] at h⟩
  · refine ⟨some a, cap, by rw [length_u8s], by rw [length_u8s]; exact hcap a _ _ rfl, fun e => (by cases e), fun h0 => ?_⟩
    have h1 : w.cell? (a.add 0) = some ((u8s bs)[0]) := hc 0 _ (List.getElem?_eq_getElem h0)
    have hs : a.spot = none := by
      have : a.add 0 = a := by simp [Addr.add]
      rw [this] at h1
      unfold World.cell? at h1
      split at h1
      · split at h1
        · cases h1
        · rename_i hs; simpa using hs
      · cases h1
    refine ⟨a.block, a.off, by cases a; simp_all, fun j u hu => ?_⟩
    have e : a.add j = ⟨a.block, a.off + j, none⟩ := by
      unfold Addr.add; split
      · rename_i hk; subst hk; cases a; simp_all
      · rfl
    rw [← e]; exact hc j u hu

def bls (l : List Bool) : List Value := l.map Value.bool
theorem length_bls (l : List Bool) : (bls l).length = l.length := by simp [bls]
theorem getElem?_bls (l : List Bool) (i : Nat) (h : i < l.length) : (bls l)[i]? = some (.bool l[i]) := by simp [bls, h]
theorem bls_append (l m : List Bool) : bls (l ++ m) = bls l ++ bls m := by simp [bls]
theorem bls_one (l : List Bool) : ∀ u ∈ bls l, u.oneCell' = true := by
  intro u hu
  obtain ⟨b, _, rfl⟩ := List.mem_map.1 hu
  rfl
/-- a row of bits in new memory. -/
def NewRow (w : World) (l : List Bool) (e : Ending) (w' : World) : Prop :=
  ∃ v og, e = .returned v ∧ Owns w' 4 1 v og l.length (bls l) ∧ (∀ g, og = some g → w.heap.size ≤ g) ∧ Ext w w'
theorem set_low (B : List Bool) (k n : Nat) (hn : B.length = n) (hk : k < n) : (B.take k ++ List.replicate (n - k) false).set k B[k] = B.take (k + 1) ++ List.replicate (n - (k + 1)) false := by
  have hkl : (B.take k).length = k := by rw [List.length_take]; omega
  have e : n - k = (n - (k + 1)) + 1 := by omega
  rw [List.set_append_right _ _ (by omega), e, List.replicate_succ, hkl, Nat.sub_self, List.set_cons_zero, List.take_succ_eq_append_getElem (show k < B.length by omega), List.append_assoc, List.singleton_append]
theorem set_high (B : List Bool) (k n : Nat) (hn : B.length = n) (hk : k < n) : (List.replicate (n - k) false ++ B.drop (n - k)).set (n - 1 - k) B[n - 1 - k] = List.replicate (n - (k + 1)) false ++ B.drop (n - (k + 1)) := by
  rw [show n - k = (n - (k + 1)) + 1 by omega, List.replicate_succ', List.append_assoc, List.set_append_right _ _ (by simp; omega)]
  rw [List.length_replicate, show n - 1 - k - (n - (k + 1)) = 0 by omega, List.singleton_append, List.set_cons_zero]
  congr 1
  rw [List.drop_eq_getElem_cons (show n - (k + 1) < B.length by omega)]
  congr 2; omega
theorem made_one (z : Value) (n : Nat) : (madeCells #[z] n).toList = List.replicate n z := by
  apply List.ext_getElem
  · simp [madeCells]
  · intro j h1 h2
    simp [madeCells, Nat.mod_one]
/-- a piece of a value that reads as a list. -/
theorem ViewL.piece {w : World} {ao : Option Addr} {cap : Nat} {xs : List Value} (h : ViewL w (.slice ao xs.length cap) xs) (i n : Nat) (hi : i + n ≤ xs.length) (hc : cap ≠ i) :
    ViewL w (.slice (ao.map fun x => x.add i) n (cap - i)) ((xs.drop i).take n) := by
  obtain ⟨ao', cap', e, h1, h2, h3⟩ := h
  cases e
  have hl : ((xs.drop i).take n).length = n := by simp; omega
  refine ⟨_, _, by rw [hl], by rw [hl]; omega, fun e => ?_, fun h0 => ?_⟩
  · have : ao = none := by cases ao <;> simp_all
    have := h2 this; omega
  · rw [hl] at h0
    obtain ⟨b, o, rfl, hx⟩ := h3 (by omega)
    refine ⟨b, o + i, ?_, fun j u hu => ?_⟩
    · simp only [Option.map_some, Option.some.injEq]
      unfold Addr.add; split
      · rename_i hk; subst hk; rfl
      · rfl
    · have hj : j < n := by have := (List.getElem?_eq_some_iff.1 hu).1; omega
      have := hx (i + j) u (by rw [List.getElem?_take, if_pos hj, List.getElem?_drop] at hu; exact hu)
      rw [← this, show o + (i + j) = o + i + j by omega]
theorem ViewL.piece_end {w : World} {ao : Option Addr} {cap : Nat} {xs : List Value} (h : ViewL w (.slice ao xs.length cap) xs) (n : Nat) (hi : cap + n ≤ xs.length) : n = 0 ∧ ViewL w (.slice ao 0 0) [] := by
  obtain ⟨ao', cap', e, h1, h2, h3⟩ := h
  cases e
  exact ⟨by omega, ao, 0, rfl, Nat.le_refl _, fun _ => rfl, fun h => by simp at h⟩
end Go.Proofs.YtbbcphloafmldaaGreat

/-! 'append' of whatever reads as a list of one-cell elements, nil too. -/
namespace Go.Proofs.YtbbcphloafmldaaGreat
open Go.RowKit

theorem wpList_append_view {P : Program} (w : World) {ops : Array Oper} {rest : List Oper} {o : Oper} {a : Act} {Q : Exit → Act → World → Prop} (hgd : o.guard = none) (s x : Operand) (t : TypeId)
    (ho : o.op = .call { callee := .builtin .append, args := #[s, x], argTypes := #[t, t] })
    (base : Nat) (e : TypeId) (i : TypeInfo) (z : Value) (bytes : Nat) (ht : P.underlying t = some (.slice e)) (hi : P.info? e = some i) (hz : i.zero = some z)
    (hsize : i.size = 1) (hby : i.bytes = bytes) (hzs : z.cells.size = 1)
    (v : Value) (n : Nat) (xs : List Value) (hs : a.eval s = v) (hown : w.ownsRow base e 1 v n xs)
    (xv : Value) (news : List Value) (hx : a.eval x = xv) (hv : ViewL w xv news) (h1 : ∀ u ∈ news, u.oneCell' = true)
    (h63 : n + news.length ≤ maxLen) (hbytes : (n + news.length) * bytes ≤ 140737488355328) (hbase : base ≤ w.heap.size)
    (h : ∀ v' w', w'.ownsRow base e 1 v' (n + news.length) (xs ++ news) → w.grownBy w' v.ownBlock → (v'.ownBlock = v.ownBlock ∨ v'.ownBlock = some w.heap.size) → wpList P ops Q rest (a.put o.dst v') w') :
    wpList P ops Q (o :: rest) a w := by
  obtain ⟨ao, cap, rfl, hcap, hnil, hc⟩ := hv
  cases ao with
  | none =>
    have hc0 := hnil rfl
    have hn0 : news.length = 0 := by omega
    have : news = [] := List.eq_nil_of_length_eq_zero hn0
    subst this
    subst hc0
    refine wpList_append_own_none hgd s x t ho base e i 1 ht hi v n xs hs hown hx ?_
    exact h v w (by simpa using hown) ⟨rfl, rfl, rfl, Nat.le_refl _, fun _ _ _ => rfl⟩ (Or.inl rfl)
  | some ad =>
    refine wpList_append_own_at w hgd s x t ho base e i z 1 bytes ht hi hz hsize hby hzs (by decide) v n xs hs hown ad news.length cap news hx (by simp) ?_ h1 h63 hbytes hbase (fun v' w' k1 k2 _ k4 => h v' w' k1 k2 k4)
    intro j u hu
    have hj := (List.getElem?_eq_some_iff.1 hu).1
    obtain ⟨b, off, e, hcx⟩ := hc (by omega)
    cases e
    have e2 : (⟨b, off, none⟩ : Addr).add j = ⟨b, off + j, none⟩ := by unfold Addr.add; split <;> simp_all
    rw [e2]; exact hcx j u hu
end Go.Proofs.YtbbcphloafmldaaGreat

/-! Bytes in new memory; the cells of what reads as a list. -/
namespace Go.Proofs.YtbbcphloafmldaaGreat
open Go.RowKit
set_option linter.unusedVariables false

/-- bytes in new memory. -/
def BO (w : World) (acc : List Nat) (ov : Value) (wr : World) : Prop := ∃ og, Owns wr 5 1 ov og acc.length (u8s acc) ∧ (∀ g, og = some g → w.heap.size ≤ g) ∧ Ext w wr
theorem BO.ext {w wr w' : World} {acc : List Nat} {ov : Value} (h : BO w acc ov wr) (hx : Ext wr w') : BO w acc ov w' := by
  obtain ⟨og, h1, h2, h3⟩ := h
  exact ⟨og, h1.ext' hx, h2, h3.trans hx⟩
theorem BO.toExt {w wr : World} {l : List Nat} {v : Value} (h : BO w l v wr) : Ext w wr := h.choose_spec.2.2
theorem BO.view {w wr : World} {l : List Nat} {v : Value} (h : BO w l v wr) : View wr v l := h.choose_spec.1.view
theorem BO.viewL {w wr : World} {l : List Nat} {v : Value} (h : BO w l v wr) : ViewL wr v (u8s l) := h.choose_spec.1.viewL
theorem bo_snoc {w w1 w2 : World} {acc : List Nat} {ov v' : Value} {y : Nat} {o : Obj} (h : BO w acc ov w1) (hown' : w2.ownsRow 0 5 1 v' (acc.length + 1) (u8s acc ++ [.int .u8 y]))
    (hgrow : (w1.alloc o).grownBy w2 ov.ownBlock) (hat : v'.ownBlock = ov.ownBlock ∨ v'.ownBlock = some (w1.heap.size + 1)) : BO w (acc ++ [y]) v' w2 := by
  obtain ⟨og, h1, h2, h3⟩ := h
  refine ⟨v'.ownBlock, ⟨by rw [u8s_append, List.length_append]; exact hown', rfl⟩, fun g e => ?_, Touch.grown (h3.alloc _) hgrow (fun i e => Or.inr (h2 i (by rw [← h1.2]; exact e)))⟩
  rcases hat with hat | hat
  · rw [hat, h1.2] at e; exact h2 g e
  · rw [hat] at e; cases e; have := h3.size; omega
theorem viewL_cells {w : World} {ao : Option Addr} {n cap : Nat} {xs : List Value} (h : ViewL w (.slice ao n cap) xs) (h0 : 0 < xs.length) : ∃ b o, ao = some ⟨b, o, none⟩ ∧ xs.length ≤ cap ∧ ∀ j u, xs[j]? = some u → w.cell? ⟨b, o + j, none⟩ = some u := by
  obtain ⟨ao', cap', e, hc, _, h3⟩ := h
  injection e with e1 e2 e3
  subst e1
  subst e3
  obtain ⟨b, o, h4, h5⟩ := h3 h0
  exact ⟨b, o, h4, hc, h5⟩
end Go.Proofs.YtbbcphloafmldaaGreat

/-! Bytes as strings. -/
namespace Go.Proofs.YtbbcphloafmldaaGreat
open Go.RowKit

/-- the string of bytes. -/
def strOf (bs : List Nat) : ByteArray := ⟨(bs.map UInt8.ofNat).toArray⟩
theorem strOf_toList (bs : List Nat) : (strOf bs).toList = bs.map UInt8.ofNat := by simp [strOf]
theorem fold_push (ns : List Nat) : ∀ s : ByteArray, (ns.map fun (n : Nat) => (n : Int)).foldl (fun r n => r.push (UInt8.ofNat n.toNat)) s = ⟨s.data ++ (ns.map UInt8.ofNat).toArray⟩ := by
  induction ns with
  | nil => intro s; simp
  | cons n ns ih => intro s; simp only [List.map_cons, List.foldl_cons]; rw [ih]; simp [ByteArray.push]
theorem run_string_view {P : Program} {w : World} {v : Value} {bs : List Nat} (src dst e : TypeId) (hv : View w v bs)
    (hs : P.underlying src = some (.slice e)) (he : P.underlying e = some (.int .u8)) (hd : P.underlying dst = some .string) : (convert src dst v).run P w = .ok (.string (strOf bs)) w := by
  rcases hv with ⟨rfl, rfl⟩ | ⟨a, cap, rfl, hc⟩
  · rw [run_convert_bytes_string w src dst e none 0 0 hs he hd]
    simp [Conv.bytesToString, strOf]
    rfl
  · rw [run_convert_bytes_string w src dst e (some a) bs.length cap hs he hd]
    have h := run_loadCells_list (P := P) w a (u8s bs) hc
    rw [length_u8s] at h
    have e1 : u8s bs = (bs.map fun (n : Nat) => (n : Int)).map (Value.int .u8) := by simp [u8s]
    rw [e1] at h
    have e2 : ByteArray.empty.data = #[] := rfl
    rw [run_bytesToString w a bs.length cap _ h, fold_push, e2, Array.empty_append]
    rfl
theorem str_eq {a b : List Nat} (ha : ∀ x ∈ a, x < 256) (hb : ∀ x ∈ b, x < 256) : ((strOf a).toList == (strOf b).toList) = decide (a = b) := by
  rw [strOf_toList, strOf_toList, Bool.eq_iff_iff, beq_iff_eq, decide_eq_true_iff]
  constructor
  · intro h
    have h2 := congrArg (List.map UInt8.toNat) h
    simp only [List.map_map] at h2
    have e : ∀ l : List Nat, (∀ x ∈ l, x < 256) → l.map (UInt8.toNat ∘ UInt8.ofNat) = l := by
      intro l hl
      conv => rhs; rw [← List.map_id l]
      exact List.map_congr_left fun x hx => by simpa using Nat.mod_eq_of_lt (hl x hx)
    rw [e a ha, e b hb] at h2
    exact h2
  · rintro rfl; rfl
end Go.Proofs.YtbbcphloafmldaaGreat

/-! A new writer; bytes just laid. -/
namespace Go.Proofs.YtbbcphloafmldaaGreat
open Go.RowKit
set_option linter.unusedVariables false

/-- bytes in a block just laid. -/
theorem viewL_new (w : World) (bs : List Nat) (xs : List Value) (hx : xs = u8s bs) (e : TypeId) (fr : Nat × Nat) : ViewL (w.alloc (.cells xs.toArray e fr)) (.slice (some ⟨w.heap.size, 0, none⟩) bs.length bs.length) (u8s bs) := by
  subst hx
  have h := view_new w bs e fr
  refine h.viewL (fun a n cap e => ?_)
  cases e; exact Nat.le_refl _
theorem fp_new (w : World) (og : Option Nat) (h : Near none og w) : ∀ i, i < w.heap.size → ¬ FP w.heap.size og i := fun i hi e => by
  rcases e with e | e
  · omega
  · rcases h with h | ⟨g, h, hg⟩
    · rw [h] at e; cases e
    · rw [h] at e; cases e; omega
theorem view_block {w : World} {v : Value} {bs : List Nat} (h : ViewL w v (u8s bs)) (h0 : 0 < bs.length) : ∀ b o n c, v = .slice (some ⟨b, o, none⟩) n c → b < w.heap.size := fun b o n c e => by
  obtain ⟨ao', cap', e', _, _, h3⟩ := h
  obtain ⟨b', o', rfl, hc⟩ := h3 (by rwa [length_u8s])
  rw [e] at e'
  cases e'
  exact World.block_lt_of_cell? _ _ (hc 0 _ (by rw [getElem?_u8s _ _ h0]))
end Go.Proofs.YtbbcphloafmldaaGreat
-- pruned by prune.py for gunzipz

/-! Rows of 32-bit numbers; rows just made. -/
namespace Go.Proofs.YtbbcphloafmldaaGreat
open Go.RowKit
set_option linter.unusedVariables false

def u32s (l : List Nat) : List Value := l.map fun (b : Nat) => Value.int .u32 b
theorem length_u32s (l : List Nat) : (u32s l).length = l.length := by simp [u32s]
theorem u32s_set (l : List Nat) (i : Nat) (b : Nat) : u32s (l.set i b) = (u32s l).set i (.int .u32 b) := by simp [u32s, List.map_set]
theorem getElem?_u32s (l : List Nat) (i : Nat) (h : i < l.length) : (u32s l)[i]? = some (.int .u32 (l.getD i 0 : Nat)) := by
  simp [u32s, List.getD, List.getElem?_eq_getElem h]
theorem info_u32 : (Tryz.prog.info? 32).map (fun i => (i.zero, i.size, i.bytes)) = some (some (.int .u32 0), 1, 4) := by kernel_rfl
theorem make_owns (w : World) (t e : TypeId) (i : TypeInfo) (z : Value) (n : Nat) (h1 : Tryz.prog.underlying t = some (.slice e)) (h2 : Tryz.prog.info? e = some i) (h3 : i.zero = some z) (h4 : i.size = 1) (h5 : i.bytes ≤ 8) (hz : z.cells = #[z]) (hn : n ≤ 2 ^ 40) :
    ∃ w', (Instr.makeSlice t (.int .i64 (n : Int)) (.int .i64 (n : Int))).run Tryz.prog w = .ok (.slice (some ⟨w.heap.size, 0, none⟩) n n) w' ∧ Owns w' e 1 (.slice (some ⟨w.heap.size, 0, none⟩) n n) (some w.heap.size) n (List.replicate n z) ∧ Ext w w' := by
  obtain ⟨w', hrun, r1, r2⟩ := run_make_full (P := Tryz.prog) w 0 t e i z 1 h1 h2 h3 h4 .i64 .i64 n (by
    have : i.bytes * n ≤ 8 * 2 ^ 40 := Nat.mul_le_mul h5 hn
    omega) (by unfold maxLen; omega) (Nat.zero_le _)
  refine ⟨w', hrun, ⟨?_, rfl⟩, (Touch.refl _ w).grown r2 (fun k e => by cases e)⟩
  rw [hz, Nat.mul_one, made_one] at r1
  exact r1
/-- a row of 32-bit numbers, all 0, just made. -/
theorem make_u32 (w : World) (n : Nat) (hn : n ≤ 2 ^ 40) :
    ∃ w', (Instr.makeSlice 118 (.int .i64 (n : Int)) (.int .i64 (n : Int))).run Tryz.prog w = .ok (.slice (some ⟨w.heap.size, 0, none⟩) n n) w' ∧ Owns w' 32 1 (.slice (some ⟨w.heap.size, 0, none⟩) n n) (some w.heap.size) n (u32s (List.replicate n 0)) ∧ Ext w w' := by
  obtain ⟨i0, hi, hz0, hz1, hz2⟩ := info_parts info_u32
  have := make_owns w 118 32 i0 (.int .u32 0) n Tryz.underlying118 hi hz0 hz1 (by omega) rfl hn
  have e : u32s (List.replicate n 0) = List.replicate n (.int .u32 0) := by simp [u32s]
  rw [e]; exact this
/-- a row of 32-bit numbers in new memory. -/
def NewU (w : World) (l : List Nat) (v : Value) (w' : World) : Prop := ∃ og, Owns w' 32 1 v og l.length (u32s l) ∧ (∀ g, og = some g → w.heap.size ≤ g) ∧ Ext w w'
end Go.Proofs.YtbbcphloafmldaaGreat
