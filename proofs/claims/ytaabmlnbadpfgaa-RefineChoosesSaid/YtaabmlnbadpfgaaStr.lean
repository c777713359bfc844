/- Bytes as strings. -/
import Derived.Test.YtaabmlnbadpfgaaMem
namespace Go.Proofs.Ytaabmlnbadpfgaa
open Go.RowKit

/-- the string of bytes. -/
def strOf (bs : List Nat) : ByteArray := ⟨(bs.map UInt8.ofNat).toArray⟩
theorem strOf_toList (bs : List Nat) : (strOf bs).toList = bs.map UInt8.ofNat := by simp [strOf]
theorem fold_push (ns : List Nat) : ∀ s : ByteArray, (ns.map fun (n : Nat) => (n : Int)).foldl (fun r n => r.push (UInt8.ofNat n.toNat)) s = ⟨s.data ++ (ns.map UInt8.ofNat).toArray⟩ := by
  induction ns with
  | nil => intro s; simp
  | cons n ns ih => intro s; simp only [List.map_cons, List.foldl_cons]; rw [ih]; simp [ByteArray.push]
theorem run_string_view {P : Program} {w : World} {v : Value} {bs : List Nat} (src dst e : TypeId) (hv : View w v bs)
    (hs : P.underlying src = some (.slice e)) (he : P.underlying e = some (.int .u8)) (hd : P.underlying dst = some .string) : (convert src dst v).run P w = .ok (.string (strOf bs)) w := by
  rcases hv with ⟨rfl, rfl⟩ | ⟨a, cap, rfl, hc⟩
  · rw [run_convert_bytes_string w src dst e none 0 0 hs he hd]
    simp [Conv.bytesToString, strOf]
    rfl
  · rw [run_convert_bytes_string w src dst e (some a) bs.length cap hs he hd]
    have h := run_loadCells_list (P := P) w a (u8s bs) hc
    rw [length_u8s] at h
    have e1 : u8s bs = (bs.map fun (n : Nat) => (n : Int)).map (Value.int .u8) := by simp [u8s]
    rw [e1] at h
    have e2 : ByteArray.empty.data = #[] := rfl
    rw [run_bytesToString w a bs.length cap _ h, fold_push, e2, Array.empty_append]
    rfl
theorem str_eq {a b : List Nat} (ha : ∀ x ∈ a, x < 256) (hb : ∀ x ∈ b, x < 256) : ((strOf a).toList == (strOf b).toList) = decide (a = b) := by
  rw [strOf_toList, strOf_toList, Bool.eq_iff_iff, beq_iff_eq, decide_eq_true_iff]
  constructor
  · intro h
    have h2 := congrArg (List.map UInt8.toNat) h
    simp only [List.map_map] at h2
    have e : ∀ l : List Nat, (∀ x ∈ l, x < 256) → l.map (UInt8.toNat ∘ UInt8.ofNat) = l := by
      intro l hl
      conv => rhs; rw [← List.map_id l]
      exact List.map_congr_left fun x hx => by simpa using Nat.mod_eq_of_lt (hl x hx)
    rw [e a ha, e b hb] at h2
    exact h2
  · rintro rfl; rfl
end Go.Proofs.Ytaabmlnbadpfgaa
