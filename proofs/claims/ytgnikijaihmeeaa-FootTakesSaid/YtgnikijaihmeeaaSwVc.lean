/- Bytes as a string. No program. -/
import Derived.Test.YtgnikijaihmeeaaSwP
import Derived.Laws.IdiomStrings
import Derived.Lib.BufferRead
open Go Go.RowKit
namespace Go.Proofs.Ytgnikijaihmeeaa
set_option linter.unusedVariables false
set_option linter.unusedSimpArgs false
/-- bytes as a string -/
def ofB (bs : List Nat) : ByteArray := ⟨(bs.map UInt8.ofNat).toArray⟩
theorem ofB_inj {a b : List Nat} (ha : ∀ x ∈ a, x < 256) (hb : ∀ x ∈ b, x < 256) (h : ofB a = ofB b) : a = b := by
  unfold ofB at h
  simp only [ByteArray.mk.injEq, Array.mk.injEq, List.toArray_inj] at h
  induction a generalizing b with
  | nil => cases b with
    | nil => rfl
    | cons y b => simp at h
  | cons x a ih => cases b with
    | nil => simp at h
    | cons y b =>
      simp only [List.map_cons, List.cons.injEq] at h
      have h1 : x = y := by
        have e := congrArg UInt8.toNat h.1
        have h1 := ha x (by simp)
        have h2 := hb y (by simp)
        simp at e
        omega
      rw [h1, ih (fun x hx => ha x (by simp [hx])) (fun x hx => hb x (by simp [hx])) h.2]
theorem conv_str {P : Program} (w : World) (src dst e : TypeId) (hs : P.underlying src = some (.slice e)) (he : P.underlying e = some (.int .u8)) (hd : P.underlying dst = some .string)
    (A : Option Addr) (n c : Nat) (bs : List Nat) (hn : n = bs.length) (hb : ∀ x ∈ bs, x < 256) (hr : Rd w A (bs.map bv)) :
    (convert src dst (.slice A n c)).run P w = .ok (.string (ofB bs)) w := by
  subst hn
  rcases Nat.eq_zero_or_pos bs.length with h0 | h0
  · have : bs = [] := List.eq_nil_of_length_eq_zero h0
    subst this
    cases A with
    | none => exact Lib.run_convert_nil_bytes w src dst e c hs he hd
    | some a => exact run_convert_bytes_back w src dst e a c [] hs he hd (fun j hj => by simp at hj)
  · obtain ⟨b, o, rfl, _, hc⟩ := hr.addr (by simpa using h0)
    have := run_convert_bytes_back w src dst e ⟨b, o, none⟩ c (bs.map UInt8.ofNat) hs he hd (fun j hj => by
      have hj' : j < bs.length := by simpa using hj
      rw [Addr.add_lit, hc j (bv bs[j]) (by simp [hj'])]
      have h1 := hb bs[j] (List.getElem_mem hj')
      simp [bv]
      omega)
    simpa [ofB] using this
end Go.Proofs.Ytgnikijaihmeeaa
