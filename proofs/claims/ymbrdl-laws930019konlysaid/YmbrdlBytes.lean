/-
  Buffers of bytes that the call owns; 'string(buf)'.
-/
import Derived.Test.YmbrdlKit
import Derived.Laws.IdiomStrings
set_option linter.unusedSimpArgs false
set_option linter.unusedVariables false
namespace Go.Proofs.Ymbrdl
open Go.RowKit

def bytesV (l : List UInt8) : List Value := l.map fun b => Value.int .u8 b.toNat
theorem bytesV_length (l : List UInt8) : (bytesV l).length = l.length := by simp [bytesV]
theorem bytesV_append (a b : List UInt8) : bytesV (a ++ b) = bytesV a ++ bytesV b := by simp [bytesV]
theorem bytesV_one (c : UInt8) : bytesV [c] = [.int .u8 c.toNat] := rfl
theorem strCells_bytesV (s : ByteArray) : Lib.strCells s = bytesV s.data.toList := rfl

/-- From block B on v is a buffer of the bytes l. -/
def Buf (w : World) (B : Nat) (v : Value) (l : List UInt8) : Prop := Own w B 5 v (bytesV l)

theorem Buf.nil (w : World) (B : Nat) : Buf w B (.slice none 0 0) [] := Own.nil w B 5
theorem Buf.below {w w' : World} {B : Nat} {v : Value} {l : List UInt8} (h : Buf w B v l) (hb : Below w.heap.size w w') : Buf w' B v l := Own.below h hb
theorem Buf.mono {w : World} {B B' : Nat} {v : Value} {l : List UInt8} (h : Buf w B v l) (hb : B' ≤ B) : Buf w B' v l := Own.mono h hb
theorem Buf.alloc {w : World} {B : Nat} {v : Value} {l : List UInt8} (h : Buf w B v l) (o : Obj) : Buf (w.alloc o) B v l := World.ownsRow.alloc h o

/-- v' lies where v lay, or in a block that is new behind w. -/
def Moved (w : World) (v v' : Value) : Prop := v'.ownBlock = v.ownBlock ∨ ∃ g, v'.ownBlock = some g ∧ w.heap.size ≤ g

theorem Moved.refl (w : World) (v : Value) : Moved w v v := .inl rfl

/-- Growth from row to row: what lies below w's end and is not v's own row has not turned. -/
theorem grown_moved {a b c : World} {v v' : Value} (h : a.grownBy b v.ownBlock) (hm : Moved a v v') (k : b.grownBy c v'.ownBlock) : a.grownBy c v.ownBlock := by
  refine ⟨k.os.trans h.os, k.tape.trans h.tape, k.output.trans h.output, Nat.le_trans h.size k.size, fun i hi hr => ?_⟩
  refine (k.block i (Nat.lt_of_lt_of_le hi h.size) ?_).trans (h.block i hi hr)
  rcases hm with hm | ⟨g, hg, hge⟩
  · rw [hm]; exact hr
  · rw [hg]; simp; omega
theorem moved_trans {a b : World} {v v' v'' : Value} (hab : a.heap.size ≤ b.heap.size) (h : Moved a v v') (k : Moved b v' v'') : Moved a v v'' := by
  rcases k with k | ⟨g, hg, hge⟩
  · rw [Moved, k]; exact h
  · exact .inr ⟨g, hg, by omega⟩
theorem grownBy_refl (w : World) (r : Option Nat) : w.grownBy w r := ⟨rfl, rfl, rfl, Nat.le_refl _, fun _ _ _ => rfl⟩
theorem moved_of_at {w0 : World} {v v' : Value} (h : v'.ownBlock = v.ownBlock ∨ v'.ownBlock = some (w0.heap.size + 1)) : Moved w0 v v' := by
  rcases h with h | h
  · exact .inl h
  · exact .inr ⟨_, h, by omega⟩

theorem arr_size (l : List UInt8) : (⟨l.toArray⟩ : ByteArray).size = l.length := rfl
theorem arr_list (l : List UInt8) : (⟨l.toArray⟩ : ByteArray).data.toList = l := rfl

section
variable {P : Program}
/-- 'string(buf)'. -/
theorem run_string_of_buf (w : World) (src dst : TypeId) (hs : P.underlying src = some (.slice 5)) (he : P.underlying 5 = some (.int .u8)) (hd : P.underlying dst = some .string)
    {B : Nat} {v : Value} {l : List UInt8} (h : Buf w B v l) : (convert src dst v).run P w = .ok (.string ⟨l.toArray⟩) w := by
  obtain ⟨a, cap, rfl, hle, hmx, hf, hn, hc⟩ := Own.read h
  cases a with
  | none =>
    obtain rfl := hn rfl
    have : l = [] := List.eq_nil_of_length_eq_zero (by rw [← bytesV_length]; omega)
    subst this
    rw [run_convert_bytes_string w src dst 5 none _ _ hs he hd]
    rfl
  | some a =>
    rw [bytesV_length]
    by_cases h0 : l = []
    · subst h0
      exact run_convert_bytes_back w src dst 5 a cap [] hs he hd (fun j hj => absurd hj (Nat.not_lt_zero _))
    · have hp : 0 < l.length := List.length_pos_iff.2 h0
      obtain ⟨b, off, ha, _⟩ := hc 0 (by rw [bytesV_length]; exact hp)
      simp at ha
      subst ha
      refine run_convert_bytes_back w src dst 5 _ cap l hs he hd (fun j hj => ?_)
      obtain ⟨b', off', ha', _, hcc⟩ := hc j (by rw [bytesV_length]; exact hj)
      simp at ha'
      obtain ⟨rfl, rfl⟩ := ha'
      have e : (⟨b, off, none⟩ : Addr).add j = ⟨b, off + j, none⟩ := by unfold Addr.add; split <;> simp_all
      rw [e, hcc]
      simp [bytesV]
end
end Go.Proofs.Ymbrdl
