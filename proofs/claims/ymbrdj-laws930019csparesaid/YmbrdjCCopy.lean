import Derived.Test.YmbrdjSpaces
import Derived.Test.YmbrdjKit2
set_option linter.unusedSimpArgs false
set_option linter.unusedVariables false
namespace Go.Proofs.Ymbrdj
open Go.RowKit

/-- A slice of bytes that is read. -/
structure Byts (w : World) (a : Option Addr) (len cap : Nat) (l : List UInt8) : Prop where
  hlen : l.length = len
  le : len ≤ cap
  max : cap ≤ maxLen
  nil : a = none → cap = 0
  cells : Cells w a (bytesV l)

theorem bytes_of_nums {w : World} {a : Option Addr} {len cap : Nat} {zs : List Int} (h : Nums .u8 w a len cap zs) : ∃ l, Byts w a len cap l := by
  refine ⟨zs.map fun z => UInt8.ofNat z.toNat, by rw [List.length_map]; exact h.hlen, h.le, h.max, h.nil, ?_⟩
  have e : bytesV (zs.map fun z => UInt8.ofNat z.toNat) = zs.map (Value.int .u8) := by
    unfold bytesV
    rw [List.map_map]
    apply List.map_congr_left
    intro z hz
    obtain ⟨h0, h1⟩ := bounds_u8 (h.wf z hz)
    simp
    omega
  rw [e]; exact h.cells

theorem Byts.below {w w' : World} {a : Option Addr} {len cap : Nat} {l : List UInt8} (h : Byts w a len cap l) (hb : Below w.heap.size w w') : Byts w' a len cap l :=
  ⟨h.hlen, h.le, h.max, h.nil, h.cells.below hb⟩
theorem Byts.nth {w : World} {a : Option Addr} {len cap : Nat} {l : List UInt8} (h : Byts w a len cap l) (k : Nat) (hk : k < len) :
    ∃ b off c, a = some ⟨b, off, none⟩ ∧ l[k]? = some c ∧ b < w.heap.size ∧ w.cell? ⟨b, off + k, none⟩ = some (.int .u8 (c.toNat : Int)) := by
  have hl := h.hlen
  obtain ⟨b, off, ha, hlt, hc⟩ := h.cells k (by rw [bytesV_length]; omega)
  exact ⟨b, off, l[k]'(by omega), ha, List.getElem?_eq_getElem _, hlt, by simpa [bytesV] using hc⟩

theorem set_take_succ {α : Type} {xs ys : List α} {k : Nat} {y : α} (h : xs.take k = ys.take k) (hy : ys[k]? = some y) (hk : k < xs.length) : (xs.set k y).take (k + 1) = ys.take (k + 1) := by
  have h1 : (xs.set k y).take k = ys.take k := by rw [List.take_set, List.set_eq_of_length_le (by rw [List.length_take]; omega)]; exact h
  rw [List.take_add_one, List.take_add_one, h1, hy, List.getElem?_set_self hk]

set_option maxHeartbeats 1600000 in
theorem ccopy_any (a : Option Addr) (len cap : Nat) (l : List UInt8) (w : World) (hs : Byts w a len cap l) (hl4 : len ≤ 1048576) :
    Calls Ydjm.prog 21 #[.slice a len cap] w fun e w' => ∃ v, e = .returned v ∧ Buf w' w.heap.size v l ∧ Below w.heap.size w w' ∧ (v = .slice none 0 0 ↔ a = none) := by
  obtain ⟨i0, hi, hz0, hz1, hz2⟩ := info_parts Ydjm.info5
  have hle := hs.le
  have hmx := hs.max
  unfold maxLen at hmx
  have HL := hide hs.hlen
  have hnl := Go.Lib.run_eql_slice_nil (P := Ydjm.prog) w 26 5 a len cap 0 0 Ydjm.underlying26
  cases a with
  | none =>
    have h0 := hs.nil rfl
    have hll : l = [] := List.eq_nil_of_length_eq_zero (by have := unhide HL; omega)
    subst hll
    clear h0
    go_enter Ydjm.func21, Ydjm.ntmps21
    go_wp2
    go_ret
    exact ⟨_, rfl, Buf.nil _ _, Below.refl _ _, by simp⟩
  | some ad =>
    go_enter Ydjm.func21, Ydjm.ntmps21
    go_wp2_with (at_make; go_must (refine wpList_make_full _ rfl _ _ 26 rfl w.heap.size 5 i0 (.int .u8 0) 1 Ydjm.underlying26 hi hz0 hz1 .i64 .i64 _ _ len rfl rfl rfl rfl (by rw [hz2]; omega) (by unfold maxLen; omega) (Nat.le_refl _) ?_); intro w1 hrow hg)
    have hb1 : Below w.heap.size w w1 := ⟨hg.os, hg.tape, hg.output, hg.size, fun k hk => hg.block k hk (by simp)⟩
    generalize (madeCells (Value.int IntKind.u8 0).cells (len * 1)).toList = xs0 at *
    clear hg hnl
    go_wp2
    go_loopw [4] (fun i wr => ∃ (k : Nat) (xs : List Value), k ≤ len ∧ i = .int .i64 k ∧ wr.ownsRow w.heap.size 5 1 (.slice (some ⟨w.heap.size, 0, none⟩) len len) len xs ∧ Hid (xs.take k = (bytesV l).take k) ∧ Below w.heap.size w wr) (fun i _ => len - (intOf i).toNat)
    case atStart => exact ⟨0, xs0, Nat.zero_le _, rfl, hrow, by simp [Hid], hb1⟩
    case round =>
      obtain ⟨k, xs, hk, rfl, hr, HX, hb⟩ := hrel
      by_cases hlt : k < len
      · obtain ⟨b, off, c, hab, hc, hbl, hcell⟩ := (hs.below hb).nth k hlt
        simp at hab
        subst hab
        have hxl : k < xs.length := by have := hr.1; omega
        have hcq := hr.cellAt k (by omega)
        rw [List.getElem?_eq_getElem hxl] at hcq
        generalize xs[k] = u at hcq
        have hfq := hr.frozenAt k
        have hst := hr.stored k (.int .u8 (c.toNat : Int))
        have R3 := hide (set_take_succ (y := Value.int .u8 (c.toNat : Int)) (unhide HX) (by rw [bytesV, List.getElem?_map, hc]; rfl) hxl)
        have HR1 := hide hst.1
        have HR2 := hide (Below.grown hb hst.2 hb.size (fun j hj => by simp at hj; omega))
        clear hst hr hc hxl
        go_wp2
        go_roundw
        case rel => exact ⟨k + 1, _, by omega, by go_num, unhide HR1, R3, unhide HR2⟩
        case measure => simp [intOf]; omega
      · have hx := unhide HX
        have h1 := hr.1
        rw [List.take_of_length_le (by omega), List.take_of_length_le (by rw [bytesV_length]; have := unhide HL; omega)] at hx
        have R1 : Buf wr w.heap.size (.slice (some ⟨w.heap.size, 0, none⟩) len len) l := by
          rw [Buf, Own, bytesV_length, unhide HL, ← hx]; exact hr
        clear hr hx h1
        go_wp2
        go_ret
        exact ⟨_, rfl, R1, hb, by simp⟩
end Go.Proofs.Ymbrdj
