import Derived.Test.YmbrdjSpIn
set_option linter.unusedSimpArgs false
set_option linter.unusedVariables false
namespace Go.Proofs.Ymbrdj
open Go.RowKit

/-- The row at g. -/
def RowAt (w : World) (g : Nat) (l : List UInt8) : Prop := w.heap[g]? = some (.cells (bytesV l).toArray 5 (0, 0))

theorem RowAt.grown {w w' : World} {g : Nat} {l : List UInt8} {r : Option Nat} (h : RowAt w g l) (hg : w.grownBy w' r) (hr : some g ≠ r) : RowAt w' g l := by
  unfold RowAt
  rw [hg.block g (Array.getElem?_eq_some_iff.1 h).1 hr]; exact h
theorem RowAt.cells {w : World} {g : Nat} {l : List UInt8} (h : RowAt w g l) : ∀ j u, (bytesV l)[j]? = some u → w.cell? ⟨g, j, none⟩ = some u := by
  intro j u hj
  rw [cell_of_row w g j _ 5 (0, 0) h]; simpa using hj
theorem grown_any {a b c : World} {g : Nat} (h : a.grownBy b (some g)) (k : b.grownBy c none) : a.grownBy c (some g) :=
  ⟨k.os.trans h.os, k.tape.trans h.tape, k.output.trans h.output, Nat.le_trans h.size k.size, fun i hi hr => (k.block i (Nat.lt_of_lt_of_le hi h.size) (by simp)).trans (h.block i hi hr)⟩
theorem grown_own {a b c : World} {g : Nat} {r : Option Nat} (h : a.grownBy b (some g)) (k : b.grownBy c r) (hr : ∀ x, r = some x → a.heap.size ≤ x) : a.grownBy c (some g) :=
  ⟨k.os.trans h.os, k.tape.trans h.tape, k.output.trans h.output, Nat.le_trans h.size k.size, fun i hi hi2 => (k.block i (Nat.lt_of_lt_of_le hi h.size) (fun e => by have := hr i e.symm; omega)).trans (h.block i hi hi2)⟩

set_option maxHeartbeats 1600000 in
theorem appendSpaces_in (g k n : Nat) (l : List UInt8) (m : Int) (w : World) (hrow : RowAt w g l) (hn : l.length = n) (hk : k ≤ n) (hm1 : m ≤ 65536) (hn1 : n ≤ 65536) :
    Calls Ydjm.prog 20 #[.slice (some ⟨g, 0, none⟩) k n, .int .i64 m] w fun e w' => (∃ a cap, e = .returned (.slice a (k + m.toNat) cap)) ∧ RowAt w' g (fillL l k m.toNat) ∧ w.grownBy w' (some g) := by
  obtain ⟨i0, hi, hz0, hz1, hz2⟩ := info_parts Ydjm.info5
  have HN := hide hn
  clear hn
  go_enter Ydjm.func20, Ydjm.ntmps20
  go_wp2
  go_loopw [0, 5] (fun u i wr => ∃ j : Nat, (j : Int) ≤ max m 0 ∧ i = .int .i64 j ∧ RowAt wr g (fillL l k j) ∧ w.grownBy wr (some g) ∧
      Hid ((k + j ≤ n ∧ u = .slice (some ⟨g, 0, none⟩) (k + j) n) ∨ (n < k + j ∧ ∃ xs : List Value, xs.length = k + j ∧ Own wr w.heap.size 5 u xs))) (fun _ i _ => (m - intOf i).toNat)
  case atStart => exact ⟨0, by omega, rfl, by rw [fillL_zero]; exact hrow, grownBy_refl _ _, .inl ⟨by omega, rfl⟩⟩
  case round =>
    obtain ⟨j, hj, rfl, hr, hg, HD⟩ := hrel
    have hgl : g < w.heap.size := (Array.getElem?_eq_some_iff.1 hrow).1
    by_cases hlt : (j : Int) < m
    · rcases unhide HD with ⟨hkj, rfl⟩ | ⟨hkj, xs, hxl, hown⟩
      · by_cases hroom : k + j < n
        · have hyl : (bytesV (fillL l k j)).length = n := by rw [bytesV_length, fillL_length _ _ _ (by have := unhide HN; omega)]; exact unhide HN
          have HS := hide (fillL_succ l k j (by have := unhide HN; omega))
          clear HD
          go_wp2_with (at_builtin; go_must (refine wpList_append_in rfl _ _ 26 rfl 5 i0 Ydjm.underlying26 hi hz1 g (k + j) n (bytesV (fillL l k j)) rfl wr (.int .u8 32) rfl hr hyl (by omega) rfl ?_); intro w3 hr3 hg3)
          rw [unhide HS] at hr3
          have R2 := grownBy_trans hg hg3
          clear hg3 hg hr hyl
          go_wp2
          go_roundw
          case rel => exact ⟨j + 1, by omega, by go_num, hr3, R2, .inl ⟨by omega, rfl⟩⟩
          case measure => simp [intOf]; omega
        · have hfull : k + j = n := by omega
          have hlo : (bytesV (fillL l k j)).length = (k + j) * 1 := by rw [bytesV_length, fillL_length _ _ _ (by have := unhide HN; omega)]; have := unhide HN; omega
          have HF := hide (fillL_full l k j (by have := unhide HN; omega))
          have hcells : ∀ b, (some (⟨g, 0, none⟩ : Addr)) = some b → ∀ q u, (bytesV (fillL l k j))[q]? = some u → (wr.alloc (.cells #[.int .u8 32] 5)).cell? (b.add q) = some u := by
            intro b hb q u hq
            simp at hb
            subst hb
            rw [addr_add, Nat.zero_add, ← (RowAt.cells hr q u hq)]
            exact ((Below.refl wr.heap.size wr).alloc (Nat.le_refl _) _).cell (p := ⟨g, q, none⟩) (Nat.lt_of_lt_of_le hgl hg.size)
          have HFU := hide hfull
          have HC := hide hcells
          clear HD hfull hcells
          go_wp2_with (at_builtin; go_must (refine wpList_append_grows _ rfl _ _ 26 rfl 5 i0 (.int .u8 0) 1 1 Ydjm.underlying26 hi hz0 hz1 hz2 rfl (by decide) (some ⟨g, 0, none⟩) (k + j) n (bytesV (fillL l k j)) rfl (fun h => by cases h) hlo (unhide HC) ⟨wr.heap.size, 0, none⟩ 1 1 [.int .u8 32] rfl rfl (cell_one_new _ _ _) (by intro u hu; simp at hu; subst hu; rfl) (by omega) (by unfold maxLen; omega) (by omega) ?_); intro v3 w3 hu3 hg3)
          have hg4 : wr.grownBy w3 none := grownBy_trans (World.grownBy_alloc wr _ _) hg3
          have R1 : RowAt w3 g (fillL l k (j + 1)) := by rw [unhide HF]; exact hr.grown hg4 (by simp)
          have R2 := grown_any hg hg4
          have R3 : Own w3 w.heap.size 5 v3 (bytesV (fillL l k j) ++ [.int .u8 32]) := by
            have h1 : Own w3 (wr.alloc (.cells #[.int .u8 32] 5)).heap.size 5 v3 (bytesV (fillL l k j) ++ [.int .u8 32]) := by
              unfold Own; rw [List.length_append, hlo]; simpa using hu3
            exact h1.mono (by have := hg.size; simp; omega)
          have R4 : (bytesV (fillL l k j) ++ [Value.int .u8 32]).length = k + (j + 1) := by rw [List.length_append, hlo]; simp; omega
          clear hu3 hg3 hg4 hr hg HC hlo
          go_wp2
          go_roundw
          case rel => exact ⟨j + 1, by omega, by go_num, R1, R2, .inr ⟨by have := unhide HFU; omega, _, R4, R3⟩⟩
          case measure => simp [intOf]; omega
      · have hBr : w.heap.size ≤ wr.heap.size := hg.size
        have HF := hide (fillL_full l k j (by have := unhide HN; omega))
        clear HD
        go_wp2_with (at_builtin; go_must (refine wpList_append1 rfl _ _ 26 rfl w.heap.size 5 i0 (.int .u8 0) 1 Ydjm.underlying26 hi hz0 hz1 hz2 rfl u0 xs rfl wr (.int .u8 32) rfl hown hBr rfl (by omega) (by unfold maxLen; omega) ?_); intro v3 w3 hu3 hg3 hat3 hne3)
        have hlt2 : ∀ x, u0.ownBlock = some x → w.heap.size ≤ x := fun x hx => (World.ownsRow.lt hown x hx).1
        have R1 : RowAt w3 g (fillL l k (j + 1)) := by rw [unhide HF]; exact hr.grown hg3 (fun e => by have := hlt2 g e.symm; omega)
        have R2 := grown_own hg hg3 hlt2
        have R4 : (xs ++ [Value.int .u8 32]).length = k + (j + 1) := by rw [List.length_append, hxl]; simp; omega
        clear hg3 hat3 hne3 hr hg hown hlt2
        go_wp2
        go_roundw
        case rel => exact ⟨j + 1, by omega, by go_num, R1, R2, .inr ⟨by omega, _, R4, hu3⟩⟩
        case measure => simp [intOf]; omega
    · obtain rfl : m.toNat = j := by omega
      have HSH : Hid (∃ a cap, u0 = .slice a (k + m.toNat) cap) := by
        rcases unhide HD with ⟨_, rfl⟩ | ⟨_, xs, hxl, hown⟩
        · exact ⟨_, _, rfl⟩
        · obtain ⟨a, cap, hv, _⟩ := Own.read hown
          rw [hxl] at hv
          exact ⟨a, cap, hv⟩
      obtain ⟨a, cap, rfl⟩ := unhide HSH
      clear HD HSH
      go_wp2
      go_ret
      exact ⟨⟨a, cap, rfl⟩, hr, hg⟩
end Go.Proofs.Ymbrdj
