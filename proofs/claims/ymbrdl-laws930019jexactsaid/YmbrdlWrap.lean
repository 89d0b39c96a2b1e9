import Derived.Test.YmbrdlRows
import Derived.Test.YmbrdlKit2
import Derived.Test.YmbrdlWrapP
import Derived.WalkKit
import Derived.WalkSpells
import Derived.WalkLawsBesides
import Derived.Deep.DeepMust
set_option linter.unusedSimpArgs false
set_option linter.unusedVariables false
namespace Go.Proofs.Ymbrdl
open Go.RowKit

theorem info9w : (Ydlm.prog.info? 9).map (fun i => (i.zero, i.size, i.bytes)) = some (some (.string ByteArray.empty), 1, 16) := by kernel_rfl
theorem infoSw : (Ydlm.prog.info? 22).map (fun i => (i.zero, i.size, i.bytes)) = some (some (.slice none 0 0), 1, 24) := by kernel_rfl

/-- Rows of words that the call owns, each in a block below the running line's. -/
def OwnRows (w : World) (B : Nat) (lv : Value) (hs : List Value) (L : List (List ByteArray)) : Prop :=
  hs.length = L.length ∧ ∀ k (h : k < L.length), ∃ x, hs[k]? = some x ∧ Own w B 9 x (L[k].map Value.string) ∧ ∀ g g', x.ownBlock = some g → lv.ownBlock = some g' → g < g'

theorem OwnRows.nil (w : World) (B : Nat) (lv : Value) : OwnRows w B lv [] [] := ⟨rfl, fun k h => absurd h (Nat.not_lt_zero _)⟩

/-- The running line has grown. -/
theorem OwnRows.line {w w' : World} {B : Nat} {lv lv' : Value} {hs : List Value} {L : List (List ByteArray)} (h : OwnRows w B lv hs L) (hn : lv.ownBlock ≠ none) (hg : w.grownBy w' lv.ownBlock)
    (hat : lv'.ownBlock = lv.ownBlock ∨ lv'.ownBlock = some (w.heap.size + 1)) : OwnRows w' B lv' hs L := by
  refine ⟨h.1, fun k hk => ?_⟩
  obtain ⟨x, hx, hown, hb⟩ := h.2 k hk
  refine ⟨x, hx, Own.grown hown hg ?_, fun g g' hg1 hg2 => ?_⟩
  · cases hxb : x.ownBlock with
    | none => exact .inl rfl
    | some g =>
      refine .inr fun he => ?_
      have := hb g g hxb he.symm
      omega
  · rcases hat with hat | hat
    · rw [hat] at hg2; exact hb g g' hg1 hg2
    · rw [hat] at hg2
      have := (World.ownsRow.lt hown g hg1).2
      simp at hg2
      omega
/-- The row of headers has grown by the running line; a new line has begun in a new block. -/
theorem OwnRows.push {w w' : World} {B : Nat} {v lv lv' : Value} {hs : List Value} {L : List (List ByteArray)} {l : List ByteArray} {o : Obj} (h : OwnRows w B lv hs L) (hv : Own w B 22 v hs) (hl : Own w B 9 lv (l.map Value.string)) (hg : w.grownBy w' v.ownBlock)
    (hlv : lv'.ownBlock = some w'.heap.size) : OwnRows (w'.alloc o) B lv' (hs ++ [lv]) (L ++ [l]) := by
  have hne : (9 : TypeId) ≠ 22 := by decide
  refine ⟨by simp [h.1], fun k hk => ?_⟩
  by_cases hkl : k < L.length
  · obtain ⟨x, hx, hown, hb⟩ := h.2 k hkl
    have h2 := Own.grown hown hg (Own.apart hown hv hne)
    refine ⟨x, by rw [List.getElem?_append_left (by rw [h.1]; exact hkl)]; exact hx, by rw [List.getElem_append_left hkl]; exact World.ownsRow.alloc h2 o, fun g g' hg1 hg2 => ?_⟩
    rw [hlv] at hg2
    have := (World.ownsRow.lt h2 g hg1).2
    simp at hg2
    omega
  · simp at hk
    obtain rfl : k = L.length := by omega
    have h2 := Own.grown hl hg (Own.apart hl hv hne)
    refine ⟨lv, by rw [← h.1]; simp, by rw [show (L ++ [l])[L.length] = l by simp]; exact World.ownsRow.alloc h2 o, fun g g' hg1 hg2 => ?_⟩
    rw [hlv] at hg2
    have := (World.ownsRow.lt h2 g hg1).2
    simp at hg2
    omega
/-- A last line joins the row of headers. -/
theorem OwnRows.close {w w' : World} {B : Nat} {v lv : Value} {hs : List Value} {L : List (List ByteArray)} {l : List ByteArray} (h : OwnRows w B lv hs L) (hv : Own w B 22 v hs) (hl : Own w B 9 lv (l.map Value.string)) (hg : w.grownBy w' v.ownBlock) :
    OwnRows w' B (.slice none 0 0) (hs ++ [lv]) (L ++ [l]) := by
  have hne : (9 : TypeId) ≠ 22 := by decide
  refine ⟨by simp [h.1], fun k hk => ?_⟩
  by_cases hkl : k < L.length
  · obtain ⟨x, hx, hown, hb⟩ := h.2 k hkl
    exact ⟨x, by rw [List.getElem?_append_left (by rw [h.1]; exact hkl)]; exact hx, by rw [List.getElem_append_left hkl]; exact Own.grown hown hg (Own.apart hown hv hne), fun g g' _ h => by simp [Value.ownBlock] at h⟩
  · simp at hk
    obtain rfl : k = L.length := by omega
    exact ⟨lv, by rw [← h.1]; simp, by simpa using Own.grown hl hg (Own.apart hl hv hne), fun g g' _ h => by simp [Value.ownBlock] at h⟩
theorem OwnRows.forget {w : World} {B : Nat} {lv : Value} {hs : List Value} {L : List (List ByteArray)} (h : OwnRows w B lv hs L) : OwnRows w B (.slice none 0 0) hs L :=
  ⟨h.1, fun k hk => by obtain ⟨x, hx, ho, _⟩ := h.2 k hk; exact ⟨x, hx, ho, fun g g' _ h => by simp [Value.ownBlock] at h⟩⟩

theorem own_new (w : World) (B : Nat) (s : ByteArray) (hB : B ≤ w.heap.size) : Own (w.alloc (.cells #[.string s] 9)) B 9 (.slice (some ⟨w.heap.size, 0, none⟩) 1 1) [.string s] :=
  ⟨rfl, .inr ⟨w.heap.size, 1, #[.string s], rfl, hB, heap_alloc_new w _, Nat.le_refl _, by unfold maxLen; omega, rfl, rfl⟩⟩

/-- What Wrap hands back. -/
def Wrapped (w w' : World) (v : Value) (L : List (List ByteArray)) : Prop := ∃ hs, Own w' w.heap.size 22 v hs ∧ OwnRows w' w.heap.size (.slice none 0 0) hs L ∧ (v = .slice none 0 0 ↔ L = [])

theorem Wrapped.strss {w w' : World} {v : Value} {L : List (List ByteArray)} (h : Wrapped w w' v L) (hz : ∀ l ∈ L, ∀ s ∈ l, s.size ≤ maxLen) : ∃ a cap, v = .slice a L.length cap ∧ Strss w' a L.length cap L ∧ (a = none ↔ L = []) := by
  obtain ⟨hs, hown, ⟨hl, hr⟩, hn⟩ := h
  obtain ⟨a, cap, hv, hle, hmx, hf, hn0, hc⟩ := Own.read hown
  rw [hl] at hv hle
  refine ⟨a, cap, hv, ⟨rfl, hle, hmx, fun hp => ?_, fun k hk => ?_⟩, ?_⟩
  · obtain ⟨b, hb⟩ := hf hp
    exact ⟨b, 0, hb⟩
  · obtain ⟨b, off, ha, hlt, hcc⟩ := hc k (by omega)
    obtain ⟨x, he, hx, _⟩ := hr k hk
    obtain ⟨a', cap', rfl, hS, _⟩ := Own.strs hx (hz _ (List.getElem_mem hk))
    rw [List.getElem?_eq_getElem (by omega)] at he
    simp at he
    rw [he] at hcc
    exact ⟨b, off, a', _, cap', ha, hlt, hcc, hS⟩
  · rw [← hn, hv]
    constructor
    · intro ha
      have h0 := hn0 ha
      have h1 : L.length = 0 := by omega
      rw [ha, h0, h1]
    · intro h
      simp at h
      exact h.1

set_option maxHeartbeats 3000000 in
theorem wrap_any (a : Option Addr) (len cap : Nat) (ss : List ByteArray) (width : Int) (w : World) (hs : Strs w a len cap ss) (hw1 : width ≤ 9223372036854775807) (hw0 : -9223372036854775808 ≤ width) (hl4 : len ≤ 1048576) :
    Calls Ydlm.prog 31 #[.slice a len cap, .int .i64 width] w fun e w' => ((∃ v, e = .returned (.tuple #[v, .bool true]) ∧ (∀ s ∈ ss, (s.size : Int) ≤ width) ∧ Wrapped w w' v (wrapL width ss)) ∨ (e = .returned (.tuple #[.slice none 0 0, .bool false]) ∧ ∃ s ∈ ss, width < (s.size : Int))) ∧ Below w.heap.size w w' := by
  obtain ⟨i9, hi9, hz90, hz91, hz92⟩ := info_parts info9w
  obtain ⟨iS, hiS, hzS0, hzS1, hzS2⟩ := info_parts infoSw
  have hle := hs.le
  have hmx := hs.max
  unfold maxLen at hmx
  have HL := hide hs.hlen
  go_enter Ydlm.func31, Ydlm.ntmps31
  go_wp2
  go_loopw [6, 7, 8, 13] (fun v lv rm i wr => ∃ (k : Nat) (room : Int) (L : List (List ByteArray)) (l : List ByteArray) (hd : List Value), k ≤ len ∧ i = .int .i64 k ∧ rm = .int .i64 room ∧ 0 ≤ room ∧ room ≤ 9223372036854775807 ∧ L.length ≤ k ∧ l.length ≤ k ∧
      Own wr w.heap.size 22 v hd ∧ OwnRows wr w.heap.size lv hd L ∧ Own wr w.heap.size 9 lv (l.map Value.string) ∧ Hid (l ≠ [] ∨ k = 0) ∧ Hid (L ++ wrapGo width l room (ss.drop k) = wrapL width ss) ∧ Below w.heap.size w wr ∧ Hid (v = .slice none 0 0 ↔ L = []) ∧ Hid (∀ (j : Nat) s, j < k → ss[j]? = some s → (s.size : Int) ≤ width)) (fun _ _ _ i _ => len - (intOf i).toNat)
  case atStart => exact ⟨0, 0, [], [], [], Nat.zero_le _, rfl, rfl, by omega, by omega, Nat.le_refl _, Nat.le_refl _, Own.nil _ _ _, OwnRows.nil _ _ _, Own.nil _ _ _, .inr rfl, by simp [Hid, wrapL], Below.refl _ _, by simp [Hid], fun j s h => absurd h (Nat.not_lt_zero _)⟩
  case round =>
    obtain ⟨k, room, L, l, hd, hk, rfl, rfl, hr0, hr1, hLk, hlk, hown, hrows, hline, HK, HE, hb, HN, HF⟩ := hrel
    have hBr := hb.size
    have hdl : hd.length ≤ 1048576 := by have := hrows.1; omega
    by_cases hlt : k < len
    · obtain ⟨b, off, s, rfl, hss, hsz, hbl, hc⟩ := hs.nth k hlt
      have hc' : wr.cell? ⟨b, off + k, none⟩ = some (.string s) := (hb.cell (p := ⟨b, off + k, none⟩) hbl).trans hc
      by_cases hsw : width < (s.size : Int)
      · have HX : Hid (∃ s ∈ ss, width < (s.size : Int)) := ⟨s, List.mem_of_getElem? hss, hsw⟩
        unfold maxLen at hsz
        clear hss hc hrows hown hline HE HK HN HF
        go_wp2
        go_ret2
        exact ⟨.inr ⟨rfl, unhide HX⟩, hb⟩
      have HF' : Hid (∀ (j : Nat) s, j < k + 1 → ss[j]? = some s → (s.size : Int) ≤ width) := fun j s' hj hs' => by
        by_cases hjk : j < k
        · exact unhide HF j s' hjk hs'
        · obtain rfl : j = k := by omega
          rw [hss] at hs'
          obtain rfl := Option.some.inj hs'
          omega
      have hdr : ss.drop k = s :: ss.drop (k + 1) := by
        obtain ⟨hkl, rfl⟩ := List.getElem?_eq_some_iff.1 hss
        exact List.drop_eq_getElem_cons hkl
      have hE := unhide HE
      rw [hdr] at hE
      unfold maxLen at hsz
      clear hss hc hdr HE
      obtain ⟨a7, cap7, rfl, hle7, hmx7, hf7, hn7, hc7⟩ := Own.read hline
      have hll : (l.map Value.string).length ≤ 1048576 := by rw [List.length_map]; omega
      unfold maxLen at hmx7
      by_cases hl0 : 0 < (l.map Value.string).length
      · have hlne : l ≠ [] := fun h => by subst h; simp at hl0
        have hob : (Value.slice a7 (l.map Value.string).length cap7).ownBlock ≠ none := by
          obtain ⟨bb, hbb⟩ := hf7 (by omega)
          rw [hbb]; simp [Value.ownBlock]
        by_cases hfit : (s.size : Int) < room
        · rw [wrapGo_fit hlne hfit] at hE
          have HE := hide hE
          have HOB := hide hob
          clear hE hlne hc7 hn7 hf7 hob
          generalize hN : (l.map Value.string).length = N at *
          have HNN := hide hN
          clear hN
          go_wp2_with (at_builtin; go_must (refine wpList_append1 rfl _ _ 22 rfl w.heap.size 9 i9 (.string ByteArray.empty) 16 Ydlm.underlying22 hi9 hz90 hz91 hz92 rfl (.slice a7 N cap7) (l.map Value.string) rfl wr (.string s) rfl hline hBr rfl (by rw [unhide HNN]; omega) (by rw [unhide HNN]; unfold maxLen; omega) ?_); intro v3 w3 hu3 hg3 hat3 hne3)
          have R1 : Own w3 w.heap.size 9 v3 ((l ++ [s]).map Value.string) := by rw [List.map_append]; exact hu3
          have R2 := Below.of_grown hb hline hBr hg3
          have R3 := hrows.line (unhide HOB) hg3 hat3
          have R4 := Own.grown hown hg3 (Own.apart hown hline (by decide))
          have hll2 : (l ++ [s]).length ≤ k + 1 := by simp; omega
          clear hu3 hg3 hat3 hne3 hrows hown hline hb hle7 hmx7
          go_wp2
          go_roundw
          case rel => exact ⟨k + 1, room - (1 + s.size), L, l ++ [s], hd, by omega, by go_num, by first | rfl | go_num, by omega, by omega, by omega, hll2, R4, R3, R1, .inl (by simp), HE, R2, HN, HF'⟩
          case measure => simp [intOf]; omega
        · rw [wrapGo_break hlne hfit] at hE
          have HE := hide hE
          clear hE hlne hc7 hn7 hf7 hob
          generalize hN : (l.map Value.string).length = N at *
          have HNN := hide hN
          clear hN
          go_wp2_with (at_builtin; go_must (refine wpList_append1 rfl _ _ 38 rfl w.heap.size 22 iS (.slice none 0 0) 24 Ydlm.underlying38 hiS hzS0 hzS1 hzS2 rfl u6 hd rfl wr (.slice a7 N cap7) rfl hown hBr rfl (by omega) (by unfold maxLen; omega) ?_); intro v3 w3 hu3 hg3 hat3 hne3)
          have R2 := Below.of_grown hb hown hBr hg3
          have hB3 := R2.size
          have R3 := OwnRows.push (o := .cells #[.string s] 9) (lv' := .slice (some ⟨w3.heap.size, 0, none⟩) 1 1) hrows hown hline hg3 rfl
          have R4 := World.ownsRow.alloc hu3 (.cells #[.string s] 9)
          have R5 := own_new w3 w.heap.size s hB3
          have R6 := R2.alloc hB3 (.cells #[.string s] 9)
          have R7 : Hid ((L ++ [l]) ++ wrapGo width [s] (width - s.size) (ss.drop (k + 1)) = wrapL width ss) := by have := unhide HE; show _ = _; rw [← this]; simp
          have R8 : Hid (v3 = .slice none 0 0 ↔ L ++ [l] = []) := by show _ ↔ _; simp [hne3]
          have hll2 : (L ++ [l]).length ≤ k + 1 := by simp; omega
          clear hu3 hg3 hat3 hne3 hrows hown hline hb hle7 hmx7 R2 HE
          go_wp2
          go_roundw
          case rel => exact ⟨k + 1, width - s.size, L ++ [l], [s], _, by omega, by go_num, rfl, by omega, by omega, hll2, by simp, R4, R3, R5, .inl (by simp), R7, R6, R8, HF'⟩
          case measure => simp [intOf]; omega
      · obtain rfl : l = [] := List.eq_nil_of_length_eq_zero (by rw [List.length_map] at hl0; omega)
        rw [wrapGo_open] at hE
        have HE := hide hE
        have hL0 : L = [] := List.eq_nil_of_length_eq_zero (by rcases unhide HK with h | h; exact absurd rfl h; omega)
        have HL0 := hide hL0
        clear hE hL0
        have R3 : OwnRows (wr.alloc (.cells #[.string s] 9)) w.heap.size (.slice (some ⟨wr.heap.size, 0, none⟩) 1 1) hd L := by
          obtain ⟨h1, h2⟩ := hrows
          refine ⟨h1, fun q hq => ?_⟩
          obtain ⟨x, hx, ho, _⟩ := h2 q hq
          refine ⟨x, hx, World.ownsRow.alloc ho _, fun g g' hg1 hg2 => ?_⟩
          have := (World.ownsRow.lt ho g hg1).2
          simp [Value.ownBlock] at hg2
          omega
        have R4 := World.ownsRow.alloc hown (.cells #[.string s] 9)
        have R5 := own_new wr w.heap.size s hBr
        have R6 := hb.alloc hBr (.cells #[.string s] 9)
        clear hrows hown hline hb hc7 hn7 hf7
        go_wp2
        go_roundw
        case rel => exact ⟨k + 1, width - s.size, L, [s], hd, by omega, by go_num, rfl, by omega, by omega, by omega, by simp, R4, R3, R5, .inl (by simp), HE, R6, HN, HF'⟩
        case measure => simp [intOf]; omega
    · have HA : Hid (∀ s ∈ ss, (s.size : Int) ≤ width) := fun s hs' => by
        obtain ⟨j, hj, rfl⟩ := List.getElem_of_mem hs'
        exact unhide HF j _ (by have := unhide HL; omega) (List.getElem?_eq_getElem hj)
      have hE := unhide HE
      rw [List.drop_of_length_le (by have := unhide HL; omega), wrapGo_end] at hE
      obtain ⟨a7, cap7, rfl, hle7, hmx7, hf7, hn7, hc7⟩ := Own.read hline
      have hll : (l.map Value.string).length ≤ 1048576 := by rw [List.length_map]; omega
      by_cases hl0 : 0 < (l.map Value.string).length
      · rw [if_neg (fun h => by subst h; simp at hl0)] at hE
        have HE2 := hide hE
        clear hE HE hc7 hn7 hf7
        generalize hN : (l.map Value.string).length = N at *
        have HNN := hide hN
        clear hN
        go_wp2_with (at_builtin; go_must (refine wpList_append1 rfl _ _ 38 rfl w.heap.size 22 iS (.slice none 0 0) 24 Ydlm.underlying38 hiS hzS0 hzS1 hzS2 rfl u6 hd rfl wr (.slice a7 N cap7) rfl hown hBr rfl (by omega) (by unfold maxLen; omega) ?_); intro v3 w3 hu3 hg3 hat3 hne3)
        have R2 := Below.of_grown hb hown hBr hg3
        have R3 := OwnRows.close hrows hown hline hg3
        have R8 : (v3 = .slice none 0 0 ↔ L ++ [l] = []) := by simp [hne3]
        have R9 : Hid (Wrapped w w3 v3 (wrapL width ss)) := by rw [← unhide HE2]; exact ⟨_, hu3, R3, R8⟩
        clear hu3 hg3 hat3 hne3 hrows hown hline hb hle7 hmx7 R3 R8
        go_wp2
        go_ret2
        exact ⟨.inl ⟨_, rfl, unhide HA, unhide R9⟩, R2⟩
      · obtain rfl : l = [] := List.eq_nil_of_length_eq_zero (by rw [List.length_map] at hl0; omega)
        rw [if_pos rfl, List.append_nil] at hE
        have R9 : Hid (Wrapped w wr u6 (wrapL width ss)) := by rw [← hE]; exact ⟨_, hown, hrows.forget, unhide HN⟩
        clear hE hc7 hn7 hf7 hrows hown hline
        go_wp2
        go_ret2
        exact ⟨.inl ⟨_, rfl, unhide HA, unhide R9⟩, hb⟩
end Go.Proofs.Ymbrdl
