/-
  The arguments of the laws, opened: slices of strings, slices of slices of strings, slices of numbers.
-/
import Derived.Test.YmbrdlKit
import Derived.ProofKit
import Derived.OpenShut
import Derived.ShutString
import Derived.ChangeOld
import Derived.Below
import Derived.Deep.Strs
import Derived.Deep.Slices
set_option linter.unusedSimpArgs false
set_option linter.unusedVariables false
namespace Go.Proofs.Ymbrdl
open Go.ChangeShapes Go.WideShapes Go.ChangeAt Go.RowKit

/-- A slice of slices of strings that is read. -/
structure Strss (w : World) (a : Option Addr) (len cap : Nat) (L : List (List ByteArray)) : Prop where
  hlen : L.length = len
  le : len ≤ cap
  max : cap ≤ maxLen
  form : 0 < cap → ∃ b off, a = some ⟨b, off, none⟩
  rows : ∀ k (h : k < L.length), ∃ b off a' len' cap', a = some ⟨b, off, none⟩ ∧ b < w.heap.size ∧ w.cell? ⟨b, off + k, none⟩ = some (.slice a' len' cap') ∧ Strs w a' len' cap' L[k]

theorem Strss.below {w w' : World} {a : Option Addr} {len cap : Nat} {L : List (List ByteArray)} (h : Strss w a len cap L) (hb : Below w.heap.size w w') : Strss w' a len cap L := by
  refine ⟨h.hlen, h.le, h.max, h.form, fun k hk => ?_⟩
  obtain ⟨b, off, a', len', cap', ha, hlt, hc, hs⟩ := h.rows k hk
  exact ⟨b, off, a', len', cap', ha, Nat.lt_of_lt_of_le hlt hb.size, (hb.cell (p := ⟨b, off + k, none⟩) hlt).trans hc, hs.below hb⟩

theorem Strss.nth {w : World} {a : Option Addr} {len cap : Nat} {L : List (List ByteArray)} (h : Strss w a len cap L) (k : Nat) (hk : k < len) :
    ∃ b off a' len' cap' ss, a = some ⟨b, off, none⟩ ∧ L[k]? = some ss ∧ b < w.heap.size ∧ w.cell? ⟨b, off + k, none⟩ = some (.slice a' len' cap') ∧ Strs w a' len' cap' ss := by
  have hl := h.hlen
  have hk' : k < L.length := by omega
  obtain ⟨b, off, a', len', cap', ha, hlt, hc, hs⟩ := h.rows k hk'
  exact ⟨b, off, a', len', cap', L[k], ha, List.getElem?_eq_getElem hk', hlt, hc, hs⟩

theorem plain_of_cell {w : World} {a : Addr} {i : Nat} {v v0 : Value} (h0 : w.cell? (a.add 0) = some v0) (h : w.cell? (a.add i) = some v) : ∃ b off, a = ⟨b, off, none⟩ ∧ b < w.heap.size ∧ w.cell? ⟨b, off + i, none⟩ = some v := by
  obtain ⟨b, off, spot⟩ := a
  have hspot : spot = none := by simpa [Addr.add] using World.cell?_spot h0
  subst hspot
  have e := Go.WideShapes.add_plain b off i
  rw [e] at h
  exact ⟨b, off, rfl, World.block_lt_of_cell? w ⟨b, off + i, none⟩ h, h⟩

section
variable {H : Type} {enc : TypeId × Value → H} {P : Program} {W : World}

theorem strs_of_cells {t e : TypeId} {fuel : Nat} {a : Option Addr} {len cap : Nat} {x : DataW H × List MemPlace} (ht : P.underlying t = some (.slice e)) (he : P.underlying e = some .string) (hc : P.cellsOf e = 1)
    (h : DataW.trod enc P W 0 (fun _ => true) true fuel t [.slice a len cap] = some x) : ∃ ss, Strs W a len cap ss := by
  rcases Go.Deep.open_strs ht he hc h with ⟨hcs, _⟩ | ⟨a', len', cap', m, Sx, hcs, _, hl, hm, hmm, _, hcell⟩
  · simp at hcs
    obtain ⟨rfl, rfl, rfl⟩ := hcs
    exact ⟨[], rfl, Nat.le_refl _, Nat.zero_le _, fun s hs => by (cases hs), fun h => absurd h (Nat.lt_irrefl _), Cells.nil _ _⟩
  · simp at hcs
    obtain ⟨rfl, rfl, rfl⟩ := hcs
    simp only [if_true] at hmm
    subst hmm
    refine ⟨(List.range len).map Sx, by simp, hl, hm, ?_, ?_, ?_⟩
    · intro s hs
      simp at hs
      obtain ⟨i, hi, rfl⟩ := hs
      exact (hcell i (by omega)).2
    · intro hp
      obtain ⟨b, off, rfl, _⟩ := plain_of_cell (hcell 0 hp).1 (hcell 0 hp).1
      exact ⟨b, off, rfl⟩
    · intro i hi
      simp at hi
      obtain ⟨b, off, rfl, hlt, hcc⟩ := plain_of_cell (hcell 0 (by omega)).1 (hcell i (by omega)).1
      exact ⟨b, off, rfl, hlt, by simpa using hcc⟩

theorem strs_of {t e : TypeId} {a : Option Addr} {len cap : Nat} {d : DataW H} {p : List MemPlace} (ht : P.underlying t = some (.slice e)) (he : P.underlying e = some .string) (hc : P.cellsOf e = 1)
    (h : DataW.Trod enc P W 0 (fun _ => true) true t (.slice a len cap) d p) : ∃ ss, Strs W a len cap ss := by
  obtain ⟨fuel, hf⟩ := h
  exact strs_of_cells (fuel := fuel) ht he hc (by simpa [Value.cells] using hf)

theorem choose_list {α : Type} {p : Nat → α → Prop} : ∀ n, (∀ i, i < n → ∃ x, p i x) → ∃ l : List α, l.length = n ∧ ∀ i (h : i < l.length), p i l[i]
  | 0, _ => ⟨[], rfl, fun i h => absurd h (Nat.not_lt_zero _)⟩
  | n + 1, h => by
    obtain ⟨l, hl, hp⟩ := choose_list n (fun i hi => h i (by omega))
    obtain ⟨x, hx⟩ := h n (by omega)
    refine ⟨l ++ [x], by simp [hl], fun i hi => ?_⟩
    by_cases hin : i < l.length
    · rw [List.getElem_append_left hin]; exact hp i hin
    · simp at hi
      obtain rfl : i = l.length := by omega
      simp; rw [hl]; exact hx

theorem strss_of {t e q : TypeId} {a : Option Addr} {len cap : Nat} {d : DataW H} {p : List MemPlace} (ht : P.underlying t = some (.slice e)) (he : P.underlying e = some (.slice q)) (hq : P.underlying q = some .string) (ce : P.cellsOf e = 1) (cq : P.cellsOf q = 1)
    (h : DataW.Trod enc P W 0 (fun _ => true) true t (.slice a len cap) d p) : ∃ L, Strss W a len cap L := by
  obtain ⟨fuel, hf⟩ := h
  rcases Go.Deep.open_slice1 ht ce (by simpa [Value.cells] using hf) with ⟨hcs, _⟩ | ⟨a', len', cap', m, n, V, D, Pl, hcs, _, hl, hm, hmm, _, hcell⟩
  · simp at hcs
    obtain ⟨rfl, rfl, rfl⟩ := hcs
    exact ⟨[], rfl, Nat.le_refl _, Nat.zero_le _, fun h => absurd h (Nat.lt_irrefl _), fun k hk => absurd hk (Nat.not_lt_zero _)⟩
  · simp at hcs
    obtain ⟨rfl, rfl, rfl⟩ := hcs
    simp only [if_true] at hmm
    subst hmm
    obtain ⟨L, hL, hp⟩ := choose_list (p := fun k ss => ∃ b off a1 len1 cap1, a' = ⟨b, off, none⟩ ∧ b < W.heap.size ∧ W.cell? ⟨b, off + k, none⟩ = some (.slice a1 len1 cap1) ∧ Strs W a1 len1 cap1 ss) len (by
      intro i hi
      obtain ⟨hc, ht'⟩ := hcell i (by omega)
      obtain ⟨b, off, hab, hlt, hcc⟩ := plain_of_cell (hcell 0 (by omega)).1 hc
      obtain ⟨a1, len1, cap1, hv⟩ : ∃ a1 len1 cap1, V i = .slice a1 len1 cap1 := by
        rcases Go.Deep.open_strs he hq cq ht' with ⟨hcs, _⟩ | ⟨a2, l2, c2, _, _, hcs, _⟩
        · exact ⟨none, 0, 0, by simpa using hcs⟩
        · exact ⟨some a2, l2, c2, by simpa using hcs⟩
      rw [hv] at ht' hcc
      obtain ⟨ss, hss⟩ := strs_of_cells he hq cq ht'
      exact ⟨ss, b, off, a1, len1, cap1, hab, hlt, hcc, hss⟩)
    refine ⟨L, hL, hl, hm, ?_, fun k hk => ?_⟩
    · intro hp0
      obtain ⟨b, off, rfl, _⟩ := plain_of_cell (hcell 0 hp0).1 (hcell 0 hp0).1
      exact ⟨b, off, rfl⟩
    · obtain ⟨b, off, a1, len1, cap1, rfl, hlt, hcc, hss⟩ := hp k hk
      exact ⟨b, off, a1, len1, cap1, rfl, hlt, hcc, hss⟩

/-- A slice of numbers that is read. -/
structure Nums (k : IntKind) (w : World) (a : Option Addr) (len cap : Nat) (zs : List Int) : Prop where
  hlen : zs.length = len
  le : len ≤ cap
  max : cap ≤ maxLen
  wf : ∀ n ∈ zs, (Lit.int k n).wf = true
  nil : a = none → cap = 0
  cells : Cells w a (zs.map (Value.int k))

theorem nums_of {k : IntKind} {t e : TypeId} {a : Option Addr} {len cap : Nat} {d : DataW H} {p : List MemPlace} (ht : P.underlying t = some (.slice e)) (he : P.underlying e = some (.int k)) (hc : P.cellsOf e = 1)
    (h : DataW.Trod enc P W 0 (fun _ => true) true t (.slice a len cap) d p) : ∃ zs, Nums k W a len cap zs := by
  obtain ⟨fuel, hf⟩ := h
  rcases open_ints ht he hc hf with ⟨hcs, _⟩ | ⟨x, l, c, zs, hcs, _, hl, hm, hz, _, hcell, hwz⟩
  · simp [Value.cells] at hcs
    obtain ⟨rfl, rfl, rfl⟩ := hcs
    exact ⟨[], rfl, Nat.le_refl _, Nat.zero_le _, fun s hs => by (cases hs), fun _ => rfl, Cells.nil _ _⟩
  · simp [Value.cells] at hcs
    obtain ⟨rfl, rfl, rfl⟩ := hcs
    have hz' : zs.length = cap := by simpa using hz
    refine ⟨zs.take len, by simp; omega, hl, hm, fun n hn => hwz n (List.mem_of_mem_take hn), fun h => by (cases h), fun i hi => ?_⟩
    simp at hi
    obtain ⟨b, off, rfl, hlt, hcc⟩ := plain_of_cell (hcell 0 (by omega)) (hcell i (by omega))
    exact ⟨b, off, rfl, hlt, by simpa [List.getD_eq_getElem?_getD, List.getElem?_eq_getElem (show i < zs.length by omega)] using hcc⟩
end
end Go.Proofs.Ymbrdl
