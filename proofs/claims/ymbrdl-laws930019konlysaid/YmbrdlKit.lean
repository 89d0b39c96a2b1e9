/-
  What the walks share: slices that are read, slices that the call makes.
-/
import Derived.WalkKit
import Derived.Maps.AppendAt
import Derived.Lib.AppendStr
import Derived.Test.YmbrdlPlain
set_option linter.unusedSimpArgs false
set_option linter.unusedVariables false
namespace Go.Proofs.Ymbrdl
open Go.RowKit

/-- The cells behind a slice's address are xs. -/
def Cells (w : World) (a : Option Addr) (xs : List Value) : Prop :=
  ∀ i (h : i < xs.length), ∃ b off, a = some ⟨b, off, none⟩ ∧ b < w.heap.size ∧ w.cell? ⟨b, off + i, none⟩ = some xs[i]

theorem Cells.below {w w' : World} {a : Option Addr} {xs : List Value} (h : Cells w a xs) (hb : Below w.heap.size w w') : Cells w' a xs := by
  intro i hi
  obtain ⟨b, off, ha, hlt, hc⟩ := h i hi
  exact ⟨b, off, ha, Nat.lt_of_lt_of_le hlt hb.size, (hb.cell (p := ⟨b, off + i, none⟩) hlt).trans hc⟩

theorem Cells.nil (w : World) (a : Option Addr) : Cells w a [] := fun i h => absurd h (Nat.not_lt_zero _)

theorem Cells.take {w : World} {a : Option Addr} {xs : List Value} (h : Cells w a xs) (k : Nat) : Cells w a (xs.take k) := by
  intro i hi
  simp only [List.length_take] at hi
  obtain ⟨b, off, ha, hlt, hc⟩ := h i (by omega)
  exact ⟨b, off, ha, hlt, by rw [hc, List.getElem_take]⟩

theorem Cells.drop {w : World} {b off : Nat} {xs : List Value} (h : Cells w (some ⟨b, off, none⟩) xs) (k : Nat) : Cells w (some ⟨b, off + k, none⟩) (xs.drop k) := by
  intro i hi
  simp only [List.length_drop] at hi
  obtain ⟨b', off', ha, hlt, hc⟩ := h (k + i) (by omega)
  simp only [Option.some.injEq, Addr.mk.injEq, and_true] at ha
  obtain ⟨rfl, rfl⟩ := ha
  exact ⟨b, off + k, rfl, hlt, by rw [List.getElem_drop, ← hc]; congr 2; omega⟩

/-- A slice of strings that is read. -/
structure Strs (w : World) (a : Option Addr) (len cap : Nat) (ss : List ByteArray) : Prop where
  hlen : ss.length = len
  le : len ≤ cap
  max : cap ≤ maxLen
  sz : ∀ s ∈ ss, s.size ≤ maxLen
  form : 0 < cap → ∃ b off, a = some ⟨b, off, none⟩
  cells : Cells w a (ss.map Value.string)

theorem Strs.below {w w' : World} {a : Option Addr} {len cap : Nat} {ss : List ByteArray} (h : Strs w a len cap ss) (hb : Below w.heap.size w w') : Strs w' a len cap ss :=
  ⟨h.hlen, h.le, h.max, h.sz, h.form, h.cells.below hb⟩

theorem Strs.nth {w : World} {a : Option Addr} {len cap : Nat} {ss : List ByteArray} (h : Strs w a len cap ss) (k : Nat) (hk : k < len) :
    ∃ b off s, a = some ⟨b, off, none⟩ ∧ ss[k]? = some s ∧ s.size ≤ maxLen ∧ b < w.heap.size ∧ w.cell? ⟨b, off + k, none⟩ = some (.string s) := by
  have hl := h.hlen
  have hk' : k < ss.length := by omega
  obtain ⟨b, off, ha, hlt, hc⟩ := h.cells k (by simpa using hk')
  exact ⟨b, off, ss[k], ha, List.getElem?_eq_getElem hk', h.sz _ (List.getElem_mem hk'), hlt, by simpa using hc⟩

/-- What the call owns, from block B on: v holds xs. -/
def Own (w : World) (B : Nat) (e : TypeId) (v : Value) (xs : List Value) : Prop := w.ownsRow B e 1 v xs.length xs

theorem Own.nil (w : World) (B : Nat) (e : TypeId) : Own w B e (.slice none 0 0) [] := World.ownsRow_nil w B e 1

theorem ownsRow_below {w w' : World} {B : Nat} {e : TypeId} {v : Value} {n : Nat} {xs : List Value} (h : w.ownsRow B e 1 v n xs) (hb : Below w.heap.size w w') : w'.ownsRow B e 1 v n xs := by
  refine ⟨h.1, ?_⟩
  rcases h.2 with hn | ⟨g, cap, cur, rfl, hbg, hg, rest⟩
  · exact .inl hn
  · exact .inr ⟨g, cap, cur, rfl, hbg, by rw [hb.block g (Array.getElem?_eq_some_iff.1 hg).1]; exact hg, rest⟩

theorem Own.below {w w' : World} {B : Nat} {e : TypeId} {v : Value} {xs : List Value} (h : Own w B e v xs) (hb : Below w.heap.size w w') : Own w' B e v xs := ownsRow_below h hb

theorem Own.mono {w : World} {B B' : Nat} {e : TypeId} {v : Value} {xs : List Value} (h : Own w B e v xs) (hb : B' ≤ B) : Own w B' e v xs := by
  refine ⟨h.1, ?_⟩
  rcases h.2 with hn | ⟨g, cap, cur, rfl, hbg, hg, rest⟩
  · exact .inl hn
  · exact .inr ⟨g, cap, cur, rfl, Nat.le_trans hb hbg, hg, rest⟩

/-- The shape of what is owned, and its cells. -/
theorem Own.read {w : World} {B : Nat} {e : TypeId} {v : Value} {xs : List Value} (h : Own w B e v xs) :
    ∃ a cap, v = .slice a xs.length cap ∧ xs.length ≤ cap ∧ cap ≤ maxLen ∧ (0 < cap → ∃ b, a = some ⟨b, 0, none⟩) ∧ (a = none → cap = 0) ∧ Cells w a xs := by
  have hc := fun g => World.ownsRow.cells (g := g) h
  rcases h.2 with ⟨rfl, hn⟩ | ⟨g, cap, cur, rfl, hbg, hg, h1, h2, h3, h4⟩
  · have hx : xs = [] := List.eq_nil_of_length_eq_zero hn
    subst hx
    exact ⟨none, 0, rfl, Nat.le_refl _, Nat.zero_le _, fun h => absurd h (Nat.lt_irrefl _), fun _ => rfl, Cells.nil _ _⟩
  · refine ⟨_, cap, rfl, h1, h2, fun _ => ⟨g, rfl⟩, fun h => (by cases h), fun i hi => ⟨g, 0, rfl, (Array.getElem?_eq_some_iff.1 hg).1, ?_⟩⟩
    have := hc g rfl i xs[i] (by simp)
    have e : (⟨g, 0, none⟩ : Addr).add i = ⟨g, 0 + i, none⟩ := by unfold Addr.add; split <;> simp_all
    rwa [e] at this

theorem Own.grown {w w' : World} {B : Nat} {e : TypeId} {v : Value} {xs : List Value} {row : Option Nat} (h : Own w B e v xs) (hg : w.grownBy w' row) (hne : v.ownBlock = none ∨ v.ownBlock ≠ row) : Own w' B e v xs := World.ownsRow.kept h hg hne

/-- Two owned rows of different element types do not lie in one block. -/
theorem Own.apart {w : World} {B B' : Nat} {e e' : TypeId} {v v' : Value} {xs xs' : List Value} (h : Own w B e v xs) (h' : Own w B' e' v' xs') (he : e ≠ e') : v.ownBlock = none ∨ v.ownBlock ≠ v'.ownBlock := by
  rcases h.2 with ⟨rfl, _⟩ | ⟨g, cap, cur, rfl, hbg, hg, _⟩
  · exact .inl rfl
  · rcases h'.2 with ⟨rfl, _⟩ | ⟨g', cap', cur', rfl, hbg', hg', _⟩
    · exact .inr (by simp [Value.ownBlock])
    · refine .inr ?_
      simp only [Value.ownBlock, ne_eq, Option.some.injEq]
      rintro rfl
      rw [hg] at hg'
      simp at hg'
      exact he hg'.2

theorem grownBy_trans {a b c : World} {r : Option Nat} (h : a.grownBy b r) (k : b.grownBy c r) : a.grownBy c r :=
  ⟨k.os.trans h.os, k.tape.trans h.tape, k.output.trans h.output, Nat.le_trans h.size k.size, fun i hi hr => (k.block i (Nat.lt_of_lt_of_le hi h.size) hr).trans (h.block i hi hr)⟩

theorem Below.of_grown {B : Nat} {a w w' : World} {e : TypeId} {v : Value} {xs : List Value} (h : Below B a w) (hown : Own w B e v xs) (hB : B ≤ w.heap.size) (hg : w.grownBy w' v.ownBlock) : Below B a w' :=
  h.grown hg hB (fun k hk => (World.ownsRow.lt hown k hk).1)

section
variable {P : Program}

/-- 'v = append(v, x)': one element, which the statement has laid in a block of its own. -/
theorem wpList_append1 {ops : Array Oper} {rest : List Oper} {o : Oper} {a : Act} {Q : Exit → Act → World → Prop} (hgd : o.guard = none) (s x : Operand) (t : TypeId)
    (ho : o.op = .call { callee := .builtin .append, args := #[s, x], argTypes := #[t, t] })
    (B : Nat) (e : TypeId) (i : TypeInfo) (z : Value) (bytes : Nat) (ht : P.underlying t = some (.slice e)) (hi : P.info? e = some i) (hz : i.zero = some z) (hsize : i.size = 1) (hby : i.bytes = bytes) (hzs : z.cells.size = 1)
    (v : Value) (xs : List Value) (hs : a.eval s = v) (w0 : World) (c : Value) (hc : c.oneCell' = true) (hb : Own w0 B e v xs) (hB : B ≤ w0.heap.size)
    (hx : a.eval x = .slice (some ⟨w0.heap.size, 0, none⟩) 1 1) (hlen : (xs.length + 1) * bytes ≤ 140737488355328) (hmax : xs.length + 1 ≤ maxLen)
    (h : ∀ v' w', Own w' B e v' (xs ++ [c]) → w0.grownBy w' v.ownBlock → (v'.ownBlock = v.ownBlock ∨ v'.ownBlock = some (w0.heap.size + 1)) → v' ≠ .slice none 0 0 → wpList P ops Q rest (a.put o.dst v') w') :
    wpList P ops Q (o :: rest) a (w0.alloc (.cells #[c] e)) := by
  refine wpList_append_own_at _ hgd s x t ho B e i z 1 bytes ht hi hz hsize hby hzs (by decide) v xs.length xs hs (World.ownsRow.alloc hb _) ⟨w0.heap.size, 0, none⟩ 1 1 [c] hx rfl (cell_one_new _ _ _) ?_ hmax hlen (by simp; omega) ?_
  · intro u hu; simp at hu; subst hu; exact hc
  · intro v' w' ho' hg hn hat
    refine h v' w' ?_ (grownBy_trans (World.grownBy_alloc w0 _ _) hg) (by simpa using hat) (by rw [ne_eq, hn]; simp)
    unfold Own; simpa using ho'

/-- 'v = append(v, s...)', s a string. -/
theorem wpList_append_str {ops : Array Oper} {rest : List Oper} {o : Oper} {a : Act} {Q : Exit → Act → World → Prop} (hgd : o.guard = none) (sl x : Operand) (t u : TypeId)
    (ho : o.op = .call { callee := .builtin .append, args := #[sl, x], argTypes := #[t, u] })
    (B : Nat) (e : TypeId) (i : TypeInfo) (ht : P.underlying t = some (.slice e)) (hu : P.underlying u = some .string) (hi : P.info? e = some i) (hz : i.zero = some (.int .u8 0)) (hsize : i.size = 1) (hby : i.bytes = 1)
    (v : Value) (xs : List Value) (hs : a.eval sl = v) (w0 : World) (hb : Own w0 B e v xs) (hB : B ≤ w0.heap.size) (s : ByteArray) (hx : a.eval x = .string s) (hlen : xs.length + s.size ≤ 140737488355328)
    (h : ∀ v' w', Own w' B e v' (xs ++ Lib.strCells s) → w0.grownBy w' v.ownBlock → (v' = .slice none 0 0 ↔ v = .slice none 0 0 ∧ s.size = 0) → wpList P ops Q rest (a.put o.dst v') w') :
    wpList P ops Q (o :: rest) a w0 := by
  refine Lib.wpList_append_own_string w0 hgd sl x t u ho B e i ht hu hi hz hsize hby v xs.length xs hs hb s hx (by unfold maxLen; omega) hlen hB ?_
  intro v' w' ho' hg hn
  refine h v' w' ?_ hg hn
  unfold Own; simpa [Lib.strCells_length] using ho'
end
end Go.Proofs.Ymbrdl
