/-
  More that the walks share: 'append(v, xs...)'; slices of strings that the call owns; sub-slices.
-/
import Derived.Test.YmbrdlBytes
import Derived.Test.YmbrdlOpen
import Derived.Laws.AppendOwnNone
import Derived.Lib.LazyBuf
set_option linter.unusedSimpArgs false
set_option linter.unusedVariables false
namespace Go.Proofs.Ymbrdl
open Go.RowKit

theorem addr_add (b off j : Nat) : (⟨b, off, none⟩ : Addr).add j = ⟨b, off + j, none⟩ := by unfold Addr.add; split <;> simp_all

section
variable {P : Program}
/-- 'v = append(v, xs...)', xs a slice that is read. -/
theorem wpList_append_sl {ops : Array Oper} {rest : List Oper} {o : Oper} {a : Act} {Q : Exit → Act → World → Prop} (hgd : o.guard = none) (s x : Operand) (t : TypeId)
    (ho : o.op = .call { callee := .builtin .append, args := #[s, x], argTypes := #[t, t] })
    (B : Nat) (e : TypeId) (i : TypeInfo) (z : Value) (bytes : Nat) (ht : P.underlying t = some (.slice e)) (hi : P.info? e = some i) (hz : i.zero = some z) (hsize : i.size = 1) (hby : i.bytes = bytes) (hzs : z.cells.size = 1)
    (v : Value) (xs : List Value) (hs : a.eval s = v) (w : World) (hb : Own w B e v xs) (hB : B ≤ w.heap.size)
    (ao : Option Addr) (m c : Nat) (news : List Value) (hx : a.eval x = .slice ao m c) (hm : news.length = m) (hmc : m ≤ c) (hno : ao = none → c = 0) (hc : Cells w ao news) (h1 : ∀ u ∈ news, u.oneCell' = true)
    (hlen : (xs.length + m) * bytes ≤ 140737488355328) (hmax : xs.length + m ≤ maxLen)
    (h : ∀ v' w', Own w' B e v' (xs ++ news) → w.grownBy w' v.ownBlock → (v' = .slice none 0 0 ↔ v = .slice none 0 0 ∧ m = 0) → Moved w v v' → wpList P ops Q rest (a.put o.dst v') w') :
    wpList P ops Q (o :: rest) a w := by
  subst hm
  cases ao with
  | none =>
    obtain rfl := hno rfl
    have hn : news = [] := List.eq_nil_of_length_eq_zero (by omega)
    subst hn
    exact wpList_append_own_none hgd s x t ho B e i 1 ht hi v xs.length xs hs hb hx (h v w (by simpa using hb) (grownBy_refl _ _) (by simp) (Moved.refl _ _))
  | some ad =>
    refine wpList_append_own_at w hgd s x t ho B e i z 1 bytes ht hi hz hsize hby hzs (by decide) v xs.length xs hs hb ad news.length c news hx (by simp) ?_ h1 hmax hlen hB ?_
    · intro j u hj
      obtain ⟨hjl, rfl⟩ := List.getElem?_eq_some_iff.1 hj
      obtain ⟨b, off, ha, _, hcc⟩ := hc j hjl
      simp at ha
      subst ha
      rw [addr_add]; exact hcc
    · intro v' w' ho' hg hn hat
      refine h v' w' ?_ hg hn ?_
      · unfold Own; simpa using ho'
      · rcases hat with hat | hat
        · exact .inl hat
        · exact .inr ⟨_, hat, Nat.le_refl _⟩
end

theorem strs_one (ss : List ByteArray) : ∀ u ∈ ss.map Value.string, u.oneCell' = true := by
  intro u hu
  obtain ⟨s, _, rfl⟩ := List.mem_map.1 hu
  rfl

theorem Strs.none_cap {w : World} {a : Option Addr} {len cap : Nat} {ss : List ByteArray} (h : Strs w a len cap ss) : a = none → cap = 0 := by
  intro ha
  rcases Nat.eq_zero_or_pos cap with h0 | h0
  · exact h0
  · obtain ⟨b, off, hb⟩ := h.form h0
    rw [ha] at hb; cases hb

/-- A row of strings that the call owns, read as a slice of strings. -/
theorem Own.strs {w : World} {B : Nat} {v : Value} {ss : List ByteArray} (h : Own w B 9 v (ss.map Value.string)) (hz : ∀ s ∈ ss, s.size ≤ maxLen) :
    ∃ a cap, v = .slice a ss.length cap ∧ Strs w a ss.length cap ss ∧ (a = none ↔ v = .slice none 0 0) := by
  obtain ⟨a, cap, hv, hle, hmx, hf, hn, hc⟩ := Own.read h
  rw [List.length_map] at hv hle
  refine ⟨a, cap, hv, ⟨rfl, hle, hmx, hz, fun hp => ?_, hc⟩, ?_⟩
  · obtain ⟨b, hb⟩ := hf hp
    exact ⟨b, 0, hb⟩
  · rw [hv]
    constructor
    · intro ha
      subst ha
      have h0 := hn rfl
      have h1 : ss.length = 0 := by omega
      rw [h0, h1]
    · intro he
      simp at he
      exact he.1

theorem Strs.takeTo {w : World} {a : Option Addr} {len cap : Nat} {ss : List ByteArray} (h : Strs w a len cap ss) (k : Nat) (hk : k ≤ len) : Strs w a k cap (ss.take k) := by
  have hl := h.hlen
  have hle := h.le
  exact ⟨by rw [List.length_take]; omega, by omega, h.max, fun s hs => h.sz s (List.mem_of_mem_take hs), h.form, by rw [List.map_take]; exact h.cells.take k⟩
theorem Strs.dropTo {w : World} {b off : Nat} {len cap : Nat} {ss : List ByteArray} (h : Strs w (some ⟨b, off, none⟩) len cap ss) (k : Nat) (hk : k ≤ len) : Strs w (some ⟨b, off + k, none⟩) (len - k) (cap - k) (ss.drop k) := by
  have hl := h.hlen
  have hle := h.le
  have hm := h.max
  exact ⟨by rw [List.length_drop]; omega, by omega, by omega, fun s hs => h.sz s (List.mem_of_mem_drop hs), fun _ => ⟨b, off + k, rfl⟩, by rw [List.map_drop]; exact h.cells.drop k⟩
end Go.Proofs.Ymbrdl
