import Derived.Test.YmbrdjCCopy
set_option linter.unusedSimpArgs false
set_option linter.unusedVariables false
namespace Go.Proofs.Ymbrdj
open Go.RowKit

section
variable {P : Program}
/-- 'v = append(v, x)' where there is room: the array in place, told whole. -/
theorem wpList_append_in {ops : Array Oper} {rest : List Oper} {o : Oper} {a : Act} {Q : Exit → Act → World → Prop} (hgd : o.guard = none) (s x : Operand) (t : TypeId)
    (ho : o.op = .call { callee := .builtin .append, args := #[s, x], argTypes := #[t, t] })
    (e : TypeId) (i : TypeInfo) (ht : P.underlying t = some (.slice e)) (hi : P.info? e = some i) (hsize : i.size = 1)
    (g k n : Nat) (ys : List Value) (hs : a.eval s = .slice (some ⟨g, 0, none⟩) k n) (w0 : World) (c : Value) (hc : c.oneCell' = true) (hg : w0.heap[g]? = some (.cells ys.toArray e (0, 0))) (hyl : ys.length = n) (hk : k + 1 ≤ n)
    (hx : a.eval x = .slice (some ⟨w0.heap.size, 0, none⟩) 1 1)
    (h : ∀ w', w'.heap[g]? = some (.cells (ys.set k c).toArray e (0, 0)) → w0.grownBy w' (some g) → wpList P ops Q rest (a.put o.dst (.slice (some ⟨g, 0, none⟩) (k + 1) n)) w') :
    wpList P ops Q (o :: rest) a (w0.alloc (.cells #[c] e)) := by
  refine wpList_plain hgd fun K hK => ?_
  have hgl : g < w0.heap.size := (Array.getElem?_eq_some_iff.1 hg).1
  have hg1 : (w0.alloc (.cells #[c] e)).heap[g]? = some (.cells ys.toArray e (0, 0)) := by rw [Below.heap_alloc _ _ _ hgl]; exact hg
  have hr := run_append_room (P := P) (w0.alloc (.cells #[c] e)) t o.type e i ht hi g k n ys.toArray hg1 ⟨w0.heap.size, 0, none⟩ 1 1 [c] (by rw [hsize]; rfl) (cell_one_new _ _ _) (by intro u hu; simp at hu; subst hu; exact hc) hk (by rw [hsize]; simp; omega)
  have el : (ys.take (k * i.size) ++ [c] ++ ys.drop (k * i.size + 1)) = ys.set k c := by
    rw [hsize, Nat.mul_one, List.set_eq_take_append_cons_drop, if_pos (by omega)]; simp
  simp only [List.length_singleton] at hr
  rw [el] at hr
  unfold Oper.wp execOp
  simp only [ho, resolve, invoke, builtin, Sem.run_bind, Sem.run_pure, Result.andThen_ok, List.map_toArray, List.map_cons, List.map_nil, hs, hx, hr]
  refine hK _ _ (h _ (setRow_heap _ g _ _ e _ hg1) (grownBy_trans (World.grownBy_alloc w0 _ _) ⟨rfl, rfl, rfl, by simp, fun j _ hj => setRow_other _ g j _ (fun e => hj (by simp [e]))⟩))
end

/-- The array behind j appended spaces. -/
def fillL (l : List UInt8) (k j : Nat) : List UInt8 := l.take k ++ spaces (min j (l.length - k)) ++ l.drop (k + j)
theorem fillL_zero (l : List UInt8) (k : Nat) : fillL l k 0 = l := by simp [fillL, spaces]
theorem fillL_length (l : List UInt8) (k j : Nat) (hk : k ≤ l.length) : (fillL l k j).length = l.length := by
  unfold fillL
  rw [List.length_append, List.length_append, spaces_length, List.length_take, List.length_drop]; omega
theorem fillL_succ (l : List UInt8) (k j : Nat) (hk : k + j < l.length) : (bytesV (fillL l k j)).set (k + j) (.int .u8 32) = bytesV (fillL l k (j + 1)) := by
  have e1 : min j (l.length - k) = j := by omega
  have e2 : min (j + 1) (l.length - k) = j + 1 := by omega
  unfold fillL
  rw [e1, e2, spaces_succ, ← Nat.add_assoc]
  have e3 : l.drop (k + j) = l[k + j] :: l.drop (k + j + 1) := List.drop_eq_getElem_cons hk
  rw [e3]
  have e4 : (l.take k ++ spaces j).length = k + j := by rw [List.length_append, spaces_length, List.length_take]; omega
  unfold bytesV
  simp only [List.map_append, List.map_cons]
  rw [List.set_append_right _ _ (by simp [spaces_length]; omega)]
  simp [spaces_length, Nat.min_eq_left (show k ≤ l.length by omega)]
theorem fillL_full (l : List UInt8) (k j : Nat) (h : l.length ≤ k + j) : fillL l k (j + 1) = fillL l k j := by
  unfold fillL
  rw [show min (j + 1) (l.length - k) = min j (l.length - k) by omega, List.drop_of_length_le (by omega), List.drop_of_length_le (by omega)]
end Go.Proofs.Ymbrdj
