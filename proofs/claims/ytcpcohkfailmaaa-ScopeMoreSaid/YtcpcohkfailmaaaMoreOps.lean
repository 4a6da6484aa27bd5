/- the operations of ScopeMore's drawn statement, one by one -/
import Derived.Test.YtcpcohkfailmaaaMoreInv
namespace Go.Proofs.Ytcpcohkfailmaaa
open Go.RowKit

theorem wp_fn {P : Program} {o : Oper} {a : Act} {w : World} {R : Act → World → Prop} {Q : Exit → Act → World → Prop} {f : FuncId} {args : Array Value} {Post : Ending → World → Prop}
    (hrun : (execOp a.eval o).run P w = .ok (.enter f args) w) (hc : Calls P f args w Post) (h : ∀ e w', Post e w' → ∃ v, e = .returned v ∧ R (a.put o.dst v) w') : o.wp P a w R Q := by
  unfold Oper.wp
  rw [hrun, Oper.upon_enter]
  refine hc.mono fun e w' hp => ?_
  obtain ⟨v, rfl, h⟩ := h e w' hp
  exact h
theorem wp_val {P : Program} {o : Oper} {a : Act} {w w' : World} {R : Act → World → Prop} {Q : Exit → Act → World → Prop} {v : Value}
    (hrun : (execOp a.eval o).run P w = .ok (.value v) w') (h : R (a.put o.dst v) w') : o.wp P a w R Q := by
  unfold Oper.wp
  rw [hrun, Oper.upon_value]
  exact h

theorem run_slice0 (ev : Operand → Value) (w : World) (t : TypeId) (d : Option Tmp) (p : String) (e : Array Edge) (g : Option (Nat × Bool)) : (execOp ev { dst := d, op := Op.buildSlice 22 0 #[], type := t, pos := p, after := e, guard := g }).run Try.prog w =
   .ok (.value (.slice (some ⟨w.heap.size, 0, none⟩) 0 0)) (w.alloc (Obj.cells #[] 33)) := by
  go_simp
theorem run_slice1 (ev : Operand → Value) (w : World) (t x : TypeId) (d : Option Tmp) (p : String) (e : Array Edge) (g : Option (Nat × Bool)) (kind : Int) (s : ByteArray) (h : ev (.tmp x) = .agg #[.int .i64 kind, .string s]) : (execOp ev { dst := d, op := Op.buildSlice 22 1 #[(0, .tmp x)], type := t, pos := p, after := e, guard := g }).run Try.prog w =
   .ok (.value (.slice (some ⟨w.heap.size, 0, none⟩) 1 1)) (w.alloc (Obj.cells #[.int .i64 kind, .string s] 33)) := by
  go_simp
theorem run_load33 (ev : Operand → Value) (w : World) (t x : TypeId) (d : Option Tmp) (p : String) (e : Array Edge) (g : Option (Nat × Bool)) (kind : Int) (s : ByteArray) (q : Nat) (h : ev (.tmp x) = .pointer (some ⟨q, 0, none⟩)) (h0 : w.cell? ⟨q, 0, none⟩ = some (.int .i64 kind)) (h1 : w.cell? ⟨q, 1, none⟩ = some (.string s)) :
   (execOp ev { dst := d, op := Op.load 33 (.tmp x), type := t, pos := p, after := e, guard := g }).run Try.prog w =
   .ok (.value (.agg #[.int .i64 kind, .string s])) w := by
  go_simp
theorem run_of (ev : Operand → Value) (w : World) (t x y z : TypeId) (d : Option Tmp) (p : String) (e : Array Edge) (g : Option (Nat × Bool)) (hf : ev (.func 10) = .func (.func 10) #[] #[]) :
   (execOp ev { dst := d, op := Op.call { callee := Callee.value (Operand.func 10), args := #[Operand.tmp x, Operand.tmp y, Operand.tmp z], argTypes := #[22, 3, 23] }, type := t, pos := p, after := e, guard := g }).run Try.prog w =
   .ok (.enter 10 #[ev (.tmp x), ev (.tmp y), ev (.tmp z)]) w := by
  go_simp
theorem blk_reads {w : World} {q : Nat} {kind : Int} {s : ByteArray} (h : Blk w q 33 #[.int .i64 kind, .string s]) : Reads w (q + 1) 2 (some ⟨q, 0, none⟩) 1 (flat [(kind, s)]) :=
  ⟨rfl, fun _ => ⟨_, rfl, Nat.lt_succ_self _, fun j u hu => by rw [Go.WideShapes.add_plain, Nat.zero_add, h.cell]; simpa [flat] using hu⟩⟩

theorem new_reads (w : World) (key : ByteArray) : Reads (w.alloc (.cells #[.string key] 9)) (w.heap.size + 1) 1 (some ⟨w.heap.size, 0, none⟩) 1 (flatS [key]) :=
  ⟨rfl, fun _ => ⟨_, rfl, Nat.lt_succ_self _, fun j u hu => by rw [Go.WideShapes.add_plain, Nat.zero_add, (Blk.new w 9 #[.string key]).cell]; simpa [flatS] using hu⟩⟩
theorem ownsRow_later {w w' : World} {base size n : Nat} {e : TypeId} {v : Value} {xs : List Value} (h : w.ownsRow base e size v n xs) (hb : Below w.heap.size w w') : w'.ownsRow base e size v n xs :=
  ownsRow_same h (fun q hq => hb.block q (h.lt q hq).2)

/-- Of, called on one scope that the code has just written -/
theorem of_lit (w : World) (kind : Int) (s : ByteArray) (own : Int) (K : Option Addr) (m d : Nat) (keys : List ByteArray) (hk : Strs w w.heap.size K m keys) (hm : m ≤ 140737488351232) :
    Calls Try.prog 10 #[.slice (some ⟨w.heap.size, 0, none⟩) 1 1, .int .i64 own, .slice K m d] (w.alloc (.cells #[.int .i64 kind, .string s] 33)) fun e w' => e = .returned (.int .u32 (stepMask kind s own keys : Nat)) ∧ Below (w.heap.size + 1) (w.alloc (.cells #[.int .i64 kind, .string s] 33)) w' :=
  (of_any _ (some ⟨w.heap.size, 0, none⟩) 1 1 [(kind, s)] own K m d keys ⟨rfl, fun _ => ⟨w.heap.size, 0, rfl, by simp, fun k hk => by
    obtain rfl : k = 0 := by omega
    exact ⟨by simp, by simp⟩⟩⟩ ((hk.below ((Below.refl _ _).alloc (Nat.le_refl _) _)).more (by simp)) (by omega) hm).mono fun _ _ ⟨he, hb⟩ => ⟨by rw [he]; simp [ofMask], hb.mono (by simp)⟩

theorem ready_none {md : Region.Mode} {ops : Array Oper} {L : Array Bool} (h : Region.ready md ops L = []) (i : Nat) (hi : i < ops.size)
    (ha : ∀ o, ops[i]? = some o → o.after.all (fun e => !Region.binds md e || L.getD e.on false) = true) : L.getD i true = true := by
  unfold Region.ready at h
  rw [List.filter_eq_nil_iff] at h
  cases hb : L.getD i true with
  | true => rfl
  | false =>
    have ho := Array.getElem?_eq_getElem hi
    exact absurd (by rw [ho, hb]; simpa using ha _ ho) (h i (List.mem_range.2 hi))
end Go.Proofs.Ytcpcohkfailmaaa
