/- add: the closure of enter notes a step -/
import Derived.Test.YthhgfahlamdgfaaAwake
namespace Go.Proofs.Ythhgfahlamdgfaa
open Go.RowKit

theorem int_info : (Try.prog.info? 3).map (fun i => (i.zero, i.size, i.bytes)) = some (some (.int .i64 0), 1, 8) := by kernel_rfl

theorem int_reads (w : World) (k : Int) : Reads (w.alloc (Obj.cells #[.int .i64 k] 3)) (w.heap.size + 1) 1 (some ⟨w.heap.size, 0, none⟩) 1 [.int .i64 k] := by
  refine ⟨rfl, fun _ => ⟨_, rfl, Nat.lt_succ_self _, fun j u hj => ?_⟩⟩
  cases j with
  | zero =>
    have := (Blk.new w 3 #[.int .i64 k]).cell 0
    simpa [Addr.add] using this.trans hj
  | succ j => simp at hj

set_option maxHeartbeats 1000000 in
theorem add_any (w : World) (g n0 n : Nat) (v : Value) (xs : List Value) (k : Int) (hb : Blk w g 56 #[v]) (hown : w.ownsRow n0 3 1 v n xs) (hn : n ≤ 100000) (hB : n0 ≤ w.heap.size) (hg : n0 ≤ g) :
    Calls Try.prog 27 #[.int .i64 k, .pointer (some ⟨g, 0, none⟩)] w fun e w' => e = .returned (.tuple #[]) ∧ (∃ v', Blk w' g 56 #[v'] ∧ w'.ownsRow n0 3 1 v' (n + 1) (xs ++ [.int .i64 k])) ∧ Below n0 w w' ∧ ∀ b t cs, Blk w b t cs → t ≠ 56 → t ≠ 3 → Blk w' b t cs := by
  obtain ⟨i0, hi, hz0, hz1, hz2⟩ := info_parts int_info
  obtain ⟨A, c, rfl, _⟩ := own_reads hown
  have c0 : w.cell? ⟨g, 0, none⟩ = some (.slice A n c) := by simpa using hb.cell 0
  have hlt := hb.lt
  have HB := Lib.hid (hb.alloc (Obj.cells #[.int .i64 k] 3))
  have HO := Lib.hid (hown.alloc (Obj.cells #[.int .i64 k] 3))
  have HR := Lib.hid (int_reads w k)
  have HL := Lib.hid ((Below.refl n0 w).alloc hB (Obj.cells #[.int .i64 k] 3))
  have HK := Lib.hid (fun b t cs (h : Blk w b t cs) => h.alloc (Obj.cells #[.int .i64 k] 3))
  clear hb hown
  go_enter Try.func27, Try.ntmps27
  go_wp2_with
    (at_builtin
     refine wpList_append_any _ rfl (.tmp 3) (.tmp 5) _ rfl n0 3 i0 _ 1 8 Try.underlying56 hi hz0 hz1 hz2 rfl (by omega) (.slice A n c) n xs rfl HO.out (w.heap.size + 1) (some ⟨w.heap.size, 0, none⟩) 1 1 [.int .i64 k] rfl HR.out (by intro u hu; rw [List.mem_singleton] at hu; subst hu; rfl) (by simp only [maxLen]; omega) (by omega) (by simp; omega) ?_
     intro v3 w12 hown3 hg3 hat3
     have hne := own_blk_ne HO.out HB.out (by decide)
     have hb3 := HB.out.grown hg3 (fun e => hne e.symm)
     have hbl : Below n0 w w12 := HL.out.grown hg3 (by simp; omega) (fun q hq => (HO.out.lt q hq).1)
     obtain ⟨A3, c3, rfl, _⟩ := own_reads hown3
     have f3 := hb3.frozen 0
     have d3 : w12.cell? ⟨g, 0, none⟩ = some (.slice A n c) := by simpa using hb3.cell 0
     have hne3 := own_blk_ne hown3 hb3 (by decide)
     have H1 := Lib.hid (hb3.set_ 0 (.slice A3 (n + 1) c3))
     have hgs := only_setCell (World.grownBy.refl w12 (some g)) (p := ⟨g, 0, none⟩) (.inl rfl) (.slice A3 (n + 1) c3)
     have H2 := Lib.hid (hown3.kept hgs (.inr hne3))
     have H3 := Lib.hid (hbl.grown hgs (Nat.le_trans hB hbl.size) (fun q hq => by injection hq with hq; omega))
     have H4 := Lib.hid (show ∀ b t cs, Blk w b t cs → t ≠ 56 → t ≠ 3 → Blk (w12.setCell ⟨g, 0, none⟩ (.slice A3 (n + 1) c3)) b t cs from fun b t cs h h1 h2 => by
       have k1 := HK.out b t cs h
       have k2 := k1.grown hg3 (fun e => own_blk_ne HO.out k1 (Ne.symm h2) e.symm)
       exact k2.far (k2.ne_ hb3 h1) _)
     clear hb3 hown3 hbl hgs hg3 hat3 hne hne3)
  go_end0
  exact ⟨rfl, ⟨_, by simpa using H1.out, H2.out⟩, H3.out, H4.out⟩
end Go.Proofs.Ythhgfahlamdgfaa
