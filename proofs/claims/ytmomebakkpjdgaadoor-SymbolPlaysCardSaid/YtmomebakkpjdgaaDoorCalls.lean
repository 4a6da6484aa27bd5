/- slices of calls; few -/
import Derived.Test.YtmomebakkpjdgaaDoorAdd
import Derived.Deep.Slices
import Derived.Deep.Fields
import Derived.ChangeSame
import Derived.SizedLaws
namespace Go.Proofs.YtmomebakkpjdgaaDoor
open Go.RowKit Go.Maps Go.ChangeShapes Go.WideShapes Go.Deep

/-- a call, as it lies -/
structure CallD where
  d : Int
  n : Int
  s : ByteArray
  A : Option Addr
  m : Nat
  c : Nat
  ss : List ByteArray

instance : Inhabited CallD := ⟨⟨0, 0, ByteArray.empty, none, 0, 0, []⟩⟩

structure CallFine (w : World) (B : Nat) (x : CallD) : Prop where
  size : x.s.size ≤ maxLen
  strs : Strs w B x.A x.m x.ss
  le : x.m ≤ x.c
  reach : x.m ≤ 4611686018427387904
  low : -9223372036854775808 ≤ x.n
  high : x.n ≤ 9223372036854775807

theorem CallFine.below {w w' : World} {B : Nat} {x : CallD} (h : CallFine w B x) (hb : Below B w w') : CallFine w' B x := ⟨h.size, h.strs.below hb, h.le, h.reach, h.low, h.high⟩

def CallsIn (w : World) (B : Nat) (A : Option Addr) (n : Nat) (cs : Nat → CallD) : Prop :=
  0 < n → ∃ b off, A = some ⟨b, off, none⟩ ∧ b < B ∧ ∀ k, k < n → CallFine w B (cs k) ∧ w.cell? ⟨b, off + k * 4, none⟩ = some (.int .i64 (cs k).d) ∧ w.cell? ⟨b, off + k * 4 + 1, none⟩ = some (.int .i64 (cs k).n) ∧
    w.cell? ⟨b, off + k * 4 + 2, none⟩ = some (.string (cs k).s) ∧ w.cell? ⟨b, off + k * 4 + 3, none⟩ = some (.slice (cs k).A (cs k).m (cs k).c)
theorem CallsIn.below {w w' : World} {B n : Nat} {A : Option Addr} {cs : Nat → CallD} (h : CallsIn w B A n cs) (hb : Below B w w') : CallsIn w' B A n cs := fun hn => by
  obtain ⟨b, off, hA, hlt, hc⟩ := h hn
  exact ⟨b, off, hA, hlt, fun k hk => let ⟨h0, h1, h2, h3, h4⟩ := hc k hk; ⟨h0.below hb, (hb.cell hlt).trans h1, (hb.cell hlt).trans h2, (hb.cell hlt).trans h3, (hb.cell hlt).trans h4⟩⟩

section
variable {H : Type} {enc : TypeId × Value → H} {P : Program} {w : World} {base : Nat} {spare : Nat → Bool} {held : Bool}
theorem open_slice_fields {t e : TypeId} {fs : Array Field} {fuel : Nat} {cs : List Value} {x : DataW H × List MemPlace} (ht : P.underlying t = some (.slice e)) (he : P.underlying e = some (.struct fs))
    (hone : oneCellFields P fs = true) (hC : P.cellsOf e = fs.size) (h : DataW.trod enc P w base spare held fuel t cs = some x) :
    (cs = [.slice none 0 0] ∧ x = (.nil, [])) ∨
    ∃ (a : Addr) (len cap m : Nat) (D : Nat → DataW H) (Pl : Nat → List MemPlace), cs = [.slice (some a) len cap] ∧ base ≤ a.block ∧ len ≤ cap ∧ cap ≤ maxLen ∧ m = (if spare a.block then cap else len) ∧
      x = (.slice ((List.range len).map D) ((List.range (m - len)).map fun j => D (len + j)), MemPlace.row a (m * fs.size) ++ (List.range m).flatMap Pl) ∧
      ∀ i, i < m → ∃ (ys : List (DataW H × List MemPlace)) (n : Nat), D i = .agg (ys.map (·.1)) ∧ Pl i = ys.flatMap (·.2) ∧ ys.length = fs.size ∧
        ∀ (j : Nat) (f : Field), fs[j]? = some f → ∃ (v : Value) (y : DataW H × List MemPlace), w.cell? (a.add (i * fs.size + j)) = some v ∧ ys[j]? = some y ∧ DataW.trod enc P w base spare held n f.type [v] = some y := by
  rcases open_slice ht h with h0 | ⟨a, len, cap, m, n, D, Pl, hcs, hb, hl, hm, hmm, hx, hi⟩
  · exact .inl h0
  · refine .inr ⟨a, len, cap, m, D, Pl, hcs, hb, hl, hm, hmm, by rw [hC] at hx; exact hx, fun i him => ?_⟩
    obtain ⟨cs', hc, ht'⟩ := hi i him
    rw [hC] at hc
    obtain ⟨ys, n', hn', hy, hlen, hyl, hf⟩ := DataW.trod_struct he ht'
    obtain ⟨_, hcl, hat⟩ := World.cells?_some hc
    simp only [Prod.mk.injEq] at hy
    refine ⟨ys, n', hy.1, hy.2, hyl, fun j f hj => ?_⟩
    obtain ⟨ho, hk⟩ := hone_of hone j f hj
    have hjl : j < fs.size := (Array.getElem?_eq_some_iff.1 hj).1
    have hcell := hat j hjl
    have hv : cs'[j]? = some (cs'[j]'(by omega)) := List.getElem?_eq_getElem (by omega)
    have h1 := hf j f hj
    rw [ho, hk] at h1
    have hone' : (cs'.drop j).take 1 = [cs'[j]'(by omega)] := by
      rw [List.drop_eq_getElem_cons (by omega)]
      rfl
    rw [hone'] at h1
    have hys : ys[j]? = some (ys[j]'(by omega)) := List.getElem?_eq_getElem (by omega)
    refine ⟨_, _, ?_, hys, h1.trans hys⟩
    rw [← Go.Deep.add_add, hcell, hv]
end

theorem weights_all {H : Type} {P : Program} {e : TypeId} : ∀ {l : List (DataW H)} {d : DataW H}, d ∈ l → ∀ n ∈ d.weights P e, n ∈ DataW.weightsAll P e l
  | x :: l, d, h, n, hn => by
    simp only [DataW.weightsAll, List.mem_append]
    rcases List.mem_cons.1 h with rfl | h
    · exact .inl hn
    · exact .inr (weights_all h n hn)

theorem open_calls {H : Type} {enc : TypeId × Value → H} {w : World} {base : Nat} {spare : Nat → Bool} {held : Bool} {fuel : Nat} {A : Option Addr} {n c : Nat} {x : DataW H × List MemPlace}
    (h : DataW.trod enc Tryd.prog w base spare held fuel 31 [.slice A n c] = some x) (hsz : ∀ k ∈ x.1.weights Tryd.prog 31, k ≤ reachBytes) : ∃ cs, CallsIn w w.heap.size A n cs ∧ n ≤ 4611686018427387904 := by
  rcases open_slice_fields Tryd.underlying31 Tryd.underlying37 (by kernel_rfl) (by kernel_rfl) h with ⟨hcs, _⟩ | ⟨a, len', cap', m, D, Pl, hcs, _, hl, hm, hmm, hx, hf⟩
  · simp at hcs
    obtain ⟨rfl, rfl, rfl⟩ := hcs
    exact ⟨fun _ => default, fun h => by omega, by omega⟩
  · simp at hcs
    obtain ⟨rfl, rfl, rfl⟩ := hcs
    have hlen : n ≤ m := by rw [hmm]; split <;> omega
    have each : ∀ i, i < n → ∃ y : CallD, CallFine w w.heap.size y ∧ w.cell? (a.add (i * 4)) = some (.int .i64 y.d) ∧ w.cell? (a.add (i * 4 + 1)) = some (.int .i64 y.n) ∧ w.cell? (a.add (i * 4 + 2)) = some (.string y.s) ∧ w.cell? (a.add (i * 4 + 3)) = some (.slice y.A y.m y.c) := by
      intro i hi
      obtain ⟨ys, nf, hD, _, hysl, hfield⟩ := hf i (by omega)
      obtain ⟨v0, y0, c0, g0, t0⟩ := hfield 0 _ rfl
      obtain ⟨v1, y1, c1, g1, t1⟩ := hfield 1 _ rfl
      obtain ⟨v2, y2, c2, g2, t2⟩ := hfield 2 _ rfl
      obtain ⟨v3, y3, c3, g3, t3⟩ := hfield 3 _ rfl
      obtain ⟨i0, e0, _, _⟩ := DataW.trod_int Tryd.underlying3 t0
      obtain ⟨i1, e1, _, hw1⟩ := DataW.trod_int Tryd.underlying3 t1
      obtain ⟨s2, e2, _, hs2⟩ := DataW.trod_string Tryd.underlying9 t2
      simp at e0 e1 e2
      subst e0 e1 e2
      have hwt : ∀ k ∈ y3.1.weights Tryd.prog 22, k ≤ reachBytes := by
        intro k hk
        refine hsz k ?_
        rw [hx]
        have h2 : k ∈ (D i).weights Tryd.prog 37 := by
          rw [hD]
          unfold DataW.weights
          rw [Tryd.underlying37]
          exact DataW.weights_mem_each (j := 3) (t := 22) rfl (by rw [List.getElem?_map, g3]; rfl) k hk
        unfold DataW.weights
        rw [Tryd.underlying31]
        refine List.mem_cons_of_mem _ (List.mem_append_left _ ?_)
        exact weights_all (List.mem_map.2 ⟨i, List.mem_range.2 hi, rfl⟩) k h2
      obtain ⟨A3, m3, k3, rfl, hle, hre⟩ : ∃ A3 m3 k3, v3 = .slice A3 m3 k3 ∧ m3 ≤ k3 ∧ m3 ≤ 4611686018427387904 := by
        rcases Go.Deep.open_slice Tryd.underlying22 t3 with ⟨h, _⟩ | ⟨a3, len3, cap3, m3, n3, D3, _, h, _, hl3, hm3, hmm3, hx3, _⟩
        · exact ⟨none, 0, 0, by simpa using h, Nat.le_refl _, by omega⟩
        · refine ⟨some a3, len3, cap3, by simpa using h, hl3, ?_⟩
          have hb : Tryd.prog.bytesOf 9 = 16 := by kernel_rfl
          have := hwt ((len3 + (m3 - len3)) * 16) (by
            rw [hx3]
            unfold DataW.weights
            rw [Tryd.underlying22]
            refine List.mem_cons.2 (.inl ?_)
            rw [hb]
            simp)
          have h2 := reachBytes_lt
          omega
      obtain ⟨ss, hS⟩ := open_strs Tryd.underlying22 Tryd.underlying9 (by kernel_rfl) t3
      refine ⟨⟨i0, i1, s2, A3, m3, k3, ss⟩, ⟨hs2, hS, hle, hre, ?_, ?_⟩, c0, c1, c2, c3⟩
      · have := hw1; simp [Lit.wf] at this; have hm : IntKind.i64.min = -9223372036854775808 := by decide
        show -9223372036854775808 ≤ i1; omega
      · have := hw1; simp [Lit.wf] at this; show i1 ≤ 9223372036854775807; omega
    obtain ⟨g, hg⟩ := choose_lt each
    refine ⟨g, fun hn => ?_, ?_⟩
    rotate_left
    · have hb : Tryd.prog.bytesOf 37 = 56 := by kernel_rfl
      have := hsz ((n + (m - n)) * 56) (by
        rw [hx]
        unfold DataW.weights
        rw [Tryd.underlying31]
        refine List.mem_cons.2 (.inl ?_)
        rw [hb]
        simp)
      have h2 := reachBytes_lt
      omega
    obtain ⟨b, off, spot⟩ := a
    have hc0 := (hg 0 hn).2.1
    have hspot : spot = none := by simpa [Addr.add] using World.cell?_spot hc0
    subst hspot
    refine ⟨b, off, rfl, by simpa [Addr.add] using lt_of_cell hc0, fun k hk => ?_⟩
    have hk' := hg k hk
    simp only [Go.WideShapes.add_plain, ← Nat.add_assoc] at hk'
    exact hk'

theorem wrap_in (z : Int) : -9223372036854775808 ≤ wrap64 z ∧ wrap64 z ≤ 9223372036854775807 := by unfold wrap64; omega

set_option maxHeartbeats 2000000 in
theorem few_any (w : World) (A : Option Addr) (n c : Nat) (cs : Nat → CallD) (hC : CallsIn w w.heap.size A n cs) :
    Calls Tryd.prog 11 #[.slice A n c] w fun e w' => ∃ r : Bool, e = .returned (.bool r) ∧ Below w.heap.size w w' := by
  go_enter Tryd.func11, Tryd.ntmps11
  go_wp2_with fail
  go_loopg [3, 10] n (fun q u i wx => ∃ (j : Nat) (z : Int), u = .int .i64 z ∧ -9223372036854775808 ≤ z ∧ z ≤ 9223372036854775807 ∧ i = .int .i64 (j : Int) ∧ q + j = n ∧ Below w.heap.size w wx)
  case atStart => exact ⟨0, 0, rfl, by omega, by omega, rfl, rfl, Below.refl _ _⟩
  case round =>
    obtain ⟨j, z, rfl, hz0, hz1, rfl, hqj, hb⟩ := hrel
    by_cases hj : j < n
    · have hj' : (j : Int) < (n : Int) := by omega
      obtain ⟨bl, off, rfl, hbl, hcell⟩ := (hC.below hb) (by omega)
      obtain ⟨hfine, c0, c1, c2, c3⟩ := hcell j hj
      generalize cs j = x at hfine c0 c1 c2 c3
      obtain ⟨xd, xn, xs, xA, xm, xc, xss⟩ := x
      dsimp only at c0 c1 c2 c3
      have hstr := hfine.strs
      have hsz := hfine.size
      have hreach : xm ≤ 4611686018427387904 := hfine.reach
      have hbw := hb.size
      obtain ⟨wo, hwo⟩ : ∃ wo : World, wo = wr := ⟨_, rfl⟩
      subst hwo
      have hb1 := hb.alloc hb.size (Obj.cells #[.int .i64 xd, .int .i64 xn, .string xs, .slice xA xm xc] 37)
      have HB := Lib.hid hb1
      have HS := Lib.hid (hstr.below ((Below.refl _ _).alloc hb.size (Obj.cells #[.int .i64 xd, .int .i64 xn, .string xs, .slice xA xm xc] 37)))
      clear hcell hfine hb hb1 hstr
      go_wp2_with fail
      generalize wo.alloc (Obj.cells #[.int .i64 xd, .int .i64 xn, .string xs, .slice xA xm xc] 37) = w1 at HB HS ⊢
      have hz2 : -9223372036854775808 ≤ wrap64 (z + (xs.size : Int)) ∧ wrap64 (z + (xs.size : Int)) ≤ 9223372036854775807 := by unfold wrap64; omega
      generalize wrap64 (z + (xs.size : Int)) = z1 at hz2 ⊢
      clear hz0 hz1
      go_loopg [3, 23] xm (fun q2 u2 i2 wx => ∃ (k : Nat) (z2 : Int), u2 = .int .i64 z2 ∧ -9223372036854775808 ≤ z2 ∧ z2 ≤ 9223372036854775807 ∧ i2 = .int .i64 (k : Int) ∧ q2 + k = xm ∧ wx = w1)
      case atStart => exact ⟨0, z1, rfl, hz2.1, hz2.2, rfl, rfl, rfl⟩
      case round =>
        obtain ⟨k, z2, rfl, hz0, hz1, rfl, hqk, rfl⟩ := hrel
        by_cases hk : k < xm
        · have hk' : (k : Int) < (xm : Int) := by omega
          obtain ⟨bs, offs, rfl, hbs, hcells⟩ := HS.out.2.2 (by omega)
          have cs := hcells k hk
          have hssz := HS.out.size hk
          generalize xss.getD k ByteArray.empty = x2 at cs hssz
          clear hcells
          go_wp2_with fail
          go_roundg (gk - 1)
          case measure => omega
          case rel =>
            exact ⟨k + 1, _, rfl, (wrap_in _).1, (wrap_in _).2, by go_num, by omega, rfl⟩
        · obtain rfl : k = xm := by omega
          go_wp2_with fail
          all_goals first
            | (go_ret; refine ⟨?_, HB.out⟩; first | exact .inl rfl | exact .inr rfl | exact ⟨_, rfl⟩; done)
            | (go_ret; exact ⟨_, rfl, HB.out⟩)
            | (go_roundg (n - j - 1)
               case measure => omega
               case rel => exact ⟨j + 1, z2, rfl, hz0, hz1, by go_num, by omega, HB.out⟩)
    · obtain rfl : j = n := by omega
      go_wp2_with fail
      go_ret
      exact ⟨_, rfl, hb⟩
end Go.Proofs.YtmomebakkpjdgaaDoor
