/- enter: a step is noted, and all that are reached from it without a byte -/
import Derived.Test.YthhgfahlamdgfaaAdd
import Derived.Test.YthhgfahlamdgfaaWays
import Derived.Deep.DeepCutAuto
import Derived.Deep.LoopGhost
import Derived.WalkSmall
namespace Go.Proofs.Ythhgfahlamdgfaa
open Go.RowKit

/-- each step is one, and goes to one -/
def Sound (P : List Inst) : Prop := ∀ k, k < P.length → 1 ≤ (P.getD k zeroI).kind ∧ (P.getD k zeroI).kind ≤ 6 ∧ (P.getD k zeroI).x < P.length ∧ (P.getD k zeroI).y < P.length ∧ ((P.getD k zeroI).kind ≤ 5 → k + 1 < P.length)

/-- the ways lie in memory -/
def Ways (w : World) (B gw gb : Nat) (A : Option Addr) (c : Nat) (P : List Inst) (M : List Bool) (d : Bool) : Prop :=
  Blk w gw 52 #[.slice A P.length c, .slice (some ⟨gb, 0, none⟩) P.length P.length, .bool d] ∧ Blk w gb 4 (M.map Value.bool).toArray ∧ M.length = P.length ∧ Reads w B 7 A P.length (flatI P) ∧ B ≤ gw ∧ B ≤ gb

theorem Ways.below {w w' : World} {B gw gb n0 c : Nat} {A : Option Addr} {P : List Inst} {M : List Bool} {d : Bool} (h : Ways w B gw gb A c P M d) (hb : Below n0 w w') (h1 : gw < n0) (h2 : gb < n0) : Ways w' B gw gb A c P M d :=
  ⟨h.1.below hb h1, h.2.1.below hb h2, h.2.2.1, h.2.2.2.1.below (hb.mono (Nat.le_of_lt (Nat.lt_of_le_of_lt h.2.2.2.2.1 h1))), h.2.2.2.2⟩
theorem Ways.mark {w : World} {B gw gb c : Nat} {A : Option Addr} {P : List Inst} {M : List Bool} {d : Bool} (h : Ways w B gw gb A c P M d) (k : Nat) : Ways (w.setCell ⟨gb, k, none⟩ (.bool true)) B gw gb A c P (M.set k true) d := by
  refine ⟨h.1.far (h.1.ne_ h.2.1 (by decide)) _, ?_, by rw [List.length_set]; exact h.2.2.1, h.2.2.2.1.setCell h.2.2.2.2.2 _, h.2.2.2.2⟩
  have := h.2.1.set_ k (.bool true)
  rw [List.map_set]
  simpa using this
theorem Ways.finish {w : World} {B gw gb c : Nat} {A : Option Addr} {P : List Inst} {M : List Bool} {d : Bool} (h : Ways w B gw gb A c P M d) : Ways (w.setCell ⟨gw, 2, none⟩ (.bool true)) B gw gb A c P M true := by
  refine ⟨?_, h.2.1.far (Ne.symm (h.1.ne_ h.2.1 (by decide))) _, h.2.2.1, h.2.2.2.1.setCell h.2.2.2.2.1 _, h.2.2.2.2⟩
  have := h.1.set_ 2 (.bool true)
  simpa using this

def intV (k : Nat) : Value := .int .i64 (k : Int)

/-- amid enter, in memory -/
def Mem (w : World) (n0 B gw gb : Nat) (A : Option Addr) (c : Nat) (P : List Inst) (g8 : Nat) (T : List Nat) (M : List Bool) (d : Bool) (wx : World) : Prop :=
  Ways wx B gw gb A c P M d ∧ (∃ v, Blk wx g8 56 #[v] ∧ wx.ownsRow n0 3 1 v T.length (T.map intV)) ∧ Below B w wx ∧ n0 ≤ wx.heap.size

section
variable {w wx wy : World} {n0 B gw gb c g8 : Nat} {A : Option Addr} {P : List Inst} {T : List Nat} {M : List Bool} {d : Bool}

theorem Mem.mark (h : Mem w n0 B gw gb A c P g8 T M d wx) (h2 : gb < n0) (h8 : n0 ≤ g8) (k : Nat) : Mem w n0 B gw gb A c P g8 T (M.set k true) d (wx.setCell ⟨gb, k, none⟩ (.bool true)) := by
  obtain ⟨hw, ⟨v, hv, ho⟩, hb, hn⟩ := h
  refine ⟨hw.mark k, ⟨v, hv.far (show g8 ≠ gb by omega) _, ?_⟩, hb.setCell hw.2.2.2.2.2 _, by simpa using hn⟩
  exact ownsRow_setCell_below ho h2 _
theorem Mem.finish (h : Mem w n0 B gw gb A c P g8 T M d wx) (h1 : gw < n0) (h8 : n0 ≤ g8) : Mem w n0 B gw gb A c P g8 T M true (wx.setCell ⟨gw, 2, none⟩ (.bool true)) := by
  obtain ⟨hw, ⟨v, hv, ho⟩, hb, hn⟩ := h
  refine ⟨hw.finish, ⟨v, hv.far (show g8 ≠ gw by omega) _, ?_⟩, hb.setCell hw.2.2.2.2.1 _, by simpa using hn⟩
  exact ownsRow_setCell_below ho h1 _
theorem Mem.alloc (h : Mem w n0 B gw gb A c P g8 T M d wx) (h1 : gw < n0) (h2 : gb < n0) (o : Obj) : Mem w n0 B gw gb A c P g8 T M d (wx.alloc o) := by
  obtain ⟨hw, ⟨v, hv, ho⟩, hb, hn⟩ := h
  have hBn : B ≤ n0 := Nat.le_of_lt (Nat.lt_of_le_of_lt hw.2.2.2.2.1 h1)
  refine ⟨hw.below ((Below.refl n0 wx).alloc hn o) h1 h2, ⟨v, hv.alloc o, ho.alloc o⟩, hb.alloc (Nat.le_trans hBn hn) o, by simp; omega⟩
theorem Mem.add {k : Nat} (h : Mem w n0 B gw gb A c P g8 T M d wx) (h1 : gw < n0) (h2 : gb < n0) (hv : ∃ v', Blk wy g8 56 #[v'] ∧ wy.ownsRow n0 3 1 v' (T.length + 1) (T.map intV ++ [.int .i64 (k : Int)])) (hb : Below n0 wx wy) : Mem w n0 B gw gb A c P g8 (T ++ [k]) M d wy := by
  obtain ⟨hw, _, hbx, hn⟩ := h
  obtain ⟨v', hv', ho'⟩ := hv
  have hBn : B ≤ n0 := Nat.le_of_lt (Nat.lt_of_le_of_lt hw.2.2.2.2.1 h1)
  refine ⟨hw.below hb h1 h2, ⟨v', hv', ?_⟩, hbx.trans (hb.mono hBn), Nat.le_trans hn hb.size⟩
  rw [List.length_append, List.map_append]
  exact ho'
theorem Mem.pop {t g cap : Nat} (h : Mem w n0 B gw gb A c P g8 (T ++ [t]) M d wx) (h1 : gw < n0) (h2 : gb < n0) (h8 : n0 ≤ g8)
    (hv : Blk wx g8 56 #[.slice (some ⟨g, 0, none⟩) (T.length + 1) cap]) : Mem w n0 B gw gb A c P g8 T M d (wx.setCell ⟨g8, 0, none⟩ (.slice (some ⟨g, 0, none⟩) T.length cap)).drew := by
  obtain ⟨hw, ⟨v, hv', ho⟩, hb, hn⟩ := h
  obtain rfl : v = .slice (some ⟨g, 0, none⟩) (T.length + 1) cap := by
    have := hv'.cell 0
    rw [hv.cell 0] at this
    simpa using this.symm
  have hBn : B ≤ n0 := Nat.le_of_lt (Nat.lt_of_le_of_lt hw.2.2.2.2.1 h1)
  rw [List.length_append, List.map_append] at ho
  have hp := ownsRow_pop (size := 1) (by simp) ho
  have hne := own_blk_ne hp hv (by decide)
  have hbl : Below n0 wx (wx.setCell ⟨g8, 0, none⟩ (.slice (some ⟨g, 0, none⟩) T.length cap)).drew := ((Below.refl n0 wx).setCell h8 _).drew
  have hgs := only_setCell (World.grownBy.refl wx (some g8)) (p := ⟨g8, 0, none⟩) (.inl rfl) (.slice (some ⟨g, 0, none⟩) T.length cap)
  have h5 : Blk (wx.setCell ⟨g8, 0, none⟩ (.slice (some ⟨g, 0, none⟩) T.length cap)) g8 56 #[.slice (some ⟨g, 0, none⟩) T.length cap] := by
    have := hv.set_ 0 (.slice (some ⟨g, 0, none⟩) T.length cap)
    simpa using this
  exact ⟨hw.below hbl h1 h2, ⟨_, h5.drew, (hp.kept hgs (.inr hne)).drew⟩, hb.trans (hbl.mono hBn), Nat.le_trans hn hbl.size⟩
theorem Mem.start (h : Ways w B gw gb A c P M d) (h1 : gw < w.heap.size) (h2 : gb < w.heap.size) (i : Nat) :
    Mem w w.heap.size B gw gb A c P (w.heap.size + 1) [i] M d ((w.alloc (Obj.cells #[.int .i64 (i : Int)] 3)).alloc (Obj.cells #[.slice (some ⟨w.heap.size, 0, none⟩) 1 1] 56)) := by
  have hBn : B ≤ w.heap.size := Nat.le_of_lt (Nat.lt_of_le_of_lt h.2.2.2.2.1 h1)
  have hb : Below w.heap.size w ((w.alloc (Obj.cells #[.int .i64 (i : Int)] 3)).alloc (Obj.cells #[.slice (some ⟨w.heap.size, 0, none⟩) 1 1] 56)) := ((Below.refl w.heap.size w).alloc (Nat.le_refl _) _).alloc (by simp) _
  refine ⟨h.below hb h1 h2, ⟨.slice (some ⟨w.heap.size, 0, none⟩) 1 1, ?_, ?_⟩, hb.mono hBn, hb.size⟩
  · have := Blk.new (w.alloc (Obj.cells #[.int .i64 (i : Int)] 3)) 56 #[.slice (some ⟨w.heap.size, 0, none⟩) 1 1]
    simpa using this
  · exact (World.ownsRow_lit (e := 3) (size := 1) w #[.int .i64 (i : Int)] 1 (Nat.le_refl _) (by simp [maxLen]) rfl).alloc _
end

theorem Entering.none_ {P : List Inst} {f l : Bool} {A : List Bool} {i k : Nat} {T : List Nat} {A' : List Bool} {d' : Bool} (h : Entering P f l A i (T ++ [k]) A' d') (hk : k < A'.length)
    (hno : ∀ q, ¬ Eps P f l k q) (h6 : (P.getD k zeroI).kind ≠ 6) : Entering P f l A i T (A'.set k true) d' := by
  have := h.mark (S := []) (e' := d') hk (fun q hq => by cases hq) (fun q hq => absurd hq (hno q)) ⟨.inl, fun h => h.resolve_right h6⟩
  rwa [List.append_nil] at this
theorem Entering.done_ {P : List Inst} {f l : Bool} {A : List Bool} {i k : Nat} {T : List Nat} {A' : List Bool} {d' : Bool} (h : Entering P f l A i (T ++ [k]) A' d') (hk : k < A'.length)
    (hno : ∀ q, ¬ Eps P f l k q) (h6 : (P.getD k zeroI).kind = 6) : Entering P f l A i T (A'.set k true) true := by
  have := h.mark (S := []) (e' := true) hk (fun q hq => by cases hq) (fun q hq => absurd hq (hno q)) ⟨fun _ => .inr h6, fun _ => rfl⟩
  rwa [List.append_nil] at this
theorem Entering.one_ {P : List Inst} {f l : Bool} {A : List Bool} {i k m : Nat} {T : List Nat} {A' : List Bool} {d' : Bool} (h : Entering P f l A i (T ++ [k]) A' d') (hk : k < A'.length)
    (hm : m < P.length) (hall : ∀ q, Eps P f l k q ↔ q = m) (h6 : (P.getD k zeroI).kind ≠ 6) : Entering P f l A i (T ++ [m]) (A'.set k true) d' :=
  h.mark (S := [m]) (e' := d') hk (fun q hq => by rw [List.mem_singleton] at hq; subst hq; exact ⟨(hall _).2 rfl, hm⟩) (fun q hq => List.mem_singleton.2 ((hall q).1 hq)) ⟨.inl, fun h => h.resolve_right h6⟩
theorem Entering.two_ {P : List Inst} {f l : Bool} {A : List Bool} {i k m n : Nat} {T : List Nat} {A' : List Bool} {d' : Bool} (h : Entering P f l A i (T ++ [k]) A' d') (hk : k < A'.length)
    (hm : m < P.length) (hn : n < P.length) (hall : ∀ q, Eps P f l k q ↔ q = m ∨ q = n) (h6 : (P.getD k zeroI).kind ≠ 6) : Entering P f l A i (T ++ [n] ++ [m]) (A'.set k true) d' := by
  have := h.mark (S := [n, m]) (e' := d') hk (fun q hq => by
    rw [List.mem_cons, List.mem_singleton] at hq
    rcases hq with rfl | rfl
    · exact ⟨(hall _).2 (.inr rfl), hn⟩
    · exact ⟨(hall _).2 (.inl rfl), hm⟩) (fun q hq => by
    rw [List.mem_cons, List.mem_singleton]; exact ((hall q).1 hq).symm) ⟨.inl, fun h => h.resolve_right h6⟩
  rwa [show T ++ [n, m] = T ++ [n] ++ [m] by simp] at this

theorem own_cap {w : World} {base size n g cap : Nat} {e : TypeId} {xs : List Value} (h : w.ownsRow base e size (.slice (some ⟨g, 0, none⟩) n cap) n xs) : n ≤ cap := by
  rcases h.2 with ⟨h0, _⟩ | ⟨g', cap', cur, hv, _, _, hn, _⟩
  · cases h0
  · cases hv; exact hn

set_option maxRecDepth 100000 in
set_option maxHeartbeats 4000000 in
theorem enter_any (w : World) (B gw gb c i : Nat) (A : Option Addr) (P : List Inst) (M : List Bool) (d f l : Bool) (hw : Ways w B gw gb A c P M d) (hP : Sound P) (hlen : P.length ≤ 1000) (hi : i < P.length) (hc : Closed P f l M) (hd : DoneOf P M d) :
    Calls Try.prog 23 #[.pointer (some ⟨gw, 0, none⟩), .int .i64 (i : Int), .bool f, .bool l] w fun e w' => e = .returned (.tuple #[]) ∧ ∃ M' d', Ways w' B gw gb A c P M' d' ∧ Entered P f l M i M' d' ∧ Below B w w' := by
  have hgw := hw.1.lt
  have hgb := hw.2.1.lt
  go_enter Try.func23, Try.ntmps23
  go_wp2_with fail
  go_loopg [] (3 * outs M + 1) (fun k wx => ∃ T M' d', Mem w w.heap.size B gw gb A c P (w.heap.size + 1) T M' d' wx ∧ Entering P f l M i T M' d' ∧ 3 * outs M' + T.length ≤ k ∧ k ≤ 3 * P.length + 1)
  case atStart =>
    have hol := outs_le M
    rw [hw.2.2.1] at hol
    exact ⟨[i], M, d, Mem.start hw hgw hgb i, Entering.start hc hd hi, by simp, by omega⟩
  case round =>
    obtain ⟨T, M', d', hm, he, hk, hk2⟩ := hrel
    obtain ⟨v, hv, ho⟩ := hm.2.1
    rcases List.eq_nil_or_concat T with rfl | ⟨T0, t, rfl⟩
    · obtain ⟨A3, c3, rfl, _⟩ := own_reads ho
      have c8 : wr.cell? ⟨w.heap.size + 1, 0, none⟩ = some (.slice A3 0 c3) := by simpa using hv.cell 0
      have HM := Lib.hid hm
      have HE := Lib.hid he
      clear hv ho hm he
      go_wp2_with fail
      go_end0
      exact ⟨rfl, M', d', HM.out.1, HE.out.ends, HM.out.2.2.1⟩
    · rw [List.concat_eq_append] at hm he ho hk
      rw [show (T0 ++ [t]).length = T0.length + 1 by simp] at hk
      have hT : T0.length ≤ 3001 := by omega
      have hTw : wrap64 (T0.length : Int) = (T0.length : Int) := by unfold wrap64; omega
      rw [List.length_append, List.map_append] at ho
      obtain ⟨g, cap, rfl, _, hglt⟩ := ho.form (by simp)
      have hcap := own_cap ho
      rw [show T0.length + [t].length = T0.length + 1 from rfl] at hcap
      have c8 : wr.cell? ⟨w.heap.size + 1, 0, none⟩ = some (.slice (some ⟨g, 0, none⟩) (T0.length + 1) cap) := by simpa using hv.cell 0
      have f8 := hv.frozen 0
      have ct : wr.cell? ⟨g, T0.length, none⟩ = some (.int .i64 (t : Int)) := by
        rw [ho.cellAt T0.length (by simp)]
        simp [intV]
      have ht := (he.todo t (List.mem_append_right _ (List.mem_singleton.2 rfl))).2
      have HP := Lib.hid (hm.pop hgw hgb (Nat.le_succ _) hv)
      have HE := Lib.hid he
      clear hv ho hm he
      go_upto_region 3 with fail
      go_region
      generalize (wr.setCell ⟨w.heap.size + 1, 0, none⟩ (.slice (some ⟨g, 0, none⟩) T0.length cap)).drew = wx at HP ⊢
      have hml : M'.length = P.length := HP.out.1.2.2.1
      have d1 : wx.cell? ⟨gw, 1, none⟩ = some (.slice (some ⟨gb, 0, none⟩) P.length P.length) := by simpa using HP.out.1.1.cell 1
      have ht' : (t : Int) < (P.length : Int) := by omega
      clear c8 f8 ct
      by_cases hin : In M' t
      · have db : wx.cell? ⟨gb, t, none⟩ = some (.bool true) := by
          rw [HP.out.1.2.1.cell t]
          unfold In at hin
          simp [hin]
        go_wp2_with fail
        go_roundg (gk - 1)
        case measure => omega
        case rel => exact ⟨T0, M', d', HP.out, HE.out.known hin, by omega, by omega⟩
      · have htm : t < M'.length := by omega
        have db : wx.cell? ⟨gb, t, none⟩ = some (.bool false) := by
          rw [HP.out.1.2.1.cell t]
          unfold In at hin
          rw [List.getElem?_eq_getElem htm] at hin
          cases hb : M'[t]
          · simp [List.getElem?_eq_getElem htm, hb]
          · rw [hb] at hin; exact absurd rfl hin
        have fb := HP.out.1.2.1.frozen t
        have d0 : wx.cell? ⟨gw, 0, none⟩ = some (.slice A P.length c) := by simpa using HP.out.1.1.cell 0
        obtain ⟨bl, o, rfl, hbl, hcell⟩ := Reads.inst HP.out.1.2.2.2.1 ht
        have p0 : wx.cell? ⟨bl, o + t * 7, none⟩ = some (.int .i64 ((P.getD t zeroI).kind : Int)) := hcell 0 (by omega)
        have p1 : wx.cell? ⟨bl, o + t * 7 + 1, none⟩ = some (.int .u64 (word (P.getD t zeroI).set 0 : Int)) := hcell 1 (by omega)
        have p2 : wx.cell? ⟨bl, o + t * 7 + 2, none⟩ = some (.int .u64 (word (P.getD t zeroI).set 1 : Int)) := hcell 2 (by omega)
        have p3 : wx.cell? ⟨bl, o + t * 7 + 3, none⟩ = some (.int .u64 (word (P.getD t zeroI).set 2 : Int)) := hcell 3 (by omega)
        have p4 : wx.cell? ⟨bl, o + t * 7 + 4, none⟩ = some (.int .u64 (word (P.getD t zeroI).set 3 : Int)) := hcell 4 (by omega)
        have p5 : wx.cell? ⟨bl, o + t * 7 + 5, none⟩ = some (.int .i64 ((P.getD t zeroI).x : Int)) := hcell 5 (by omega)
        have p6 : wx.cell? ⟨bl, o + t * 7 + 6, none⟩ = some (.int .i64 ((P.getD t zeroI).y : Int)) := hcell 6 (by omega)
        have hq := hP t ht
        have HM := Lib.hid (HP.out.mark hgb (Nat.le_succ _) t)
        have hne : bl ≠ gb := by have := HP.out.1.2.2.2.2; omega
        have hne2 : gw ≠ gb := HP.out.1.1.ne_ HP.out.1.2.1 (by decide)
        clear hcell
        generalize hqq : P.getD t zeroI = q at *
        obtain ⟨qk, qs, qx, qy⟩ := q
        simp only at p0 p1 p2 p3 p4 p5 p6 hq
        generalize word qs 0 = x0 at p1
        generalize word qs 1 = x1 at p2
        generalize word qs 2 = x2 at p3
        generalize word qs 3 = x3 at p4
        go_upto_region 7 with fail
        have HA := Lib.hid (HM.out.alloc hgw hgb (Obj.cells #[.int .i64 (qk : Int), .int .u64 (x0 : Int), .int .u64 (x1 : Int), .int .u64 (x2 : Int), .int .u64 (x3 : Int), .int .i64 (qx : Int), .int .i64 (qy : Int)] 31))
        have hxb := Blk.new (wx.setCell ⟨gb, t, none⟩ (.bool true)) 31 #[.int .i64 (qk : Int), .int .u64 (x0 : Int), .int .u64 (x1 : Int), .int .u64 (x2 : Int), .int .u64 (x3 : Int), .int .i64 (qx : Int), .int .i64 (qy : Int)]
        rw [show (wx.setCell ⟨gb, t, none⟩ (.bool true)).heap.size = wx.heap.size by simp] at hxb
        clear db fb d0 d1 p0 p1 p2 p3 p4 p5 p6 HM hne hne2
        have hgx : w.heap.size ≤ wx.heap.size := HP.out.2.2.2
        generalize (wx.setCell ⟨gb, t, none⟩ (.bool true)).alloc (Obj.cells #[.int .i64 (qk : Int), .int .u64 (x0 : Int), .int .u64 (x1 : Int), .int .u64 (x2 : Int), .int .u64 (x3 : Int), .int .i64 (qx : Int), .int .i64 (qy : Int)] 31) = wy at HA hxb ⊢
        generalize wx.heap.size = gx at hxb hgx ⊢
        have hos := outs_set htm hin
        have hkind : qk = 1 ∨ qk = 2 ∨ qk = 3 ∨ qk = 4 ∨ qk = 5 ∨ qk = 6 := by omega
        have e0 : wy.cell? ⟨gx, 0, none⟩ = some (.int .i64 (qk : Int)) := by simpa using hxb.cell 0
        have e5 : wy.cell? ⟨gx, 5, none⟩ = some (.int .i64 (qx : Int)) := by simpa using hxb.cell 5
        have e6 : wy.cell? ⟨gx, 6, none⟩ = some (.int .i64 (qy : Int)) := by simpa using hxb.cell 6
        have HX := Lib.hid hxb
        clear hxb
        obtain ⟨v, hv, ho⟩ := HA.out.2.1
        have hsz := HA.out.2.2.2
        have hl1 : (T0 ++ [qy]).length = T0.length + 1 := by simp
        rcases hkind with rfl | rfl | rfl | rfl | rfl | rfl
        · have he := HE.out.none_ htm (fun q h => by rw [Eps, hqq] at h; simp at h) (by rw [hqq]; simp)
          have HE2 := Lib.hid he
          clear he
          go_wp2_with fail
          go_roundg (gk - 1)
          case measure => omega
          case rel => exact ⟨T0, _, d', HA.out, HE2.out, by omega, by omega⟩
        · have he := HE.out.two_ (m := qx) (n := qy) htm hq.2.2.1 hq.2.2.2.1 (fun q => by rw [Eps, hqq]; simp) (by rw [hqq]; simp)
          have HE2 := Lib.hid he
          clear he
          go_wp2_with fail
          refine (add_any wy (w.heap.size + 1) w.heap.size T0.length v (T0.map intV) (qy : Int) hv ho (by omega) hsz (Nat.le_succ _)).mono ?_
          rintro e w2 ⟨rfl, hv2, hb2, hx2⟩
          have HA2 := Lib.hid (HA.out.add hgw hgb hv2 hb2)
          have hxb2 := hx2 gx 31 _ HX.out (by decide) (by decide)
          have e52 : w2.cell? ⟨gx, 5, none⟩ = some (.int .i64 (qx : Int)) := by simpa using hxb2.cell 5
          clear hv2 hb2 hx2 hxb2 hv ho
          obtain ⟨v2, hv, ho⟩ := HA2.out.2.1
          have hsz2 := HA2.out.2.2.2
          go_wp2_with fail
          refine (add_any w2 (w.heap.size + 1) w.heap.size (T0 ++ [qy]).length v2 ((T0 ++ [qy]).map intV) (qx : Int) hv ho (by omega) hsz2 (Nat.le_succ _)).mono ?_
          rintro e w3 ⟨rfl, hv3, hb3, hx3⟩
          have HA3 := Lib.hid (HA2.out.add hgw hgb hv3 hb3)
          clear hv3 hb3 hx3 hv ho
          go_wp2_with fail
          go_roundg (gk - 1)
          case measure => omega
          case rel => exact ⟨_, _, d', HA3.out, HE2.out, by simp; omega, by omega⟩
        · have he := HE.out.one_ (m := qx) htm hq.2.2.1 (fun q => by rw [Eps, hqq]; simp) (by rw [hqq]; simp)
          have HE2 := Lib.hid he
          clear he
          go_wp2_with fail
          refine (add_any wy (w.heap.size + 1) w.heap.size T0.length v (T0.map intV) (qx : Int) hv ho (by omega) hsz (Nat.le_succ _)).mono ?_
          rintro e w2 ⟨rfl, hv2, hb2, hx2⟩
          have HA2 := Lib.hid (HA.out.add hgw hgb hv2 hb2)
          clear hv2 hb2 hx2 hv ho
          go_wp2_with fail
          go_roundg (gk - 1)
          case measure => omega
          case rel => exact ⟨_, _, d', HA2.out, HE2.out, by simp; omega, by omega⟩
        · cases f
          · have he := HE.out.none_ htm (fun q h => by rw [Eps, hqq] at h; simp at h) (by rw [hqq]; simp)
            have HE2 := Lib.hid he
            clear he
            go_wp2_with fail
            go_roundg (gk - 1)
            case measure => omega
            case rel => exact ⟨T0, _, d', HA.out, HE2.out, by omega, by omega⟩
          · have he := HE.out.one_ (m := t + 1) htm (hq.2.2.2.2 (by decide)) (fun q => by rw [Eps, hqq]; simp) (by rw [hqq]; simp)
            have HE2 := Lib.hid he
            clear he
            go_wp2_with fail
            refine (add_any wy (w.heap.size + 1) w.heap.size T0.length v (T0.map intV) ((t + 1 : Nat) : Int) hv ho (by omega) hsz (Nat.le_succ _)).mono ?_
            rintro e w2 ⟨rfl, hv2, hb2, hx2⟩
            have HA2 := Lib.hid (HA.out.add hgw hgb hv2 hb2)
            clear hv2 hb2 hx2 hv ho
            go_wp2_with fail
            go_roundg (gk - 1)
            case measure => omega
            case rel => exact ⟨_, _, d', HA2.out, HE2.out, by simp; omega, by omega⟩
        · cases l
          · have he := HE.out.none_ htm (fun q h => by rw [Eps, hqq] at h; simp at h) (by rw [hqq]; simp)
            have HE2 := Lib.hid he
            clear he
            go_wp2_with fail
            go_roundg (gk - 1)
            case measure => omega
            case rel => exact ⟨T0, _, d', HA.out, HE2.out, by omega, by omega⟩
          · have he := HE.out.one_ (m := t + 1) htm (hq.2.2.2.2 (by decide)) (fun q => by rw [Eps, hqq]; simp) (by rw [hqq]; simp)
            have HE2 := Lib.hid he
            clear he
            go_wp2_with fail
            refine (add_any wy (w.heap.size + 1) w.heap.size T0.length v (T0.map intV) ((t + 1 : Nat) : Int) hv ho (by omega) hsz (Nat.le_succ _)).mono ?_
            rintro e w2 ⟨rfl, hv2, hb2, hx2⟩
            have HA2 := Lib.hid (HA.out.add hgw hgb hv2 hb2)
            clear hv2 hb2 hx2 hv ho
            go_wp2_with fail
            go_roundg (gk - 1)
            case measure => omega
            case rel => exact ⟨_, _, d', HA2.out, HE2.out, by simp; omega, by omega⟩
        · have he := HE.out.done_ htm (fun q h => by rw [Eps, hqq] at h; simp at h) (by rw [hqq])
          have HE2 := Lib.hid he
          have HF := Lib.hid (HA.out.finish hgw (Nat.le_succ _))
          have d2 : wy.cell? ⟨gw, 2, none⟩ = some (.bool d') := by simpa using HA.out.1.1.cell 2
          have f2 := HA.out.1.1.frozen 2
          clear he
          go_wp2_with fail
          go_roundg (gk - 1)
          case measure => omega
          case rel => exact ⟨T0, _, true, HF.out, HE2.out, by omega, by omega⟩
end Go.Proofs.Ythhgfahlamdgfaa
