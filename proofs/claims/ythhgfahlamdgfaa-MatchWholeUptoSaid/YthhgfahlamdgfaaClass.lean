/- class: a class of bytes is read -/
import Derived.Test.YthhgfahlamdgfaaHas
import Derived.Deep.DeepCutAuto
import Derived.Deep.LoopGhost
namespace Go.Proofs.Ythhgfahlamdgfaa
open Go.RowKit

def ClassPost (w : World) (g : Nat) (s : ByteArray) (st : St) (e : Ending) (w' : World) : Prop :=
  ∃ f i st', classOf f st = some (i, st') ∧ e = .returned (.agg (cellsI i).toArray) ∧ Pars w' g s st' ∧ w.grownBy w' (some g)

/-- what a world of class has: the parser, the step that is made, the result's place -/
def InClass (w : World) (g : Nat) (s : ByteArray) (st : St) (m : Nat) (wx : World) : Prop :=
  Pars wx g s st ∧ Blk wx (w.heap.size + 1) 31 (cellsI ⟨1, m, 0, 0⟩).toArray ∧ Blk wx w.heap.size 31 (cellsI zeroI).toArray ∧ w.grownBy wx (some g)

theorem InClass.call {w : World} {g : Nat} {s : ByteArray} {st st' : St} {m : Nat} {wx wy : World} (h : InClass w g s st m wx) (hlt : g < w.heap.size) (hp : Pars wy g s st') (hg : wx.grownBy wy (some g)) : InClass w g s st' m wy :=
  ⟨hp, h.2.1.grown hg (by intro e; injection e; omega), h.2.2.1.grown hg (by intro e; injection e; omega), h.2.2.2.trans hg⟩

theorem InClass.skip {w : World} {g : Nat} {s : ByteArray} {st : St} {m : Nat} {wx : World} (h : InClass w g s st m wx) (hlt : g < w.heap.size) {x : Int}
    (hp : Hid (Pars (wx.setCell ⟨g, 1, none⟩ (.int .i64 x)) g s st.skip)) : InClass w g s st.skip m (wx.setCell ⟨g, 1, none⟩ (.int .i64 x)) :=
  h.call hlt hp.out (only_setCell (World.grownBy.refl _ _) (.inl rfl) _)

theorem InClass.start (w : World) (g : Nat) (s : ByteArray) (st : St) (h : Pars w g s st) :
    InClass w g s st 0 ((w.alloc (Obj.cells #[.int .i64 0, .int .u64 0, .int .u64 0, .int .u64 0, .int .u64 0, .int .i64 0, .int .i64 0] 31)).alloc (Obj.cells #[.int .i64 1, .int .u64 0, .int .u64 0, .int .u64 0, .int .u64 0, .int .i64 0, .int .i64 0] 31)) := by
  have hg := only_alloc (only_alloc (World.grownBy.refl w (some g)) (Obj.cells #[.int .i64 0, .int .u64 0, .int .u64 0, .int .u64 0, .int .u64 0, .int .i64 0, .int .i64 0] 31)) (Obj.cells #[.int .i64 1, .int .u64 0, .int .u64 0, .int .u64 0, .int .u64 0, .int .i64 0, .int .i64 0] 31)
  obtain ⟨a, h1, h2, h3⟩ := h
  refine ⟨⟨a, h1, h2, (h3.alloc _).alloc _⟩, ?_, ?_, hg⟩
  · have := Blk.new (w.alloc (Obj.cells #[.int .i64 0, .int .u64 0, .int .u64 0, .int .u64 0, .int .u64 0, .int .i64 0, .int .i64 0] 31)) 31 #[.int .i64 1, .int .u64 0, .int .u64 0, .int .u64 0, .int .u64 0, .int .i64 0, .int .i64 0]
    simpa [cellsI, word] using this
  · have := (Blk.new w 31 #[.int .i64 0, .int .u64 0, .int .u64 0, .int .u64 0, .int .u64 0, .int .i64 0, .int .i64 0]).alloc (Obj.cells #[.int .i64 1, .int .u64 0, .int .u64 0, .int .u64 0, .int .u64 0, .int .i64 0, .int .i64 0] 31)
    simpa [cellsI, zeroI, word] using this

theorem InClass.has {w : World} {g : Nat} {s : ByteArray} {st : St} {m m' : Nat} {wx wy : World} (h : InClass w g s st m wx) (hlt : g < w.heap.size)
    (hb : Blk wy (w.heap.size + 1) 31 (cellsI ⟨1, m', 0, 0⟩).toArray) (hg : wx.grownBy wy (some (w.heap.size + 1))) : InClass w g s st m' wy :=
  ⟨h.1.grown hg (by intro e; injection e; omega), hb, h.2.2.1.grown hg (by intro e; injection e; omega), h.2.2.2.andThen hg (fun j hj => by injection hj; exact .inl (by omega))⟩

theorem InClass.quiet {w : World} {g : Nat} {s : ByteArray} {st : St} {m : Nat} {wx : World} (h : InClass w g s st m wx) (n : Nat) : InClass w g s st m (wx.drewN n) :=
  ⟨h.1.drewN n, h.2.1.drewN n, h.2.2.1.drewN n, only_drewN h.2.2.2 n⟩

/-- what 'p.is('-') && p.at+1 < len(p.s) && p.s[p.at+1] != ']'' reads -/
theorem Pars.ahead {w : World} {g : Nat} {s : ByteArray} {st : St} (h : Pars w g s st) (hi : st.is 45 = true) :
    ∃ a : Nat, w.cell? ⟨g, 0, none⟩ = some (.string s) ∧ w.cell? ⟨g, 1, none⟩ = some (.int .i64 (a : Int)) ∧ a ≤ s.size ∧
      ((s.size ≤ a + 1 ∧ st.ranges = false) ∨ (∃ hlt : a + 1 < s.size, (s[a + 1] = 93 ∧ st.ranges = false) ∨ (s[a + 1] ≠ 93 ∧ st.ranges = true))) := by
  obtain ⟨a, ha, hr, hb⟩ := h
  refine ⟨a, by simpa using hb.cell 0, by simpa using hb.cell 1, ha, ?_⟩
  have hi' := hi
  obtain ⟨_, r, hrr⟩ := is_some hi
  have hlt : a < s.size := by
    rcases Nat.lt_or_ge a s.size with hlt | hge
    · exact hlt
    · rw [drop_nil hge, hrr] at hr; cases hr
  rw [drop_cons hlt, hrr] at hr
  injection hr with _ hr
  by_cases h1 : a + 1 < s.size
  · right
    refine ⟨h1, ?_⟩
    rw [drop_cons h1] at hr
    by_cases h2 : s[a + 1] = 93
    · exact .inl ⟨h2, by simp [St.ranges, hrr, ← hr, h2]⟩
    · exact .inr ⟨h2, by simp [St.ranges, hi', hrr, ← hr, h2]⟩
  · left
    rw [drop_nil (by omega)] at hr
    exact ⟨by omega, by simp [St.ranges, hrr, ← hr]⟩

theorem is_q (w : World) (g : Nat) (s : ByteArray) (st : St) (h : Pars w g s st) (c : UInt8) (k : Int) (hk : (c.toNat : Int) = k) {b : Bool} (hb : st.is c = b) :
    Calls Try.prog 21 #[.pointer (some ⟨g, 0, none⟩), .int .u8 k] w fun e w' => e = .returned (.bool b) ∧ ∃ n, w' = w.drewN n :=
  (is_any w g s st h c k hk).mono fun _ _ ⟨he, hw⟩ => ⟨by rw [he, hb], hw⟩
theorem ranges_no {st : St} (h : st.is 45 = false) : st.ranges = false := by unfold St.ranges; rw [h]; rfl
theorem val_bool {a b : Bool} (h : a = b) : Value.bool a = Value.bool b := by rw [h]

theorem member_lt {st : St} (h : st.ends = false) : st.member.2.rest.length < st.rest.length := by
  have h1 := (next_lt h).1
  unfold St.member
  split
  · have := (next_le st.next.2).len; omega
  · omega
theorem classLoop_go {f m : Nat} {st : St} (h : st.ends = false) (h' : st.is 93 = false) :
    classLoop (f + 1) st m = classLoop f ((st.member.2.second st.member.1).2.order st.member.1 (st.member.2.second st.member.1).1) (addBits m st.member.1.toNat ((st.member.2.second st.member.1).1.toNat + 1 - st.member.1.toNat)) := by
  rw [classLoop, if_neg (by rw [h, h']; simp)]

/-- the words of the set, of which the first k are turned about -/
def wordC (m : Nat) (nb : Bool) (k j : Nat) : Nat := if (nb && decide (j < k)) = true then 2 ^ 64 - 1 - word m j else word m j
def cellsC (m : Nat) (nb : Bool) (k : Nat) : List Value :=
  [.int .i64 1, .int .u64 (wordC m nb k 0 : Int), .int .u64 (wordC m nb k 1 : Int), .int .u64 (wordC m nb k 2 : Int), .int .u64 (wordC m nb k 3 : Int), .int .i64 0, .int .i64 0]
theorem cellsC_start (m : Nat) (nb : Bool) : cellsC m nb 0 = cellsI ⟨1, m, 0, 0⟩ := by simp [cellsC, cellsI, wordC]

theorem word_turned {m j : Nat} (hm : m < 2 ^ 256) (hj : j < 4) : word (allBytes - m) j = 2 ^ 64 - 1 - word m j := by
  have e : allBytes - m = 2 ^ 256 - (m + 1) := by unfold allBytes; omega
  apply Nat.eq_of_testBit_eq
  intro i
  rw [word_bit, e, Nat.testBit_two_pow_sub_succ hm, show 2 ^ 64 - 1 - word m j = 2 ^ 64 - (word m j + 1) by omega, Nat.testBit_two_pow_sub_succ (word_lt m j), word_bit]
  by_cases hi : i < 64
  · have : decide (64 * j + i < 256) = true := by simp; omega
    rw [this]; simp [hi]
  · simp [hi]
theorem cellsC_end {m : Nat} (nb : Bool) (hm : m < 2 ^ 256) : cellsC m nb 4 = cellsI ⟨1, if nb = true then allBytes - m else m, 0, 0⟩ := by
  cases nb
  · simp [cellsC, cellsI, wordC]
  · simp [cellsC, cellsI, wordC, word_turned hm]

def InTail (w : World) (g : Nat) (s : ByteArray) (st : St) (m : Nat) (nb : Bool) (k : Nat) (wx : World) : Prop :=
  Pars wx g s st ∧ Blk wx (w.heap.size + 1) 31 (cellsC m nb k).toArray ∧ Blk wx w.heap.size 31 (cellsI zeroI).toArray ∧ w.grownBy wx (some g)

theorem cellsC_at {m k : Nat} (hk : k < 4) : (cellsC m true k)[1 + k]? = some (.int .u64 (word m k : Int)) := by
  have : k = 0 ∨ k = 1 ∨ k = 2 ∨ k = 3 := by omega
  rcases this with rfl | rfl | rfl | rfl <;> rfl
theorem cellsC_set {m k : Nat} (hk : k < 4) : (cellsC m true k).set (1 + k) (.int .u64 ((2 ^ 64 - 1 - word m k : Nat) : Int)) = cellsC m true (k + 1) := by
  have : k = 0 ∨ k = 1 ∨ k = 2 ∨ k = 3 := by omega
  rcases this with rfl | rfl | rfl | rfl <;> rfl
theorem max_xor {x : Nat} (hx : x < 2 ^ 64) : (2 ^ 64 - 1) ^^^ x = 2 ^ 64 - 1 - x := by
  apply Nat.eq_of_testBit_eq
  intro i
  rw [show 2 ^ 64 - 1 - x = 2 ^ 64 - (x + 1) by omega, Nat.testBit_xor, Nat.testBit_two_pow_sub_one, Nat.testBit_two_pow_sub_succ hx]
  by_cases hi : i < 64
  · simp [hi]
  · have : x.testBit i = false := Nat.testBit_lt_two_pow (Nat.lt_of_lt_of_le hx (Nat.pow_le_pow_right (by omega) (by omega)))
    simp [hi, this]
theorem xor_val {x : Nat} (hx : x < 2 ^ 64) : bits .xor .u64 IntKind.u64.max (x : Int) = ((2 ^ 64 - 1 - x : Nat) : Int) := by
  have h64 : (2 : Nat) ^ 64 = 18446744073709551616 := by decide
  rw [← max_xor hx, show IntKind.u64.max = ((2 ^ 64 - 1 : Nat) : Int) from rfl, u64_xor_nat _ _ (by omega) (by omega)]

theorem InTail.turn {w : World} {g : Nat} {s : ByteArray} {st : St} {m k : Nat} {wx : World} (h : InTail w g s st m true k wx) (hlt : g < w.heap.size) (hk : k < 4) :
    InTail w g s st m true (k + 1) (wx.setCell ⟨w.heap.size + 1, 1 + k, none⟩ (.int .u64 (bits .xor .u64 IntKind.u64.max (word m k : Int)))) := by
  have hg : wx.grownBy (wx.setCell ⟨w.heap.size + 1, 1 + k, none⟩ (.int .u64 (bits .xor .u64 IntKind.u64.max (word m k : Int)))) (some (w.heap.size + 1)) := only_setCell (World.grownBy.refl _ _) (.inl rfl) _
  refine ⟨h.1.grown hg (by intro e; injection e; omega), ?_, h.2.2.1.grown hg (by intro e; injection e; omega), h.2.2.2.andThen hg (fun j hj => by injection hj; exact .inl (by omega))⟩
  have := h.2.1.set_ (1 + k) (.int .u64 (bits .xor .u64 IntKind.u64.max (word m k : Int)))
  rw [xor_val (word_lt m k)] at this ⊢
  rw [← cellsC_set hk]
  simpa using this

theorem Blk.range {w : World} {g : Nat} {t : TypeId} {cs : List Value} (h : Blk w g t cs.toArray) : w.rangeAt g 0 cs := fun j v hv => by
  rw [Nat.zero_add, h.cell j]; simpa using hv
theorem Blk.there {w : World} {g : Nat} {t : TypeId} {cs : List Value} {n : Nat} (h : Blk w g t cs.toArray) (hn : cs.length = n) : w.there g 0 n := fun j hj => by
  rw [Nat.zero_add]
  exact ⟨by rw [h.cell j]; simp [hn, hj], h.frozen j⟩
theorem cellsC_one (m : Nat) (nb : Bool) (k : Nat) : ∀ v ∈ cellsC m nb k, v.oneCell' = true := by
  intro v hv
  simp only [cellsC, List.mem_cons, List.not_mem_nil, or_false] at hv
  rcases hv with rfl | rfl | rfl | rfl | rfl | rfl | rfl <;> rfl

theorem results_cell {fn : Func} {p : Tmp} {ty : TypeId} (h : fn.results = #[.cell p ty]) (tmps : Array Value) (P : Program) (w : World) :
    (results fn tmps).run P w = ((asAddr (tmps.getD p undef)).run P w).andThen fun a w₁ => (loadVar ty a).run P w₁ := by
  simp only [results, h]
  simp [Sem.run_bind, Result.andThen]

/-- a result that lies in a block of the call's own -/
theorem results_inst {fn : Func} (h : fn.results = #[.cell 2 31]) {tmps : Array Value} {w : World} {b : Nat} {cs : List Value} (ht : tmps.getD 2 undef = .pointer (some ⟨b, 0, none⟩)) (hc : w.rangeAt b 0 cs) (hl : cs.length = 7) :
    (results fn tmps).run Try.prog w = .ok (.agg cs.toArray) w := by
  rw [results_cell h, ht]
  have hi : (Try.prog.info? 31).map (·.size) = some cs.length := by rw [hl]; kernel_rfl
  have := run_loadVar_mid (P := Try.prog) w b 0 31 cs _ hc Try.underlying31 rfl hi
  simp [asAddr, Result.andThen, this]

theorem grown_setCells (b : Nat) : ∀ (vs : List Value) (o : Nat) (w : World), w.grownBy (w.setCells b o vs) (some b)
  | [], _, _ => World.grownBy.refl _ _
  | v :: vs, o, w => (only_setCell (World.grownBy.refl w (some b)) (p := ⟨b, o, none⟩) (.inl rfl) v).trans (grown_setCells b vs (o + 1) _)

theorem InTail.ends {w : World} {g : Nat} {s : ByteArray} {st sx : St} {m f : Nat} {nb : Bool} {wx : World} (h : InTail w g s sx.next.2 m nb 4 wx) (hlt : g < w.heap.size) (hm : m < 2 ^ 256)
    (hf : classLoop f (classStart st) 0 = some (m, sx)) (hnb : st.is 94 = nb) : ClassPost w g s st (.returned (.agg (cellsC m nb 4).toArray)) (wx.setCells w.heap.size 0 (cellsC m nb 4)) := by
  have hg := grown_setCells w.heap.size (cellsC m nb 4) 0 wx
  refine ⟨f, ⟨1, if nb = true then allBytes - m else m, 0, 0⟩, sx.next.2, ?_, by rw [cellsC_end nb hm], h.1.grown hg (by intro e; injection e; omega), h.2.2.2.andThen hg (fun j hj => by injection hj; exact .inl (by omega))⟩
  unfold classOf
  rw [hf, hnb]
  rfl

theorem is_rest {st : St} {c : UInt8} (h : st.is c = true) : st.rest ≠ [] := by
  obtain ⟨_, r, hr⟩ := is_some h
  rw [hr]; simp

set_option maxRecDepth 100000 in
set_option maxHeartbeats 4000000 in
theorem class_any (w : World) (g : Nat) (s : ByteArray) (st : St) (h : Pars w g s st) (hs : s.size ≤ 1000) :
    Calls Try.prog 31 #[.pointer (some ⟨g, 0, none⟩)] w (ClassPost w g s st) := by
  have hlt := h.lt
  go_enter Try.func31, Try.ntmps31
  go_wp2_with fail
  have hin := InClass.start w g s st h
  generalize ((w.alloc (Obj.cells #[.int .i64 0, .int .u64 0, .int .u64 0, .int .u64 0, .int .u64 0, .int .i64 0, .int .i64 0] 31)).alloc (Obj.cells #[.int .i64 1, .int .u64 0, .int .u64 0, .int .u64 0, .int .u64 0, .int .i64 0, .int .i64 0] 31)) = w2 at hin ⊢
  refine (is_k w2 g s st hin.1 94 94 rfl).mono ?_
  rintro e w3 ⟨rfl, hp3, hg3⟩
  have hin3 := Lib.hid (hin.call hlt hp3 hg3)
  clear hin hp3 hg3 h
  generalize hnb : st.is 94 = nb
  have HNB := Lib.hid hnb
  clear hnb
  go_upto_if 12 with fail
  go_cut [] (fun wx => InClass w g s (if nb = true then st.skip else st) 0 wx)
  case first =>
    cases nb
    · go_wp2_with fail
      go_meet
      exact hin3.out
    · obtain ⟨a, ha, c1, f1, H⟩ := hin3.out.1.step hs (is_rest HNB.out)
      go_wp2_with fail
      go_meet
      exact hin3.out.skip hlt H
  case rest =>
    have hin4 := Lib.hid hcut
    clear hcut hin3
    obtain ⟨sy, hsy⟩ : ∃ sy, sy = (if nb = true then st.skip else st) := ⟨_, rfl⟩
    have hcs : classStart st = if sy.is 93 = true then sy.fails 3 else sy := by rw [hsy, ← HNB.out]; rfl
    rw [← hsy] at hin4
    have HCS := Lib.hid hcs
    clear hcs hsy
    go_upto_if 21 with (go_at_call 21; refine (is_k _ g s _ hin4.out.1 93 93 rfl).mono ?_; rintro e w5 ⟨rfl, hp5, hg5⟩; have hin5 := Lib.hid (hin4.out.call hlt hp5 hg5); clear hin4 hp5 hg5)
    go_cut [] (fun wx => InClass w g s (classStart st) 0 wx)
    case first =>
      cases hn : sy.is 93
      · have HB := Lib.hid hn
        go_wp2_with fail
        go_meet
        show InClass w g s (classStart st) 0 _
        rw [HCS.out, HB.out]
        exact hin5.out
      · have HB := Lib.hid hn
        go_wp2_with (go_at_call 18; refine (fails_any _ g s _ hin5.out.1 3 _ rfl).mono ?_; rintro e w6 ⟨rfl, hp6, hg6⟩)
        go_meet
        show InClass w g s (classStart st) 0 _
        rw [HCS.out, HB.out]
        exact hin5.out.call hlt hp6 hg6
    case rest =>
      have hin6 := Lib.hid hcut
      clear hcut hin5
      go_wp2_with fail
      go_loopg [] ((classStart st).rest.length) (fun k wx => ∃ sx m, InClass w g s sx m wx ∧ m < 2 ^ 256 ∧ sx.rest.length ≤ k ∧ ∀ f r, classLoop f sx m = some r → ∃ f', classLoop f' (classStart st) 0 = some r)
      case atStart => exact ⟨_, _, hin6.out, Nat.two_pow_pos _, Nat.le_refl _, fun f r h => ⟨f, h⟩⟩
      case round =>
        obtain ⟨sx, m, hinr, hm, hrest, hback⟩ := hrel
        have HM := Lib.hid hm
        clear hm
        have HI := Lib.hid hinr
        have HK := Lib.hid hback
        clear hinr hback
        obtain ⟨gk1, hgk1⟩ : ∃ q : Nat, q = gk := ⟨_, rfl⟩
        subst hgk1
        cases hen : sx.ends
        · have HE := Lib.hid hen
          clear hen
          cases hcl : sx.is 93
          · have HC := Lib.hid hcl
            clear hcl
            have hlt2 := member_lt HE.out
            go_upto_region 10 with (first | (go_at_call 17; refine (ends_k _ g s sx HI.out.1).mono ?_; rw [HE.out]; rintro e w7 ⟨rfl, hp7, hg7⟩; have HI7 := Lib.hid (HI.out.call hlt hp7 hg7); clear HI hp7 hg7) | (go_at_call 21; refine (is_k _ g s sx HI7.out.1 93 93 rfl).mono ?_; rw [HC.out]; rintro e w8 ⟨rfl, hp8, hg8⟩; have HI8 := Lib.hid (HI7.out.call hlt hp8 hg8); clear HI7 hp8 hg8) | (go_at_call 34; refine (member_any _ g s sx HI8.out.1 hs).mono ?_; rintro e w9 ⟨rfl, hp9, hg9⟩; have HI9 := Lib.hid (HI8.out.call hlt hp9 hg9); clear HI8 hp9 hg9))
            generalize hma : sx.member.1 = a
            generalize hms : sx.member.2 = s1 at HI9
            have HMA := Lib.hid hma
            have HMS := Lib.hid hms
            clear hma hms
            go_cut [62] (fun v wx => v = .bool s1.ranges ∧ InClass w g s s1 m wx)
            case first =>
              have HP := Lib.hid HI9.out.1
              cases hi : s1.is 45
              · have HB := Lib.hid hi
                clear hi
                go_quiet ((go_at_call 21; exact Calls.quiet_of (is_q _ g s s1 (HP.out.drewN _) 45 45 rfl HB.out)))
                go_wp2_with fail
                go_meet
                exact ⟨val_bool (ranges_no HB.out).symm, HI9.out.quiet _⟩
              · have HB := Lib.hid hi
                obtain ⟨at_, c0, c1, hat, hcase⟩ := HP.out.ahead hi
                clear hi
                rcases hcase with ⟨h1, h2⟩ | ⟨h1, ⟨h2, h3⟩ | ⟨h2, h3⟩⟩
                · have hd : decide ((at_ : Int) + 1 < (s.size : Int)) = false := by simp; omega
                  have HR := Lib.hid h2
                  clear h2
                  go_quiet ((go_at_call 21; exact Calls.quiet_of (is_q _ g s s1 (HP.out.drewN _) 45 45 rfl HB.out)))
                  go_wp2_with fail
                  go_meet
                  exact ⟨val_bool HR.out.symm, HI9.out.quiet _⟩
                · have hd : decide ((at_ : Int) + 1 < (s.size : Int)) = true := by simp; omega
                  have hx : (at_ : Int) + 1 < (s.size : Int) := by omega
                  have HR := Lib.hid h3
                  have hb : ((s[at_ + 1].toNat : Int) != 93) = false := by rw [h2]; rfl
                  have hx0 : (0 : Int) ≤ (at_ : Int) + 1 := by omega
                  have hxw : IntKind.i64.wrap ((at_ : Int) + 1) = (at_ : Int) + 1 := IntWalk.i64_in _ (by omega)
                  have hxt : ((at_ : Int) + 1).toNat = at_ + 1 := by omega
                  clear h2 h3
                  go_quiet ((go_at_call 21; exact Calls.quiet_of (is_q _ g s s1 (HP.out.drewN _) 45 45 rfl HB.out)))
                  go_wp2_with fail
                  go_meet
                  exact ⟨val_bool HR.out.symm, HI9.out.quiet _⟩
                · have hd : decide ((at_ : Int) + 1 < (s.size : Int)) = true := by simp; omega
                  have hx : (at_ : Int) + 1 < (s.size : Int) := by omega
                  have HR := Lib.hid h3
                  have hb : ((s[at_ + 1].toNat : Int) != 93) = true := by
                    rw [bne_iff_ne]
                    exact fun h => h2 (UInt8.toNat_inj.1 (by have : (93 : UInt8).toNat = 93 := rfl; omega))
                  have hx0 : (0 : Int) ≤ (at_ : Int) + 1 := by omega
                  have hxw : IntKind.i64.wrap ((at_ : Int) + 1) = (at_ : Int) + 1 := IntWalk.i64_in _ (by omega)
                  have hxt : ((at_ : Int) + 1).toNat = at_ + 1 := by omega
                  clear h2 h3
                  go_quiet ((go_at_call 21; exact Calls.quiet_of (is_q _ g s s1 (HP.out.drewN _) 45 45 rfl HB.out)))
                  go_wp2_with fail
                  go_meet
                  exact ⟨val_bool HR.out.symm, HI9.out.quiet _⟩
            case rest =>
              obtain ⟨rfl, hin10⟩ := hcut
              have HI10 := Lib.hid hin10
              clear hin10 HI9
              generalize hrb : s1.ranges = rb
              have hsec : s1.second a = if rb = true then s1.skip.member else (a, s1) := by rw [← hrb]; rfl
              have HRB := Lib.hid hrb
              have HSEC := Lib.hid hsec
              clear hrb hsec
              go_upto_if 62 with fail
              go_cut [6] (fun v wx => v = .int .u8 ((s1.second a).1.toNat : Int) ∧ InClass w g s (s1.second a).2 m wx)
              case first =>
                cases rb
                · go_wp2_with fail
                  go_meet
                  rw [HSEC.out]
                  exact ⟨rfl, HI10.out⟩
                · have hi45 : s1.is 45 = true := by
                    have := HRB.out
                    unfold St.ranges at this
                    rw [Bool.and_eq_true] at this
                    exact this.1
                  obtain ⟨at_, ha, c1, f1, H⟩ := HI10.out.1.step hs (is_rest hi45)
                  have HI11 := Lib.hid (HI10.out.skip hlt H)
                  clear H hi45
                  go_wp2_with (go_at_call 34; refine (member_any _ g s s1.skip HI11.out.1 hs).mono ?_; rintro e w11 ⟨rfl, hp11, hg11⟩)
                  go_meet
                  rw [HSEC.out]
                  exact ⟨rfl, HI11.out.call hlt hp11 hg11⟩
              case rest =>
                obtain ⟨rfl, hin12⟩ := hcut
                have HI12 := Lib.hid hin12
                clear hin12 HI10
                generalize hb1 : (s1.second a).1 = b
                generalize hb2 : (s1.second a).2 = s2 at HI12
                have HB1 := Lib.hid hb1
                have HB2 := Lib.hid hb2
                clear hb1 hb2
                have ha256 := a.toNat_lt
                have hb256 := b.toNat_lt
                go_upto_if 74 with fail
                go_cut [] (fun wx => InClass w g s (s2.order a b) m wx)
                case first =>
                  by_cases hab : b.toNat < a.toNat
                  · have ho : s2.order a b = s2.fails 3 := by unfold St.order; rw [if_pos (UInt8.lt_iff_toNat_lt.2 hab)]
                    have HO := Lib.hid ho
                    clear ho
                    go_wp2_with (go_at_call 18; refine (fails_any _ g s s2 HI12.out.1 3 _ rfl).mono ?_; rintro e w13 ⟨rfl, hp13, hg13⟩)
                    go_meet
                    show InClass w g s (s2.order a b) m _
                    rw [HO.out]
                    exact HI12.out.call hlt hp13 hg13
                  · have ho : s2.order a b = s2 := by unfold St.order; rw [if_neg (fun h => hab (UInt8.lt_iff_toNat_lt.1 h))]
                    have HO := Lib.hid ho
                    clear ho
                    go_wp2_with fail
                    go_meet
                    show InClass w g s (s2.order a b) m _
                    rw [HO.out]
                    exact HI12.out
                case rest =>
                  have HI13 := Lib.hid hcut
                  clear hcut HI12
                  obtain ⟨wo, hwo⟩ : ∃ wo : World, wo = wc := ⟨_, rfl⟩
                  subst hwo
                  generalize hs3 : s2.order a b = s3 at HI13
                  have HS3 := Lib.hid hs3
                  clear hs3
                  go_wp2_with fail
                  go_loopg [7] (b.toNat + 1 - a.toNat) (fun q c wx => ∃ j : Nat, c = .int .i64 ((a.toNat + j : Nat) : Int) ∧ q + j = b.toNat + 1 - a.toNat ∧ InClass w g s s3 (addBits m a.toNat j) wx)
                  case atStart => exact ⟨0, rfl, rfl, HI13.out⟩
                  case round =>
                    obtain ⟨j, rfl, hqj, hinj⟩ := hrel
                    have HIJ := Lib.hid hinj
                    clear hinj
                    by_cases hj : a.toNat + j ≤ b.toNat
                    · go_wp2_with (go_at_call 32; refine (has_nat _ _ _ HIJ.out.2.1 (a.toNat + j) (by omega) _ (by omega)).mono ?_; rintro e w14 ⟨rfl, hb14, hg14⟩)
                      go_roundg (gk - 1)
                      case measure => omega
                      case rel => exact ⟨j + 1, by go_num, by omega, HIJ.out.has hlt hb14 hg14⟩
                    · have hjj : j = b.toNat + 1 - a.toNat := by omega
                      have hle3 := (order_le s2 a b).len
                      have hle2 := (second_le s1 a).len
                      rw [HB2.out] at hle2
                      rw [HS3.out] at hle3
                      rw [HMS.out] at hlt2
                      have HJ := Lib.hid hjj
                      clear hjj hqj
                      go_wp2_with fail
                      go_roundg (gk1 - 1)
                      case measure => omega
                      case rel =>
                        refine ⟨s3, addBits m a.toNat (b.toNat + 1 - a.toNat), by rw [← HJ.out]; exact HIJ.out, addBits_lt HM.out (by omega), by omega, fun f r hf => ?_⟩
                        refine HK.out (f + 1) r ?_
                        rw [classLoop_go HE.out HC.out, HMA.out, HMS.out, HB1.out, HB2.out, HS3.out]
                        exact hf
          · have HC := Lib.hid hcl
            clear hcl
            have hdone : classLoop 1 sx m = some (m, sx) := by rw [classLoop, if_pos (by rw [HC.out]; simp)]
            obtain ⟨fl, hfl⟩ := HK.out 1 (m, sx) hdone
            have HF := Lib.hid hfl
            clear hfl hdone
            go_wp2_with (first | (go_at_call 17; refine (ends_k _ g s sx HI.out.1).mono ?_; rw [HE.out]; rintro e w7 ⟨rfl, hp7, hg7⟩; have HI7 := Lib.hid (HI.out.call hlt hp7 hg7); clear HI hp7 hg7) | (go_at_call 21; refine (is_k _ g s sx HI7.out.1 93 93 rfl).mono ?_; rw [HC.out]; rintro e w8 ⟨rfl, hp8, hg8⟩; have HI8 := Lib.hid (HI7.out.call hlt hp8 hg8); clear HI7 hp8 hg8) | (go_at_call 29; refine (next_any _ g s sx HI8.out.1 hs).mono ?_; rintro e w20 ⟨rfl, hp20, hg20⟩; have HI20 := Lib.hid (HI8.out.call hlt hp20 hg20); clear HI8 hp20 hg20))
            go_loopg [90] 4 (fun q i wx => ∃ k : Nat, i = .int .i64 (k : Int) ∧ q + k = 4 ∧ InTail w g s sx.next.2 m nb k wx)
            case atStart => exact ⟨0, rfl, rfl, by unfold InTail; rw [cellsC_start]; exact HI20.out⟩
            case round =>
              obtain ⟨k, rfl, hqk, hint⟩ := hrel
              by_cases hk4 : k < 4
              · cases nb
                · have HT := Lib.hid hint
                  clear hint
                  go_wp2_with fail
                  go_roundg (gk - 1)
                  case measure => omega
                  case rel => exact ⟨k + 1, by go_num, by omega, by simpa [InTail, cellsC, wordC] using HT.out⟩
                · have cx : wr.cell? ⟨w.heap.size + 1, 1 + k, none⟩ = some (.int .u64 (word m k : Int)) := by
                    rw [hint.2.1.cell (1 + k)]
                    simpa using cellsC_at (m := m) hk4
                  have fx := hint.2.1.frozen (1 + k)
                  have HT := Lib.hid hint
                  clear hint
                  go_wp2_with fail
                  go_roundg (gk - 1)
                  case measure => omega
                  case rel => exact ⟨k + 1, by go_num, by omega, HT.out.turn hlt hk4⟩
              · obtain rfl : k = 4 := by omega
                have HT := Lib.hid hint
                clear hint
                go_wp2_with (first
                  | (refine wpList_load_mid rfl 31 (.tmp 3) rfl (w.heap.size + 1) 0 rfl (cellsC m nb 4) _ ?_ Try.underlying31 rfl (by kernel_rfl) ?_; exact HT.out.2.1.range)
                  | (refine wpList_store_mid rfl 31 (.tmp 2) (.tmp 103) rfl w.heap.size 0 (cellsC m nb 4).toArray rfl rfl ?_ (by kernel_rfl) ?_ ?_; exact HT.out.2.2.1.there rfl; exact all_oneCell_toArray (cellsC_one m nb 4)))
                refine bodyPost_ret (v := .agg (cellsC m nb 4).toArray) (results_inst rfl rfl (World.rangeAt_setCells_same _ _ _ _ (HT.out.2.2.1.there rfl)) rfl) rfl ?_
                exact HT.out.ends hlt HM.out HF.out HNB.out
        · have HE := Lib.hid hen
          clear hen
          have hdone : classLoop 1 sx m = some (m, sx) := by rw [classLoop, if_pos (by rw [HE.out]; simp)]
          obtain ⟨fl, hfl⟩ := HK.out 1 (m, sx) hdone
          have HF := Lib.hid hfl
          clear hfl hdone
          go_wp2_with (first | (go_at_call 17; refine (ends_k _ g s sx HI.out.1).mono ?_; rw [HE.out]; rintro e w7 ⟨rfl, hp7, hg7⟩; have HI7 := Lib.hid (HI.out.call hlt hp7 hg7); clear HI hp7 hg7) | (go_at_call 29; refine (next_any _ g s sx HI7.out.1 hs).mono ?_; rintro e w20 ⟨rfl, hp20, hg20⟩; have HI20 := Lib.hid (HI7.out.call hlt hp20 hg20); clear HI7 hp20 hg20))
          go_loopg [90] 4 (fun q i wx => ∃ k : Nat, i = .int .i64 (k : Int) ∧ q + k = 4 ∧ InTail w g s sx.next.2 m nb k wx)
          case atStart => exact ⟨0, rfl, rfl, by unfold InTail; rw [cellsC_start]; exact HI20.out⟩
          case round =>
            obtain ⟨k, rfl, hqk, hint⟩ := hrel
            by_cases hk4 : k < 4
            · cases nb
              · have HT := Lib.hid hint
                clear hint
                go_wp2_with fail
                go_roundg (gk - 1)
                case measure => omega
                case rel => exact ⟨k + 1, by go_num, by omega, by simpa [InTail, cellsC, wordC] using HT.out⟩
              · have cx : wr.cell? ⟨w.heap.size + 1, 1 + k, none⟩ = some (.int .u64 (word m k : Int)) := by
                  rw [hint.2.1.cell (1 + k)]
                  simpa using cellsC_at (m := m) hk4
                have fx := hint.2.1.frozen (1 + k)
                have HT := Lib.hid hint
                clear hint
                go_wp2_with fail
                go_roundg (gk - 1)
                case measure => omega
                case rel => exact ⟨k + 1, by go_num, by omega, HT.out.turn hlt hk4⟩
            · obtain rfl : k = 4 := by omega
              have HT := Lib.hid hint
              clear hint
              go_wp2_with (first
                | (refine wpList_load_mid rfl 31 (.tmp 3) rfl (w.heap.size + 1) 0 rfl (cellsC m nb 4) _ ?_ Try.underlying31 rfl (by kernel_rfl) ?_; exact HT.out.2.1.range)
                | (refine wpList_store_mid rfl 31 (.tmp 2) (.tmp 103) rfl w.heap.size 0 (cellsC m nb 4).toArray rfl rfl ?_ (by kernel_rfl) ?_ ?_; exact HT.out.2.2.1.there rfl; exact all_oneCell_toArray (cellsC_one m nb 4)))
              refine bodyPost_ret (v := .agg (cellsC m nb 4).toArray) (results_inst rfl rfl (World.rangeAt_setCells_same _ _ _ _ (HT.out.2.2.1.there rfl)) rfl) rfl ?_
              exact HT.out.ends hlt HM.out HF.out HNB.out
end Go.Proofs.Ythhgfahlamdgfaa
