/- a table in memory; what a call keeps -/
import Derived.Test.YtmomebakkpjdgaaDoorNums
import Derived.Test.YtmomebakkpjdgaaDoorShelf
import Derived.WalkLawsBesides
import Derived.WalkSpells
namespace Go.Proofs.YtmomebakkpjdgaaDoor
open Go.RowKit Go.Maps

/-- what is kept: all but some blocks -/
structure Keeps (w w' : World) (F : Nat → Prop) : Prop where
  os : w'.os = w.os
  tape : w'.tape = w.tape
  output : w'.output = w.output
  size : w.heap.size ≤ w'.heap.size
  block : ∀ k, k < w.heap.size → ¬ F k → w'.heap[k]? = w.heap[k]?

def Nowhere (_ : Nat) : Prop := False
theorem Keeps.refl (w : World) (F : Nat → Prop) : Keeps w w F := ⟨rfl, rfl, rfl, Nat.le_refl _, fun _ _ _ => rfl⟩
theorem Keeps.mono {w w' : World} {F G : Nat → Prop} (h : Keeps w w' F) (hg : ∀ k, k < w.heap.size → F k → G k) : Keeps w w' G := ⟨h.os, h.tape, h.output, h.size, fun k hk hn => h.block k hk (fun hf => hn (hg k hk hf))⟩
theorem Keeps.trans {a b c : World} {F G : Nat → Prop} (h : Keeps a b F) (k : Keeps b c G) (hg : ∀ x, x < a.heap.size → G x → F x) : Keeps a c F :=
  ⟨k.os.trans h.os, k.tape.trans h.tape, k.output.trans h.output, Nat.le_trans h.size k.size, fun x hx hn => (k.block x (Nat.lt_of_lt_of_le hx h.size) (fun hf => hn (hg x hx hf))).trans (h.block x hx hn)⟩
theorem Keeps.alloc (w : World) (F : Nat → Prop) (o : Obj) : Keeps w (w.alloc o) F := ⟨rfl, rfl, rfl, by simp, fun k hk _ => Below.heap_alloc w o k hk⟩
theorem Keeps.setCell (w : World) {F : Nat → Prop} {p : Addr} (hp : F p.block) (u : Value) : Keeps w (w.setCell p u) F := ⟨rfl, rfl, rfl, by simp, fun k _ hn => Below.heap_setCell w p u k (fun e => hn (e ▸ hp))⟩
theorem Keeps.grown {w w' : World} {row : Option Nat} {F : Nat → Prop} (h : w.grownBy w' row) (hr : ∀ k, row = some k → F k) : Keeps w w' F := ⟨h.os, h.tape, h.output, h.size, fun k hk hn => h.block k hk (fun e => hn (hr k e.symm))⟩
theorem Keeps.of_below {w w' : World} (F : Nat → Prop) (h : Below w.heap.size w w') : Keeps w w' F := ⟨h.os, h.tape, h.output, h.size, fun k hk _ => h.block k hk⟩
theorem Keeps.below {w w' : World} {F : Nat → Prop} (h : Keeps w w' F) {B : Nat} (hB : B ≤ w.heap.size) (hF : ∀ k, F k → B ≤ k) : Below B w w' :=
  ⟨h.os, h.tape, h.output, h.size, fun k hk => h.block k (Nat.lt_of_lt_of_le hk hB) (fun hf => Nat.not_lt.2 (hF k hf) hk)⟩

theorem grown_setCell (w : World) (p : Addr) (u : Value) : w.grownBy (w.setCell p u) (some p.block) := ⟨rfl, rfl, rfl, by simp, fun k _ hn => Below.heap_setCell w p u k (fun e => hn (by rw [e]))⟩
theorem ownsRow_heap {w w' : World} {base size n : Nat} {e : TypeId} {v : Value} {xs : List Value} (h : w.ownsRow base e size v n xs) (hb : ∀ g, v.ownBlock = some g → w'.heap[g]? = w.heap[g]?) : w'.ownsRow base e size v n xs := by
  refine ⟨h.1, ?_⟩
  rcases h.2 with h | ⟨g, cap, cur, rfl, h1, h2, h3⟩
  · exact .inl h
  · exact .inr ⟨g, cap, cur, rfl, h1, (hb g rfl).trans h2, h3⟩

def strV (l : List UInt8) : Value := .string ⟨l.toArray⟩
theorem strV_list (s : ByteArray) : strV s.data.toList = .string s := by unfold strV; cases s; simp

/-- the blocks of a table -/
def Foot (gt bm : Nat) (v : Value) (k : Nat) : Prop := k = gt ∨ k = bm ∨ v.ownBlock = some k

def Tab (w : World) (B gt bm : Nat) (v : Value) (own : List (List UInt8)) : Prop :=
  Blk w gt 45 #[.map (some bm), v] ∧ w.ownsRow B 9 1 v own.length (own.map strV) ∧ NumMap w bm (16 + own.length) (numOf own) ∧ B ≤ gt ∧ B ≤ bm ∧ own.length ≤ 1000 ∧ Good own ∧ ∀ l ∈ own, l.length ≤ 256

theorem Tab.foot_lt {w : World} {B gt bm : Nat} {v : Value} {own : List (List UInt8)} (h : Tab w B gt bm v own) {k : Nat} (hk : Foot gt bm v k) : B ≤ k ∧ k < w.heap.size := by
  rcases hk with rfl | rfl | hk
  · exact ⟨h.2.2.2.1, h.1.lt⟩
  · exact ⟨h.2.2.2.2.1, h.2.2.1.lt⟩
  · exact h.2.1.lt k hk
theorem Tab.keeps {w w' : World} {B gt bm : Nat} {v : Value} {own : List (List UInt8)} {F : Nat → Prop} (h : Tab w B gt bm v own) (hk : Keeps w w' F) (hF : ∀ k, Foot gt bm v k → ¬ F k) : Tab w' B gt bm v own := by
  have hb : ∀ k, Foot gt bm v k → w'.heap[k]? = w.heap[k]? := fun k hf => hk.block k (h.foot_lt hf).2 (hF k hf)
  exact ⟨(hb gt (.inl rfl)).trans h.1, ownsRow_heap h.2.1 (fun g hg => hb g (.inr (.inr hg))), h.2.2.1.heap (hb bm (.inr (.inl rfl))), h.2.2.2⟩
theorem Tab.below {w w' : World} {B gt bm : Nat} {v : Value} {own : List (List UInt8)} (h : Tab w B gt bm v own) (hk : Below w.heap.size w w') : Tab w' B gt bm v own := h.keeps (Keeps.of_below Nowhere hk) (fun _ _ hf => hf)
theorem Tab.gt_ne_bm {w : World} {B gt bm : Nat} {v : Value} {own : List (List UInt8)} (h : Tab w B gt bm v own) : gt ≠ bm := by
  obtain ⟨es, clock, hm⟩ := h.2.2.1.is
  rintro rfl
  have h1 : w.heap[gt]? = _ := h.1
  rw [hm] at h1
  cases h1
theorem Tab.row_ne_bm {w : World} {B gt bm : Nat} {v : Value} {own : List (List UInt8)} (h : Tab w B gt bm v own) : v.ownBlock ≠ some bm := by
  obtain ⟨es, clock, hm⟩ := h.2.2.1.is
  rcases h.2.1.2 with ⟨rfl, _⟩ | ⟨g, cap, cur, rfl, _, hg, _⟩
  · simp [Value.ownBlock]
  · intro e
    have : g = bm := by simpa [Value.ownBlock] using e
    subst this
    rw [hm] at hg
    cases hg
theorem Tab.row_ne_gt {w : World} {B gt bm : Nat} {v : Value} {own : List (List UInt8)} (h : Tab w B gt bm v own) : v.ownBlock ≠ some gt := own_blk_ne h.2.1 h.1 (by decide)

/-- what a call that may take a text to the table's own leaves -/
def Took (w : World) (B gt bm : Nat) (v : Value) (own : List (List UInt8)) (w' : World) : Prop :=
  ∃ v', Tab w' B gt bm v' own ∧ Keeps w w' (Foot gt bm v) ∧ (v'.ownBlock = v.ownBlock ∨ ∃ k, w.heap.size ≤ k ∧ v'.ownBlock = some k)

theorem Took.same {w w' : World} {B gt bm : Nat} {v : Value} {own : List (List UInt8)} (h : Tab w B gt bm v own) (hk : Below w.heap.size w w') : Took w B gt bm v own w' := ⟨v, h.below hk, Keeps.of_below _ hk, .inl rfl⟩
theorem Took.trans {a b c : World} {B gt bm : Nat} {v v1 : Value} {own' : List (List UInt8)} (hk : Keeps a b (Foot gt bm v)) (hv : v1.ownBlock = v.ownBlock ∨ ∃ k, a.heap.size ≤ k ∧ v1.ownBlock = some k) (h2 : Took b B gt bm v1 own' c) : Took a B gt bm v own' c := by
  obtain ⟨v2, h3, h4, h5⟩ := h2
  refine ⟨v2, h3, hk.trans h4 ?_, ?_⟩
  · rintro k hlt (h | h | h)
    · exact .inl h
    · exact .inr (.inl h)
    · rcases hv with hv | ⟨q, hq, hv⟩
      · exact .inr (.inr (hv ▸ h))
      · rw [hv] at h; injection h; omega
  · rcases h5 with h5 | ⟨q, hq, h5⟩
    · rw [h5]; exact hv
    · exact .inr ⟨q, Nat.le_trans hk.size hq, h5⟩

theorem str_info : (Tryd.prog.info? 9).map (fun i => (i.zero, i.size, i.bytes)) = some (some (.string ByteArray.empty), 1, 16) := by kernel_rfl
theorem str_reads (w : World) (s : ByteArray) : Reads (w.alloc (Obj.cells #[.string s] 9)) (w.heap.size + 1) 1 (some ⟨w.heap.size, 0, none⟩) 1 [.string s] := by
  refine ⟨rfl, fun _ => ⟨_, rfl, Nat.lt_succ_self _, fun j u hj => ?_⟩⟩
  cases j with
  | zero =>
    have := (Blk.new w 9 #[.string s]).cell 0
    simpa [Addr.add] using this.trans hj
  | succ j => simp at hj
theorem own_reads {w : World} {base n size : Nat} {e : TypeId} {v : Value} {xs : List Value} (h : w.ownsRow base e size v n xs) : ∃ A c, v = .slice A n c ∧ Reads w w.heap.size size A n xs := by
  rcases h.2 with ⟨rfl, rfl⟩ | ⟨g, cap, cur, rfl, h1, h2, h3⟩
  · exact ⟨none, 0, rfl, Reads.of_own h⟩
  · exact ⟨_, cap, rfl, Reads.of_own h⟩

set_option maxHeartbeats 2000000 in
theorem takes_any (w : World) (B gt bm : Nat) (v : Value) (own : List (List UInt8)) (s : ByteArray) (h : Tab w B gt bm v own) (hs : s.size ≤ 256) (hno : numOf own s.data.toList = none) (hlen : own.length < 1000) :
    Calls Tryd.prog 21 #[.pointer (some ⟨gt, 0, none⟩), .string s] w fun e w' => e = .returned (.int .i64 ((1024 + own.length : Nat) : Int)) ∧ Took w B gt bm v (own ++ [s.data.toList]) w' := by
  obtain ⟨i0, hi, hz0, hz1, hz2⟩ := info_parts str_info
  have h' := h
  obtain ⟨hb, hown, ⟨D, hD, hf⟩, hBg, hBb, hlen2, hgood, hall⟩ := h'
  obtain ⟨A, c, rfl, _⟩ := own_reads hown
  have hBw : B ≤ w.heap.size := Nat.le_trans hBg (Nat.le_of_lt hb.lt)
  have c0 : w.cell? ⟨gt, 0, none⟩ = some (.map (some bm)) := by simpa using hb.cell 0
  have c1 : w.cell? ⟨gt, 1, none⟩ = some (.slice A own.length c) := by simpa using hb.cell 1
  have H := Lib.hid h
  have HD := Lib.hid hD
  have HF := Lib.hid hf
  clear h hb hown hD hf hgood hall
  go_enter Tryd.func21, Tryd.ntmps21
  go_wp2_with
    (first
      | (at_mapUpdate
         refine wpList_mapUpdate_own _ rfl _ _ _ 26 rfl 9 3 keyLaw Tryd.underlying26 _ bm (16 + own.length) D rfl HD.out (by unfold maxLen; omega) _ _ (.string s.data.toList) rfl rfl (key_mk (by unfold maxLen; omega)) _ [] (plainElem_int Tryd.underlying3 (WalkArith.wf_i64 (by omega))) ?_
         intro w1 hown1 hgrow1
         have hbk := H.out.1.grown hgrow1 (fun e => H.out.gt_ne_bm (by injection e))
         have hor := H.out.2.1.kept hgrow1 (.inr H.out.row_ne_bm)
         have hnm : NumMap w1 bm (16 + own.length + 1) (addNum (numOf own) s.data.toList (1024 + own.length)) := NumMap.put HD.out.isMap HF.out hown1
         have e1 : w1.cell? ⟨gt, 1, none⟩ = some (.slice A own.length c) := by simpa using hbk.cell 1
         have HK1 := Lib.hid (Keeps.grown (F := Foot gt bm (.slice A own.length c)) hgrow1 (fun k hk => by injection hk with hk; exact .inr (.inl hk.symm)))
         have hsz1 := hgrow1.size
         have HB1 := Lib.hid (hbk.alloc (Obj.cells #[.string s] 9))
         have HO1 := Lib.hid (hor.alloc (Obj.cells #[.string s] 9))
         have HN1 := Lib.hid hnm
         have HR := Lib.hid (str_reads w1 s)
         clear hbk hor hnm hown1 hgrow1)
      | (at_builtin
         refine wpList_append_any _ rfl (.tmp 22) (.tmp 24) _ rfl B 9 i0 _ 1 16 Tryd.underlying22 hi hz0 hz1 hz2 rfl (by omega) (.slice A own.length c) own.length (own.map strV) rfl HO1.out (w1.heap.size + 1) (some ⟨w1.heap.size, 0, none⟩) 1 1 [.string s] rfl HR.out (by intro u hu; rw [List.mem_singleton] at hu; subst hu; rfl) (by simp only [maxLen]; omega) (by omega) (by simp; omega) ?_
         intro v3 w3 hown3 hg3 hat3
         have hne := own_blk_ne HO1.out HB1.out (by decide)
         have hb3 := HB1.out.grown hg3 (fun e => hne e.symm)
         have hnm3 : NumMap w3 bm (16 + own.length + 1) (addNum (numOf own) s.data.toList (1024 + own.length)) := by
           refine HN1.out.heap ?_
           have h1 : (w1.alloc (Obj.cells #[.string s] 9)).heap[bm]? = w1.heap[bm]? := Below.heap_alloc w1 _ bm HN1.out.lt
           rw [← h1]
           exact hg3.block bm (by simp; exact Nat.lt_succ_of_lt HN1.out.lt) (fun e => H.out.row_ne_bm e.symm)
         have hkk : Keeps w w3 (Foot gt bm (.slice A own.length c)) := (HK1.out.trans (Keeps.alloc w1 (Foot gt bm (.slice A own.length c)) (Obj.cells #[.string s] 9)) (fun _ _ h => h)).trans (Keeps.grown hg3 (fun k hk => .inr (.inr hk))) (fun _ _ h => h)
         obtain ⟨A3, c3, rfl, _⟩ := own_reads hown3
         have f3 := hb3.frozen 1
         have d3 : w3.cell? ⟨gt, 1, none⟩ = some (.slice A own.length c) := by simpa using hb3.cell 1
         have hne3 := own_blk_ne hown3 hb3 (by decide)
         have HAT : Hid ((Value.slice A3 (own.length + 1) c3).ownBlock = (Value.slice A own.length c).ownBlock ∨ ∃ k, w.heap.size ≤ k ∧ (Value.slice A3 (own.length + 1) c3).ownBlock = some k) := Lib.hid (hat3.imp id (fun h => ⟨_, by simp; omega, h⟩))
         have H1 := Lib.hid (hb3.set_ 1 (.slice A3 (own.length + 1) c3))
         have hgs := grown_setCell w3 ⟨gt, 1, none⟩ (.slice A3 (own.length + 1) c3)
         have H2 := Lib.hid (hown3.kept hgs (.inr hne3))
         have H3 := Lib.hid (hnm3.heap (Below.heap_setCell w3 ⟨gt, 1, none⟩ (.slice A3 (own.length + 1) c3) bm (Ne.symm H.out.gt_ne_bm)))
         have H4 := Lib.hid (hkk.trans (Keeps.setCell w3 (F := Foot gt bm (.slice A own.length c)) (p := ⟨gt, 1, none⟩) (.inl rfl) (.slice A3 (own.length + 1) c3)) (fun _ _ h => h))
         clear hb3 hown3 hnm3 hkk hgs hg3 hat3 hne hne3))
  go_ret
  refine ⟨by go_num, _, ⟨by simpa using H1.out, ?_, ?_, hBg, hBb, ?_, H.out.2.2.2.2.2.2.1.snoc hno, ?_⟩, H4.out, HAT.out⟩
  · have := H2.out
    rw [List.length_append, List.map_append, List.map_cons, strV_list]
    exact this
  · have := H3.out
    rw [numOf_snoc hno, List.length_append]
    exact this
  · simp; omega
  · intro l hl
    rcases List.mem_append.1 hl with hl | hl
    · exact H.out.2.2.2.2.2.2.2 l hl
    · rw [List.mem_singleton] at hl
      subst hl
      simpa using hs
end Go.Proofs.YtmomebakkpjdgaaDoor
