/- the table and the reference's, side by side -/
import Derived.Test.YtmomebakkpjdgaaDoorSame
import Derived.Test.YtmomebakkpjdgaaDoorStays
namespace Go.Proofs.YtmomebakkpjdgaaDoor
open Go.RowKit Go.Maps

def Pair (w : World) (B gt bm : Nat) (v : Value) (gm : Nat) (vm : Value) (own ownm : List (List UInt8)) : Prop :=
  Tab w B gt bm v own ∧ MTab w B gm vm ownm ∧ ∀ k, Foot gt bm v k → ¬ MFoot gm vm k
def Rest (w w' : World) (gt bm : Nat) (v : Value) (gm : Nat) (vm : Value) : Prop := ∀ k, k < w.heap.size → ¬ Foot gt bm v k → ¬ MFoot gm vm k → w'.heap[k]? = w.heap[k]?

theorem Pair.below {w w' : World} {B gt bm gm : Nat} {v vm : Value} {own ownm : List (List UInt8)} (h : Pair w B gt bm v gm vm own ownm) (hk : Below w.heap.size w w') : Pair w' B gt bm v gm vm own ownm := ⟨h.1.below hk, h.2.1.below hk, h.2.2⟩
theorem MTab.foot_lt {w : World} {B gm : Nat} {v : Value} {own : List (List UInt8)} (h : MTab w B gm v own) {k : Nat} (hk : MFoot gm v k) : B ≤ k ∧ k < w.heap.size := by
  rcases hk with rfl | hk
  · exact ⟨h.2.2.1, h.1.lt⟩
  · exact h.2.1.lt k hk
theorem MTab.keeps {w w' : World} {B gm : Nat} {v : Value} {own : List (List UInt8)} {F : Nat → Prop} (h : MTab w B gm v own) (hk : Keeps w w' F) (hF : ∀ k, MFoot gm v k → ¬ F k) : MTab w' B gm v own :=
  ⟨(hk.block gm h.1.lt (hF gm (.inl rfl))).trans h.1, ownsRow_heap h.2.1 (fun g hg => hk.block g (h.2.1.lt g hg).2 (hF g (.inr hg))), h.2.2⟩
theorem MTab.up {w : World} {B B' gm : Nat} {v : Value} {own : List (List UInt8)} (h : MTab w B gm v own) (hB : B' ≤ B) : MTab w B' gm v own := ⟨h.1, row_le h.2.1 hB, Nat.le_trans hB h.2.2.1, h.2.2.2⟩
theorem Tab.up {w : World} {B B' gt bm : Nat} {v : Value} {own : List (List UInt8)} (h : Tab w B gt bm v own) (hB : B' ≤ B) : Tab w B' gt bm v own := ⟨h.1, row_le h.2.1 hB, h.2.2.1, Nat.le_trans hB h.2.2.2.1, Nat.le_trans hB h.2.2.2.2.1, h.2.2.2.2.2⟩

theorem Pair.took {w w' : World} {B gt bm gm : Nat} {v vm : Value} {own own' ownm : List (List UInt8)} (h : Pair w B gt bm v gm vm own ownm) (ht : Took w B gt bm v own' w') (hB : B ≤ w.heap.size) :
    ∃ v', Pair w' B gt bm v' gm vm own' ownm ∧ Below B w w' ∧ Rest w w' gt bm v gm vm := by
  have hbel := ht.below h.1 hB
  obtain ⟨v', h1, h2, h3⟩ := ht
  refine ⟨v', ⟨h1, h.2.1.keeps h2 (fun k hk hf => h.2.2 k hf hk), ?_⟩, hbel, fun k hk hf _ => h2.block k hk hf⟩
  rintro k (hk | hk | hk) hf
  · exact h.2.2 k (.inl hk) hf
  · exact h.2.2 k (.inr (.inl hk)) hf
  · rcases h3 with h3 | ⟨q, hq, h3⟩
    · exact h.2.2 k (.inr (.inr (h3 ▸ hk))) hf
    · rw [h3] at hk
      injection hk with hk
      have := (h.2.1.foot_lt hf).2
      omega
theorem Pair.mtook {w w' : World} {B gt bm gm : Nat} {v vm : Value} {own ownm ownm' : List (List UInt8)} (h : Pair w B gt bm v gm vm own ownm) (ht : MTook w B gm vm ownm' w') (hB : B ≤ w.heap.size) :
    ∃ vm', Pair w' B gt bm v gm vm' own ownm' ∧ Below B w w' ∧ Rest w w' gt bm v gm vm := by
  obtain ⟨v', h1, h2, h3⟩ := ht
  refine ⟨v', ⟨h.1.keeps h2 (fun k hk hf => h.2.2 k hk (.inl hf)), h1, ?_⟩, h2.below hB (fun k hk => (h.2.1.foot_lt (.inl hk)).1), fun k hk _ hf => h2.block k hk (fun e => hf (.inl e))⟩
  rintro k hk (hf | hf)
  · exact h.2.2 k hk (.inl hf)
  · rcases h3 k hf with h4 | h4
    · exact h.2.2 k hk (.inr h4)
    · have := (h.1.foot_lt hk).2
      omega

theorem add_yes (w : World) (B gt bm : Nat) (v : Value) (own : List (List UInt8)) (h : Tab w B gt bm v own) (A : Option Addr) (n c : Nat) (ss : List ByteArray) (hS : Strs w B A n ss) (hn : n ≤ 4611686018427387904) (hc : n ≤ c) (hall : AddAll own (listL ss)) :
    Calls Tryd.prog 14 #[.pointer (some ⟨gt, 0, none⟩), .slice A n c] w fun e w' => e = .returned (.bool true) ∧ Took w B gt bm v (own ++ listL ss) w' :=
  (add_any w B gt bm v own h A n c ss hS hn hc).mono fun _ _ h => h.elim (fun h => h.2) (fun h => absurd hall h.1)
theorem add_no (w : World) (B gt bm : Nat) (v : Value) (own : List (List UInt8)) (h : Tab w B gt bm v own) (A : Option Addr) (n c : Nat) (ss : List ByteArray) (hS : Strs w B A n ss) (hn : n ≤ 4611686018427387904) (hc : n ≤ c) (hall : ¬ AddAll own (listL ss)) :
    Calls Tryd.prog 14 #[.pointer (some ⟨gt, 0, none⟩), .slice A n c] w fun e w' => e = .returned (.bool false) ∧ w' = w :=
  (add_any w B gt bm v own h A n c ss hS hn hc).mono fun _ _ h => h.elim (fun h => absurd h.1 hall) (fun h => h.2)
theorem refAdd_yes (w : World) (B gm : Nat) (v : Value) (own : List (List UInt8)) (h : MTab w B gm v own) (A : Option Addr) (n c : Nat) (ss : List ByteArray) (hS : Strs w B A n ss) (hn : n ≤ 4611686018427387904) (hall : AddAll own (listL ss)) :
    Calls Tryd.prog 15 #[.pointer (some ⟨gm, 0, none⟩), .slice A n c] w fun e w' => e = .returned (.bool true) ∧ MTook w B gm v (own ++ listL ss) w' :=
  (refAdd_any w B gm v own h A n c ss hS hn).mono fun _ _ h => h.elim (fun h => h.2) (fun h => absurd hall h.1)
theorem refAdd_no (w : World) (B gm : Nat) (v : Value) (own : List (List UInt8)) (h : MTab w B gm v own) (A : Option Addr) (n c : Nat) (ss : List ByteArray) (hS : Strs w B A n ss) (hn : n ≤ 4611686018427387904) (hall : ¬ AddAll own (listL ss)) :
    Calls Tryd.prog 15 #[.pointer (some ⟨gm, 0, none⟩), .slice A n c] w fun e w' => e = .returned (.bool false) ∧ Below w.heap.size w w' :=
  (refAdd_any w B gm v own h A n c ss hS hn).mono fun _ _ h => h.elim (fun h => absurd h.1 hall) (fun h => h.2)

/-- Text of both, of a number -/
theorem text_both {own : List (List UInt8)} {n : Int} : ∃ (sx : ByteArray) (b : Bool), textV (textOf own n) = .tuple #[.string sx, .bool b] := ⟨⟨((textOf own n).getD []).toArray⟩, _, rfl⟩
end Go.Proofs.YtmomebakkpjdgaaDoor
