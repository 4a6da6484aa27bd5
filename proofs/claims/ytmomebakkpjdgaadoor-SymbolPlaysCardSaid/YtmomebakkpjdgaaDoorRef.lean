/- the reference's table -/
import Derived.Test.YtmomebakkpjdgaaDoorRefKnown
import Derived.OwnWalk
import Derived.Handy
namespace Go.Proofs.YtmomebakkpjdgaaDoor
open Go.RowKit Go.Maps

/-- the reference's table -/
def MTab (w : World) (B gm : Nat) (v : Value) (own : List (List UInt8)) : Prop :=
  Blk w gm 35 #[v] ∧ w.ownsRow B 9 1 v own.length (own.map strV) ∧ B ≤ gm ∧ own.length ≤ 1000

theorem MTab.below {w w' : World} {B gm : Nat} {v : Value} {own : List (List UInt8)} (h : MTab w B gm v own) (hk : Below w.heap.size w w') : MTab w' B gm v own :=
  ⟨(hk.block gm h.1.lt).trans h.1, ownsRow_heap h.2.1 (fun g hg => hk.block g (h.2.1.lt g hg).2), h.2.2⟩

theorem known_get {i : Nat} (h : i < 16) : (knownL.map strV)[i]? = some (.string (knownB i)) := by
  have hl : i < knownL.length := h
  unfold knownB
  simp [strV, List.getD, List.getElem?_eq_getElem hl]

theorem idx_first {L : List (List UInt8)} {l : List UInt8} {i : Nat} (hi : L[i]? = some l) (hno : ∀ k, k < i → L[k]? ≠ some l) : idx L l = some i := by
  induction L generalizing i with
  | nil => simp at hi
  | cons x L ih =>
    unfold idx
    cases i with
    | zero =>
      simp at hi
      rw [if_pos hi]
    | succ i =>
      have h0 : ¬ x = l := fun e => hno 0 (by omega) (by simp [e])
      rw [if_neg h0, ih (by simpa using hi) (fun k hk => by simpa using hno (k + 1) (by omega))]
      rfl
theorem idx_not {L : List (List UInt8)} {l : List UInt8} (hno : ∀ k, k < L.length → L[k]? ≠ some l) : idx L l = none := by
  refine idx_not_mem (fun hm => ?_)
  obtain ⟨k, hk, e⟩ := List.getElem_of_mem hm
  exact hno k hk (by rw [List.getElem?_eq_getElem hk, e])

def findV (own : List (List UInt8)) (l : List UInt8) : Int := match numOf own l with | some k => (k : Int) | none => -1

theorem run_index48 (w : World) (K : Array Value) (j : Nat) (s : ByteArray) (hj : j < 16) (hk : K[j]? = some (.string s)) : (Instr.index 48 (.agg K) (.int .i64 (j : Int))).run Tryd.prog w = .ok (.string s) w := by
  have h1 : (sizeOf 9).run Tryd.prog w = .ok 1 w := by kernel_rfl
  have h2 : ((0 : Int) ≤ (j : Int) ∧ (j : Int) < 16) := by omega
  simp [Instr.index, asIntOf, run_underlying Tryd.underlying48, h2, h1, hj, go_sem]
  rw [hk]; rfl

/-- the cells of a table's own texts -/
theorem own_cell {w : World} {B : Nat} {A : Option Addr} {c : Nat} {own : List (List UInt8)} (h : w.ownsRow B 9 1 (.slice A own.length c) own.length (own.map strV)) {j : Nat} (hj : j < own.length) :
    ∃ (sx : ByteArray) (g : Nat), sx.data.toList = own[j] ∧ w.cell? ⟨g, j, none⟩ = some (.string sx) ∧ A = some ⟨g, 0, none⟩ := by
  rcases h.2 with ⟨h1, h0⟩ | ⟨g, cap, cur, h1, _⟩
  · omega
  · injection h1 with h1 h2 h3
    subst h1 h3
    have h4 := h.cellAt j (by omega)
    refine ⟨⟨own[j].toArray⟩, g, rfl, ?_, rfl⟩
    rw [h4]
    simp [List.getElem?_eq_getElem hj]
    rfl

set_option maxRecDepth 100000 in
set_option maxHeartbeats 2000000 in
theorem find_any (w : World) (B gm : Nat) (v : Value) (own : List (List UInt8)) (s : ByteArray) (h : MTab w B gm v own) :
    Calls Tryd.prog 25 #[.pointer (some ⟨gm, 0, none⟩), .string s] w fun e w' => e = .returned (.int .i64 (findV own s.data.toList)) ∧ Below w.heap.size w w' := by
  obtain ⟨A, c, rfl, _⟩ := own_reads h.2.1
  go_enter Tryd.func25, Tryd.ntmps25
  go_wp2_with fail
  refine (refKnown_any w).mono ?_
  rintro e w1 ⟨rfl, hb1⟩
  have HT := Lib.hid (h.below hb1)
  have HB := Lib.hid hb1
  have hol := h.2.2.2
  obtain ⟨K, hK⟩ : ∃ K, (knownL.map strV).toArray = K := ⟨_, rfl⟩
  have HK : Hid (∀ i, i < 16 → K[i]? = some (.string (knownB i))) := Lib.hid (fun i hi => by rw [← hK]; simpa using known_get hi)
  have hKs : K.size = 16 := by rw [← hK]; rfl
  rw [hK]
  clear h hb1 hK
  go_wp2_with fail
  go_loopg [10] 16 (fun q i wx => ∃ j : Nat, i = .int .i64 (j : Int) ∧ q + j = 16 ∧ (∀ k, k < j → knownL[k]? ≠ some s.data.toList) ∧ wx = w1)
  case atStart => exact ⟨0, rfl, rfl, fun k hk => by omega, rfl⟩
  case round =>
    obtain ⟨j, rfl, hqj, hno, rfl⟩ := hrel
    have HNO := Lib.hid hno
    clear hno
    by_cases hj : j < 16
    · have hj' : (j : Int) < 16 := by omega
      have hix := run_index48 wr K j _ hj (HK.out j hj)
      have hget : knownL[j]? = some (knownB j).data.toList := by
        rw [knownB_list]; simp [List.getD, List.getElem?_eq_getElem (show j < knownL.length from hj)]
      generalize knownB j = x at hix hget
      have HG := Lib.hid hget
      clear hget
      by_cases hx : x.data.toList = s.data.toList
      · have hq := str_eq hx
        have HX := Lib.hid hx
        clear hx
        go_wp2_with fail
        go_ret
        refine ⟨?_, HB.out⟩
        have hn : numOf own s.data.toList = some j := by
          unfold numOf
          rw [idx_first (by rw [HG.out, HX.out]) HNO.out]
        unfold findV
        rw [hn]
        rfl
      · have hq := str_ne hx
        have HX := Lib.hid hx
        clear hx
        go_wp2_with fail
        go_roundg (gk - 1)
        case measure => omega
        case rel =>
          refine ⟨j + 1, by go_num, by omega, fun k hk => ?_, rfl⟩
          rcases Nat.lt_or_ge k j with h1 | h1
          · exact HNO.out k h1
          · obtain rfl : k = j := by omega
            rw [HG.out]
            exact fun e => HX.out (Option.some.inj e)
    · obtain rfl : j = 16 := by omega
      have c0 : wr.cell? ⟨gm, 0, none⟩ = some (.slice A own.length c) := by simpa using HT.out.1.cell 0
      have HNK := Lib.hid (show idx knownL s.data.toList = none from idx_not HNO.out)
      obtain ⟨wo, hwo⟩ : ∃ wo : World, wo = wr := ⟨_, rfl⟩
      subst hwo
      go_wp2_with fail
      go_loopg [24] own.length (fun q i wx => ∃ j : Nat, i = .int .i64 (j : Int) ∧ q + j = own.length ∧ (∀ k, k < j → own[k]? ≠ some s.data.toList) ∧ wx = wo)
      case atStart => exact ⟨0, rfl, rfl, fun k hk => by omega, rfl⟩
      case round =>
        obtain ⟨j, rfl, hqj, hno, rfl⟩ := hrel
        have HNO2 := Lib.hid hno
        clear hno
        by_cases hj : j < own.length
        · have hj' : (j : Int) < (own.length : Int) := by omega
          obtain ⟨x, g, hx1, hcell, rfl⟩ := own_cell HT.out.2.1 hj
          have HG := Lib.hid (show own[j]? = some x.data.toList by rw [hx1, List.getElem?_eq_getElem hj])
          clear hx1
          by_cases hx : x.data.toList = s.data.toList
          · have hq := str_eq hx
            have HX := Lib.hid hx
            clear hx
            go_wp2_with fail
            go_ret
            refine ⟨?_, HB.out⟩
            have hn : numOf own s.data.toList = some (1024 + j) := by
              unfold numOf
              rw [HNK.out, idx_first (by rw [HG.out, HX.out]) HNO2.out]
              rfl
            unfold findV
            rw [hn]
            go_num
          · have hq := str_ne hx
            have HX := Lib.hid hx
            clear hx
            go_wp2_with fail
            go_roundg (own.length - j - 1)
            case measure => omega
            case rel =>
              refine ⟨j + 1, by go_num, by omega, fun k hk => ?_, rfl⟩
              rcases Nat.lt_or_ge k j with h1 | h1
              · exact HNO2.out k h1
              · obtain rfl : k = j := by omega
                rw [HG.out]
                exact fun e => HX.out (Option.some.inj e)
        · obtain rfl : j = own.length := by omega
          go_wp2_with fail
          go_ret
          refine ⟨?_, HB.out⟩
          have hn : numOf own s.data.toList = none := by
            unfold numOf
            rw [HNK.out, idx_not HNO2.out]
            rfl
          unfold findV
          rw [hn]
          rfl
end Go.Proofs.YtmomebakkpjdgaaDoor
