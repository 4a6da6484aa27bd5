/- takes: the steps behind a byte -/
import Derived.Test.YthhgfahlamdgfaaEnter
import Derived.Deep.OwnRows
namespace Go.Proofs.Ythhgfahlamdgfaa
open Go.RowKit

theorem bool_info : (Try.prog.info? 4).map (fun i => (i.zero, i.size, i.bytes)) = some (some (.bool false), 1, 1) := by kernel_rfl

theorem made_false (n : Nat) : madeCells #[.bool false] n = ((List.replicate n false).map Value.bool).toArray := by
  rw [List.map_replicate, ← toList_madeCells_one]

theorem bit_at (m c : Nat) : (bits .and .u64 ((word m (c / 64) : Int) / 2 ^ (c % 64)) 1 == 1) = m.testBit c := by
  have hw := word_lt m (c / 64)
  have h64 : (2 : Nat) ^ 64 = 18446744073709551616 := by decide
  have e1 : ((word m (c / 64) : Int) / 2 ^ (c % 64)) = ((word m (c / 64) / 2 ^ (c % 64) : Nat) : Int) := by
    rw [Int.natCast_ediv, Int.natCast_pow]; rfl
  have hlt : word m (c / 64) / 2 ^ (c % 64) < 2 ^ 64 := Nat.lt_of_le_of_lt (Nat.div_le_self _ _) hw
  have e2 := u64_and_nat (word m (c / 64) / 2 ^ (c % 64)) 1 (by omega) (by omega)
  have e3 : (word m (c / 64)).testBit (c % 64) = m.testBit c := by
    rw [word_bit, show 64 * (c / 64) + c % 64 = c by omega]
    simp [Nat.mod_lt]
  rw [Nat.testBit_eq_decide_div_mod_eq] at e3
  rw [e1, show (1 : Int) = ((1 : Nat) : Int) from rfl, e2, Nat.and_one_is_mod, ← e3, Bool.eq_iff_iff, beq_iff_eq, decide_eq_true_eq]
  omega

def newWays (w : World) (A : Option Addr) (c n : Nat) : World :=
  ((w.alloc (Obj.cells (madeCells #[.bool false] n) 4)).alloc (Obj.cells #[.slice A n c, .slice (some ⟨w.heap.size, 0, none⟩) n n, .bool false] 52))

theorem newWays_below (w : World) (A : Option Addr) (c n : Nat) : Below w.heap.size w (newWays w A c n) := ((Below.refl w.heap.size w).alloc (Nat.le_refl _) _).alloc (by simp) _
theorem newWays_ways {w : World} {B c : Nat} {A : Option Addr} {P : List Inst} (hr : Reads w B 7 A P.length (flatI P)) (hB : B ≤ w.heap.size) :
    Ways (newWays w A c P.length) w.heap.size (w.heap.size + 1) w.heap.size A c P (List.replicate P.length false) false := by
  have h1 := Blk.new w 4 (madeCells #[.bool false] P.length)
  have h2 := Blk.new (w.alloc (Obj.cells (madeCells #[.bool false] P.length) 4)) 52 #[.slice A P.length c, .slice (some ⟨w.heap.size, 0, none⟩) P.length P.length, .bool false]
  rw [show (w.alloc (Obj.cells (madeCells #[.bool false] P.length) 4)).heap.size = w.heap.size + 1 by simp] at h2
  refine ⟨h2, ?_, by simp, (hr.more hB).below (newWays_below w A c P.length), Nat.le_succ _, Nat.le_refl _⟩
  rw [← made_false]
  exact h1.alloc _

set_option maxRecDepth 100000 in
set_option maxHeartbeats 4000000 in
theorem takes_any (w : World) (B gw gb c : Nat) (ch : UInt8) (A : Option Addr) (P : List Inst) (M : List Bool) (d l : Bool) (hw : Ways w B gw gb A c P M d) (hP : Sound P) (hlen : P.length ≤ 1000) :
    Calls Try.prog 24 #[.pointer (some ⟨gw, 0, none⟩), .int .u8 (ch.toNat : Int), .bool l] w fun e w' => ∃ gw' gb' M' d', e = .returned (.pointer (some ⟨gw', 0, none⟩)) ∧ Ways w' B gw' gb' A c P M' d' ∧ Taken P ch l M P.length M' d' ∧ Below w.heap.size w w' := by
  have hgw := hw.1.lt
  have hgb := hw.2.1.lt
  have hBw : B ≤ w.heap.size := by have := hw.2.2.2.2.1; omega
  have hch := ch.toNat_lt
  have hmk := run_make_row' (P := Try.prog) 50 4 (.bool false) 1 Try.underlying50 bool_info rfl .i64 .i64 P.length (by omega) (by omega)
  have d0 : w.cell? ⟨gw, 0, none⟩ = some (.slice A P.length c) := by simpa using hw.1.cell 0
  have d1 : w.cell? ⟨gw, 1, none⟩ = some (.slice (some ⟨gb, 0, none⟩) P.length P.length) := by simpa using hw.1.cell 1
  go_enter Try.func24, Try.ntmps24
  go_upto_region 1 with fail
  go_region
  have HN : Ways (newWays w A c P.length).drew w.heap.size (w.heap.size + 1) w.heap.size A c P (List.replicate P.length false) false := newWays_ways hw.2.2.2.1 hBw
  have HB : Below w.heap.size w (newWays w A c P.length).drew := (newWays_below w A c P.length).drew
  unfold newWays at HN HB
  generalize ((w.alloc (Obj.cells (madeCells #[.bool false] P.length) 4)).alloc (Obj.cells #[.slice A P.length c, .slice (some ⟨w.heap.size, 0, none⟩) P.length P.length, .bool false] 52)).drew = wn at HN HB ⊢
  have HW := Lib.hid hw
  have HS := Lib.hid (Taken.start P ch l M)
  have hml : M.length = P.length := hw.2.2.1
  rw [hml] at HS
  have n1 : wn.cell? ⟨gw, 1, none⟩ = some (.slice (some ⟨gb, 0, none⟩) P.length P.length) := (HB.cell hgw).trans d1
  have HN := Lib.hid HN
  have HB := Lib.hid HB
  clear hmk d0 d1 hw
  go_wp2_with fail
  go_loopg [28] P.length (fun q i wx => ∃ (j : Nat) (M' : List Bool) (d' : Bool), i = .int .i64 (j : Int) ∧ q + j = P.length ∧ Ways wx w.heap.size (w.heap.size + 1) w.heap.size A c P M' d' ∧ Taken P ch l M j M' d' ∧ Below w.heap.size w wx)
  case atStart => exact ⟨0, _, _, rfl, rfl, HN.out, HS.out, HB.out⟩
  case round =>
    obtain ⟨j, M', d', rfl, hqj, hx, ht, hb⟩ := hrel
    have HX := Lib.hid hx
    have HT := Lib.hid ht
    have HX2 := Lib.hid hb
    by_cases hj : j < P.length
    · have hj' : (j : Int) < (P.length : Int) := by omega
      have hjm : j < M.length := by omega
      have db : wr.cell? ⟨gb, j, none⟩ = some (.bool M[j]) := by
        rw [hb.cell hgb, HW.out.2.1.cell j]
        simp [List.getElem?_eq_getElem hjm]
      have d0 : wr.cell? ⟨gw, 0, none⟩ = some (.slice A P.length c) := by
        rw [hb.cell hgw]; simpa using HW.out.1.cell 0
      obtain ⟨bl, o, rfl, hbl, hcell⟩ := Reads.inst hx.2.2.2.1 hj
      have p0 : wr.cell? ⟨bl, o + j * 7, none⟩ = some (.int .i64 ((P.getD j zeroI).kind : Int)) := hcell 0 (by omega)
      have p1 : wr.cell? ⟨bl, o + j * 7 + 1, none⟩ = some (.int .u64 (word (P.getD j zeroI).set 0 : Int)) := hcell 1 (by omega)
      have p2 : wr.cell? ⟨bl, o + j * 7 + 2, none⟩ = some (.int .u64 (word (P.getD j zeroI).set 1 : Int)) := hcell 2 (by omega)
      have p3 : wr.cell? ⟨bl, o + j * 7 + 3, none⟩ = some (.int .u64 (word (P.getD j zeroI).set 2 : Int)) := hcell 3 (by omega)
      have p4 : wr.cell? ⟨bl, o + j * 7 + 4, none⟩ = some (.int .u64 (word (P.getD j zeroI).set 3 : Int)) := hcell 4 (by omega)
      have p5 : wr.cell? ⟨bl, o + j * 7 + 5, none⟩ = some (.int .i64 ((P.getD j zeroI).x : Int)) := hcell 5 (by omega)
      have p6 : wr.cell? ⟨bl, o + j * 7 + 6, none⟩ = some (.int .i64 ((P.getD j zeroI).y : Int)) := hcell 6 (by omega)
      have hEat : Eats P ch j ↔ (P.getD j zeroI).kind = 1 ∧ (P.getD j zeroI).set.testBit ch.toNat = true := Iff.rfl
      have hq := hP j hj
      clear hx ht hb hcell
      generalize P.getD j zeroI = qq at p0 p1 p2 p3 p4 p5 p6 hEat hq
      have hset : ∀ q, q < 4 → (cellsI (qq))[1 + q]? = some (.int .u64 (word (qq).set q : Int)) := by
        intro q hq
        have hq4 : q = 0 ∨ q = 1 ∨ q = 2 ∨ q = 3 := by omega
        rcases hq4 with rfl | rfl | rfl | rfl <;> rfl
      obtain ⟨b, hbm⟩ : ∃ b, b = M[j] := ⟨_, rfl⟩
      rw [← hbm] at db
      have hinb : In M j ↔ b = true := by unfold In; rw [List.getElem?_eq_getElem hjm, hbm]; simp
      have hx1 := Blk.new wr 31 (cellsI (qq)).toArray
      have HXA : Ways (wr.alloc (Obj.cells (cellsI (qq)).toArray 31)) w.heap.size (w.heap.size + 1) w.heap.size (some ⟨bl, o, none⟩) c P M' d' :=
        HX.out.below ((Below.refl wr.heap.size wr).alloc (Nat.le_refl _) _) HX.out.1.lt HX.out.2.1.lt
      have HBA : Below w.heap.size w (wr.alloc (Obj.cells (cellsI (qq)).toArray 31)) := HX2.out.alloc HX2.out.size _
      have hcs : (cellsI (qq)).toArray = #[.int .i64 ((qq).kind : Int), .int .u64 (word (qq).set 0 : Int), .int .u64 (word (qq).set 1 : Int), .int .u64 (word (qq).set 2 : Int), .int .u64 (word (qq).set 3 : Int), .int .i64 ((qq).x : Int), .int .i64 ((qq).y : Int)] := rfl
      have HIN := Lib.hid hinb
      clear hbm hinb
      go_upto_region 6 with fail
      rw [← hcs]
      generalize wr.alloc (Obj.cells (cellsI qq).toArray 31) = wy at hx1 HXA HBA ⊢
      generalize wr.heap.size = gx at hx1 ⊢
      have e0 : wy.cell? ⟨gx, 0, none⟩ = some (.int .i64 (qq.kind : Int)) := by rw [hx1.cell 0]; rfl
      have eset : ∀ q, q < 4 → wy.cell? ⟨gx, 1 + q, none⟩ = some (.int .u64 (word qq.set q : Int)) := by
        intro q hq
        rw [hx1.cell (1 + q)]
        simpa using hset q hq
      clear hx1 hset hcs p0 p1 p2 p3 p4 p5 p6 db d0
      have HXA := Lib.hid HXA
      have HBA := Lib.hid HBA
      clear HX HX2
      obtain ⟨qs, hqs⟩ : ∃ qs, qs = qq.set := ⟨_, rfl⟩
      obtain ⟨qk, hqk⟩ : ∃ qk, qk = qq.kind := ⟨_, rfl⟩
      rw [← hqs] at eset hEat
      rw [← hqk] at e0 hq hEat
      have HE := Lib.hid hEat
      clear hEat hqs hqk
      have hes := eset (ch.toNat / 64) (by omega)
      have ESET := Lib.hid eset
      clear eset
      cases b
      · have ht := Lib.hid (HT.out.not (fun h => by have := HIN.out.1 h.1; cases this))
        go_wp2_with fail
        go_roundg (gk - 1)
        case measure => omega
        case rel => exact ⟨j + 1, M', d', by go_num, by omega, HXA.out, ht.out, HBA.out⟩
      · by_cases hk1 : qk = 1
        · subst hk1
          cases hbt : qs.testBit ch.toNat
          · have hbit := bit_at qs ch.toNat
            rw [hbt] at hbit
            have ht := Lib.hid (HT.out.not (fun h => by have := (HE.out.1 h.2).2; rw [hbt] at this; cases this))
            go_wp2_with fail
            go_roundg (gk - 1)
            case measure => omega
            case rel => exact ⟨j + 1, M', d', by go_num, by omega, HXA.out, ht.out, HBA.out⟩
          · have hbit := bit_at qs ch.toNat
            rw [hbt] at hbit
            have H1 := Lib.hid (HIN.out.2 rfl)
            have H2 := Lib.hid (HE.out.2 ⟨rfl, hbt⟩)
            have hj1 := hq.2.2.2.2 (by decide)
            clear hbt
            go_wp2_with fail
            refine (enter_any wy w.heap.size (w.heap.size + 1) w.heap.size c (j + 1) (some ⟨bl, o, none⟩) P M' d' false l HXA.out hP hlen hj1 HT.out.shut HT.out.isDone).mono ?_
            rintro e w2 ⟨rfl, M2, d2, hw2, hent, hb2⟩
            have ht := Lib.hid (HT.out.yes H1.out H2.out hent)
            have HW2 := Lib.hid hw2
            have HB2 := Lib.hid (HBA.out.trans hb2)
            clear hw2 hent hb2
            go_wp2_with fail
            go_roundg (gk - 1)
            case measure => omega
            case rel => exact ⟨j + 1, M2, d2, by go_num, by omega, HW2.out, ht.out, HB2.out⟩
        · have hk1' : ((qk : Int) == 1) = false := by rw [beq_eq_false_iff_ne]; omega
          have ht := Lib.hid (HT.out.not (fun h => hk1 (HE.out.1 h.2).1))
          go_wp2_with fail
          go_roundg (gk - 1)
          case measure => omega
          case rel => exact ⟨j + 1, M', d', by go_num, by omega, HXA.out, ht.out, HBA.out⟩
    · obtain rfl : j = P.length := by omega
      go_wp2_with fail
      go_ret
      exact ⟨_, _, M', d', rfl, ⟨HX.out.1, HX.out.2.1, HX.out.2.2.1, HW.out.2.2.2.1.below (HX2.out.mono hBw), by omega, hBw⟩, HT.out, HX2.out⟩
end Go.Proofs.Ythhgfahlamdgfaa
