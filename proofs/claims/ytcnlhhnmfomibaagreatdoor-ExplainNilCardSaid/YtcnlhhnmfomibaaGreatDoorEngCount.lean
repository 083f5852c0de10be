/- A part of the proof that the evaluator in EngC answers as the model does; no conditions. -/
import Derived.Test.YtcnlhhnmfomibaaGreatDoorEngN
import Derived.Test.YtcnlhhnmfomibaaGreatDoorProg
import Derived.Test.YtcnlhhnmfomibaaGreatDoorWMore
namespace Go.Eng
open Go.RowKit Go.Proofs Go.Proofs.YtcnlhhnmfomibaaGreatDoorW.PrintWords Go.Proofs.YtcnlhhnmfomibaaGreatDoorW.PrintLast Go.Proofs.YtcnlhhnmfomibaaGreatDoorW.PrintMore
set_option linter.unusedVariables false
set_option linter.unusedSimpArgs false
theorem wr64 (n : Int) (h : -9223372036854775808 ≤ n ∧ n ≤ 9223372036854775807) : wrap64 n = n := by unfold wrap64; omega
/-- one term's own fields, and where its operands lie -/
structure Rw where
  a : Int
  b : Int
  c : Int
  s : ByteArray
  A : Option Addr
  l : Nat
  cap : Nat
def RwAt (W : World) (A : Option Addr) (i : Nat) (x : Rw) : Prop := ∃ ad : Addr, A = some ad ∧ W.cell? (ad.add (i * 5)) = some (.int .i64 x.a) ∧ W.cell? ⟨(ad.add (i * 5)).block, (ad.add (i * 5)).off + 1, none⟩ = some (.int .i64 x.b) ∧
  W.cell? ⟨(ad.add (i * 5)).block, (ad.add (i * 5)).off + 2, none⟩ = some (.int .u64 x.c) ∧ W.cell? ⟨(ad.add (i * 5)).block, (ad.add (i * 5)).off + 3, none⟩ = some (.string x.s) ∧ W.cell? ⟨(ad.add (i * 5)).block, (ad.add (i * 5)).off + 4, none⟩ = some (.slice x.A x.l x.cap)
/-- a list of terms that can be read -/
inductive Rd (W : World) : Option Addr → Nat → Prop
  | mk (A : Option Addr) (n : Nat) (f : Nat → Rw) : n ≤ 9223372036854775807 → (∀ i, i < n → RwAt W A i (f i)) → (∀ i, i < n → Rd W (f i).A (f i).l) → Rd W A n
set_option maxHeartbeats 8000000 in
set_option maxRecDepth 100000 in
theorem count_calls {W : World} {A : Option Addr} {n : Nat} (hR : Rd W A n) : ∀ (a b c : Int) (s : ByteArray) (cap : Nat) (d l : Int) (w : World), Below W.heap.size W w →
    Calls Tryz.prog 11 #[.agg #[.int .i64 a, .int .i64 b, .int .u64 c, .string s, .slice A n cap], .int .i64 d, .int .i64 l] w fun e w' => (∃ r, e = .returned (.int .i64 r)) ∧ Below w.heap.size w w' := by
  induction hR with
  | mk A n f hn hc hr ih =>
  intro a b c s cap d l w hW
  have hu28 := Tryz.underlying28
  have HB := Aside0.mk (Below.refl w.heap.size w)
  go_enter Tryz.func11, Tryz.ntmps11
  go_upto_region 1 with (first | ((with_reducible refine gate_dst (N := 3) rfl ?_); refine box_event ?hg (N := 3) ?hd (cs := #[.int .i64 a, .int .i64 b, .int .u64 c, .string s, .slice A n cap]) (t := 28) ?hr ?_; (case hd => rfl); (case hg => rfl); (case hr => first | (go_simp; done) | (go_simp; rfl)); intro gb hg w5 hbox hb; have n0_ := Aside0.mk (below_step (by repeat (first | (with_reducible first | exact HB.out | apply below_alloc | apply pw_below_drewN | apply below_drew1) | exact HB.out)) hb); have n1_ := Aside0.mk (hbox); have n2_ := Aside0.mk ((by rw [hg]; exact (below_size (by repeat (first | (with_reducible first | exact HB.out | apply below_alloc | apply pw_below_drewN | apply below_drew1) | exact HB.out))) : w.heap.size ≤ gb)); clear HB; have HB := n0_; have BK := n1_; have GW := n2_; clear n0_ n1_ n2_; clear hb hbox hg))
  (try simp only [Act.put, List.setIfInBounds_toArray, List.set_cons_zero, List.set_cons_succ])
  go_cut [13] (fun v13 wc => ∃ (x13 : Bool), v13 = .bool x13 ∧ Aside0 (wc.heap[gb]? = some (.cells #[.int .i64 a, .int .i64 b, .int .u64 c, .string s, .slice A n cap] 28 (0, 0))) ∧ Aside0 (Below w.heap.size w wc))
  case first =>
    by_cases c6 : d < 1
    · have c6b0 : decide (d < 1) = true := decide_eq_true c6
      go_wp2
      go_meet
      case rel => exact ⟨true, (by first | rfl | (simp; done) | (simp [*]; done)), ⟨by (with_reducible repeat (first | refine blk_drewN ?_ _ | refine blk_drew ?_ | refine blk_alloc ?_ _)); exact BK.out⟩, ⟨by repeat (first | (with_reducible first | exact HB.out | apply below_alloc | apply pw_below_drewN | apply below_drew1 | refine below_set ?_ GW.out) | exact HB.out)⟩⟩
    · have c6b0 : decide (d < 1) = false := decide_eq_false c6
      go_wp2
      go_meet
      case rel => exact ⟨decide (l < 1), (by first | rfl | (simp; done) | (simp [*]; done)), ⟨by (with_reducible repeat (first | refine blk_drewN ?_ _ | refine blk_drew ?_ | refine blk_alloc ?_ _)); exact BK.out⟩, ⟨by repeat (first | (with_reducible first | exact HB.out | apply below_alloc | apply pw_below_drewN | apply below_drew1 | refine below_set ?_ GW.out) | exact HB.out)⟩⟩
  case rest =>
    obtain ⟨x13, rfl, BK, HB⟩ := hcut
    cases x13 with
    | true =>
      go_wp2
      go_ret
      exact ⟨⟨_, rfl⟩, by repeat (first | (with_reducible first | exact HB.out | apply below_alloc | apply pw_below_drewN | apply below_drew1 | refine below_set ?_ GW.out) | exact HB.out)⟩
    | false =>
      go_wp2
      go_loopg [2, 7] n (fun kq v2 v7 w' => ∃ (x2 : Int) (x7 : Int), v2 = .int .i64 x2 ∧ v7 = .int .i64 x7 ∧ Aside0 (0 ≤ x7 ∧ x7 + kq = n) ∧ Aside0 (w'.heap[gb]? = some (.cells #[.int .i64 a, .int .i64 b, .int .u64 c, .string s, .slice A n cap] 28 (0, 0))) ∧ Aside0 (Below w.heap.size w w'))
      case atStart => exact ⟨_, 0, rfl, rfl, ⟨by omega, by omega⟩, ⟨by (with_reducible repeat (first | refine blk_drewN ?_ _ | refine blk_drew ?_ | refine blk_alloc ?_ _)); exact BK.out⟩, ⟨by repeat (first | (with_reducible first | exact HB.out | apply below_alloc | apply pw_below_drewN | apply below_drew1 | refine below_set ?_ GW.out) | exact HB.out)⟩⟩
      case round =>
        obtain ⟨x2, x7, rfl, rfl, HK, BK, HB⟩ := hrel
        have hcz_0 : wr.cell? ⟨gb, 0, none⟩ = some (.int .i64 a) := (blk_cell BK.out 0).trans rfl
        have hcz_1 : wr.cell? ⟨gb, 1, none⟩ = some (.int .i64 b) := (blk_cell BK.out 1).trans rfl
        have hcz_2 : wr.cell? ⟨gb, 2, none⟩ = some (.int .u64 c) := (blk_cell BK.out 2).trans rfl
        have hcz_3 : wr.cell? ⟨gb, 3, none⟩ = some (.string s) := (blk_cell BK.out 3).trans rfl
        have hcz_4 : wr.cell? ⟨gb, 4, none⟩ = some (.slice A n cap) := (blk_cell BK.out 4).trans rfl
        have hfz_0 := blk_frozen BK.out 0
        have hfz_1 := blk_frozen BK.out 1
        have hfz_2 := blk_frozen BK.out 2
        have hfz_3 := blk_frozen BK.out 3
        have hfz_4 := blk_frozen BK.out 4
        cases gk with
        | zero =>
          have c8b0 : decide (x7 < (n : Int)) = false := decide_eq_false (by have := HK.out; omega)
          go_wp2
          go_ret
          exact ⟨⟨_, rfl⟩, by repeat (first | (with_reducible first | exact HB.out | apply below_alloc | apply pw_below_drewN | apply below_drew1 | refine below_set ?_ GW.out) | exact HB.out)⟩
        | succ k2 =>
          have c8b0 : decide (x7 < (n : Int)) = true := decide_eq_true (by have := HK.out; omega)
          by_cases c9 : x2 ≥ 0
          · have c9b0 : decide (0 ≤ x2) = true := decide_eq_true c9
            clear c9
            have p102 : 0 ≤ (x7 : Int) := HK.out.1
            have q102 : x7 < (n : Int) := by have := HK.out; omega
            have hlt : x7.toNat < n := by omega
            obtain ⟨ad, rfl, hx0, hx1, hx2, hx3, hx4⟩ := hc x7.toNat hlt
            replace hx0 := (hW.cell (World.block_lt_of_cell? W _ hx0)).trans hx0
            replace hx1 := (hW.cell (World.block_lt_of_cell? W _ hx1)).trans hx1
            replace hx2 := (hW.cell (World.block_lt_of_cell? W _ hx2)).trans hx2
            replace hx3 := (hW.cell (World.block_lt_of_cell? W _ hx3)).trans hx3
            replace hx4 := (hW.cell (World.block_lt_of_cell? W _ hx4)).trans hx4
            replace hx0 := (HB.out.cell (World.block_lt_of_cell? w _ hx0)).trans hx0
            replace hx1 := (HB.out.cell (World.block_lt_of_cell? w _ hx1)).trans hx1
            replace hx2 := (HB.out.cell (World.block_lt_of_cell? w _ hx2)).trans hx2
            replace hx3 := (HB.out.cell (World.block_lt_of_cell? w _ hx3)).trans hx3
            replace hx4 := (HB.out.cell (World.block_lt_of_cell? w _ hx4)).trans hx4
            have hW2 : Below W.heap.size W wr := below_then hW hW.size HB.out
            replace p102 := eq_true p102
            replace q102 := eq_true q102
            go_wp2_with (first | ((with_reducible refine gate_callee (f := 11) rfl ?_); refine goesL_ (some 35) rfl rfl Tryz.func11 (by kernel_rfl) rfl #[.agg #[.int .i64 (f x7.toNat).a, .int .i64 (f x7.toNat).b, .int .u64 (f x7.toNat).c, .string (f x7.toNat).s, .slice (f x7.toNat).A (f x7.toNat).l (f x7.toNat).cap], .int .i64 (wrap64 (d - 1)), .int .i64 x2] rfl (by (try simp only [List.map_toArray, List.map_cons, List.map_nil]); first | done | rfl | (simp only [List.length_drop, List.length_take]; rfl)) ?_; (with_reducible refine (ih x7.toNat hlt (f x7.toNat).a (f x7.toNat).b (f x7.toNat).c (f x7.toNat).s (f x7.toNat).cap (wrap64 (d - 1)) x2 _ ?side1).mono ?_); (case side1 => first | exact hW2 | (repeat (first | (with_reducible first | exact hW2 | apply below_alloc | apply pw_below_drewN | apply below_drew1) | exact hW2))); rintro e w13 ⟨⟨t103, rfl⟩, hb⟩; refine ⟨_, rfl, ?_⟩; have n0_ := Aside0.mk (blk_below (g := gb) (o := .cells #[.int .i64 a, .int .i64 b, .int .u64 c, .string s, .slice (some ad) n cap] 28 (0, 0)) (by (with_reducible repeat (first | refine blk_drewN ?_ _ | refine blk_drew ?_ | refine blk_alloc ?_ _)); exact BK.out) hb); have n1_ := Aside0.mk (below_step (by repeat (first | (with_reducible first | exact HB.out | apply below_alloc | apply pw_below_drewN | apply below_drew1 | refine below_set ?_ GW.out) | exact HB.out)) hb); clear BK; clear HB; have BK := n0_; have HB := n1_; clear n0_ n1_; (try clear hb)))
            go_roundg k2
            case measure => omega
            case rel => exact ⟨_, x7 + 1, rfl, (by rw [wr64 _ (by have := HK.out; omega)]), ⟨by have := HK.out; omega, by have := HK.out; omega⟩, ⟨by (with_reducible repeat (first | refine blk_drewN ?_ _ | refine blk_drew ?_ | refine blk_alloc ?_ _)); exact BK.out⟩, ⟨by repeat (first | (with_reducible first | exact HB.out | apply below_alloc | apply pw_below_drewN | apply below_drew1 | refine below_set ?_ GW.out) | exact HB.out)⟩⟩
          · have c9b0 : decide (0 ≤ x2) = false := decide_eq_false c9
            clear c9
            go_wp2
            go_ret
            exact ⟨⟨_, rfl⟩, by repeat (first | (with_reducible first | exact HB.out | apply below_alloc | apply pw_below_drewN | apply below_drew1 | refine below_set ?_ GW.out) | exact HB.out)⟩
end Go.Eng
