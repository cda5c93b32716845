/- fa.Check: which automata may be. -/
import Derived.Test.YtakldmbbmefnbaaFa1
import Derived.Test.YtakldmbbmefnbaaSet1
import Derived.Outline
import Derived.Test.YtakldmbbmefnbaaRegion
namespace Go.Proofs.Ytakldmbbmefnbaa
open Go.RowKit

/-- Is there such a state? -/
def inB (st n : Int) : Bool := decide (0 ≤ n) && decide (n < st)
def mayE (st : Int) (e : E) : Bool := inB st e.src && inB st e.dst && (e.free == decide (e.set.count = 0))
def A.ok (a : A) : Bool := decide (0 ≤ a.states) && a.start.all (inB a.states) && a.final.all (inB a.states) && a.edges.all (mayE a.states)

theorem check1 (st : Int) (b : Nat) (w : World) (hb : b < w.heap.size) (hc : w.cell? ⟨b, 0, none⟩ = some (.int .i64 st)) :
    Pred1 Try.prog (fun x => .int .i64 x) (.func (.func 104) #[] #[.pointer (some ⟨b, 0, none⟩)]) (fun _ => True) (inB st) w := by
  refine ⟨_, _, rfl, Try.call104, fun W n hd hW => ?_⟩
  have hc' := (hW.cell (p := ⟨b, 0, none⟩) hb).trans hc
  clear hc
  by_cases h0 : 0 ≤ n
  · by_cases h1 : n < st
    · have hr : inB st n = true := by simp [inB, h0, h1]
      rw [hr]
      clear hr
      go_enter Try.func104, Try.ntmps104
      go_wp2
      go_ret
      exact ⟨by simp, Below.refl _ _⟩
    · have hr : inB st n = false := by simp [inB, h1]
      rw [hr]
      clear hr
      go_enter Try.func104, Try.ntmps104
      go_wp2
      go_ret
      exact ⟨by simp, Below.refl _ _⟩
  · have hr : inB st n = false := by simp [inB, h0]
    rw [hr]
    clear hr
    go_enter Try.func104, Try.ntmps104
    go_wp2
    go_ret
    exact ⟨rfl, Below.refl _ _⟩
set_option maxRecDepth 100000 in
set_option maxHeartbeats 1000000 in
theorem check2 (st : Int) (fv : Value) (b : Nat) (w : World) (hb : b < w.heap.size) (hc : w.cell? ⟨b, 0, none⟩ = some fv) (hp : Pred1 Try.prog (fun x => .int .i64 x) fv (fun _ => True) (inB st) w) :
    Pred1 Try.prog (fun x => vE x) (.func (.func 105) #[] #[.pointer (some ⟨b, 0, none⟩)]) (fun _ => True) (mayE st) w := by
  refine ⟨_, _, rfl, Try.call105, fun W n hd hW => ?_⟩
  have hc' := (hW.cell (p := ⟨b, 0, none⟩) hb).trans hc
  clear hc
  have hb' := Nat.lt_of_lt_of_le hb hW.size
  obtain ⟨k, lb, rfl, hen, hpc⟩ := id hp
  clear hp
  unfold vE
  go_enter Try.func105, Try.ntmps105
  go_wp2
  obtain ⟨W1, hW1⟩ : ∃ W1, W.alloc (.cells #[.int .i64 n.src, .int .i64 n.dst, .bool n.free, .int .u64 n.set.w0.toNat, .int .u64 n.set.w1.toNat, .int .u64 n.set.w2.toNat, .int .u64 n.set.w3.toNat] 55) = W1 := ⟨_, rfl⟩
  have hB1 : Below W.heap.size W W1 := hW1 ▸ alloc1 W _
  have hsz : W.heap.size < W1.heap.size := by rw [← hW1]; simp
  have hS : ∀ w', Below W1.heap.size W1 w' → Below W1.heap.size W1 w' ∧ w'.cell? ⟨b, 0, none⟩ = some (.func (.func k) #[] lb) ∧ w'.cell? ⟨W.heap.size, 0, none⟩ = some (.int .i64 n.src) ∧ w'.cell? ⟨W.heap.size, 1, none⟩ = some (.int .i64 n.dst) ∧ w'.cell? ⟨W.heap.size, 2, none⟩ = some (.bool n.free)
      ∧ w'.cell? ⟨W.heap.size, 3, none⟩ = some (.int .u64 n.set.w0.toNat) ∧ w'.cell? ⟨W.heap.size, 4, none⟩ = some (.int .u64 n.set.w1.toNat) ∧ w'.cell? ⟨W.heap.size, 5, none⟩ = some (.int .u64 n.set.w2.toNat) ∧ w'.cell? ⟨W.heap.size, 6, none⟩ = some (.int .u64 n.set.w3.toNat) := by
    intro w' h
    refine ⟨h, (h.cell (p := ⟨b, 0, none⟩) (by simp; omega)).trans ((hB1.cell (p := ⟨b, 0, none⟩) hb').trans hc'), ?_, ?_, ?_, ?_, ?_, ?_, ?_⟩
    all_goals (refine (h.cell (by simpa using hsz)).trans ?_; rw [← hW1, cell_new]; rfl)
  have hcall := fun W' x (h : Below W1.heap.size W1 W') => hpc W' x trivial (below_next hW (below_next hB1 h))
  have hcnt := fun W' => count_ok n.set W'
  unfold vS at hcnt
  rw [hW1]
  clear hpc hd hc' hb' hW hb hW1
  cases h1 : inB st n.src with
  | false =>
    have hq1 : ∀ W', Below W1.heap.size W1 W' → Calls Try.prog k (#[.int .i64 n.src] ++ lb) W' (fun r w' => r = .returned (.bool false) ∧ Below W'.heap.size W' w') := fun W' h => by have := hcall W' n.src h; rwa [h1] at this
    have hm : false = mayE st n := by simp [mayE, h1]
    have HM := Lib.hid hm
    clear hcall h1 hcnt hm
    refine wp_region_all (by kernel_rfl) (fun w' => Below W1.heap.size W1 w')
      { tmps := #[.agg #[.int .i64 n.src, .int .i64 n.dst, .bool n.free, .int .u64 n.set.w0.toNat, .int .u64 n.set.w1.toNat, .int .u64 n.set.w2.toNat, .int .u64 n.set.w3.toNat], .pointer (some ⟨b, 0, none⟩), .pointer (some ⟨W.heap.size, 0, none⟩), .bool false, .func (.func k) #[] lb, .pointer (some ⟨W.heap.size, 0, none⟩), .int .i64 n.src, .bool false, .bool false, undef, undef, undef, undef, .bool false, .bool false, undef, undef, undef, undef, undef, undef, undef, .bool false], defers := [] }
      (by kernel_rfl) (by kernel_rfl) (by kernel_rfl) rfl (Below.refl _ _).drew ?hstep ?hend
    case hstep =>
      intro w' hS1
      obtain ⟨_, hs0, hs1, hs2, hs3, hs4, hs5, hs6, hs7⟩ := hS w' hS1
      clear hS
      refine ⟨?_, ?_, ?_, ?_, ?_, ?_, ?_, ?_, ?_, ?_, ?_, ?_, ?_, ?_, ?_, ?_, ?_, ?_, ?_, ?_, trivial⟩
      all_goals first
        | exact stepOk_no rfl rfl
        | (refine stepOk_yes rfl ?_
           intro a K hK
           go_simp
           exact hK _ hS1)
        | (refine stepOk_yes rfl ?_
           intro a K hK
           go_simp
           refine (hq1 _ hS1).mono ?_
           rintro e w2 ⟨rfl, hb1⟩
           exact hK _ (below_next hS1 hb1))
    case hend =>
      intro w' hS1
      go_wp2
      go_ret
      exact ⟨congrArg (fun z => Ending.returned (.bool z)) HM.out, below_next hB1 hS1⟩
  | true =>
    have hq1 : ∀ W', Below W1.heap.size W1 W' → Calls Try.prog k (#[.int .i64 n.src] ++ lb) W' (fun r w' => r = .returned (.bool true) ∧ Below W'.heap.size W' w') := fun W' h => by have := hcall W' n.src h; rwa [h1] at this
    cases h2 : inB st n.dst with
    | false =>
      have hq2 : ∀ W', Below W1.heap.size W1 W' → Calls Try.prog k (#[.int .i64 n.dst] ++ lb) W' (fun r w' => r = .returned (.bool false) ∧ Below W'.heap.size W' w') := fun W' h => by have := hcall W' n.dst h; rwa [h2] at this
      have hm : false = mayE st n := by simp [mayE, h2]
      have HM := Lib.hid hm
      clear hcall h1 h2 hcnt hm
      refine wp_region_all (by kernel_rfl) (fun w' => Below W1.heap.size W1 w')
        { tmps := #[.agg #[.int .i64 n.src, .int .i64 n.dst, .bool n.free, .int .u64 n.set.w0.toNat, .int .u64 n.set.w1.toNat, .int .u64 n.set.w2.toNat, .int .u64 n.set.w3.toNat], .pointer (some ⟨b, 0, none⟩), .pointer (some ⟨W.heap.size, 0, none⟩), .bool false, .func (.func k) #[] lb, .pointer (some ⟨W.heap.size, 0, none⟩), .int .i64 n.src, .bool true, .bool true, .func (.func k) #[] lb, .pointer (some ⟨W.heap.size, 1, none⟩), .int .i64 n.dst, .bool false, .bool false, .bool false, undef, undef, undef, undef, undef, undef, undef, .bool false], defers := [] }
        (by kernel_rfl) (by kernel_rfl) (by kernel_rfl) rfl (Below.refl _ _).drew ?hstep ?hend
      case hstep =>
        intro w' hS1
        obtain ⟨_, hs0, hs1, hs2, hs3, hs4, hs5, hs6, hs7⟩ := hS w' hS1
        clear hS
        refine ⟨?_, ?_, ?_, ?_, ?_, ?_, ?_, ?_, ?_, ?_, ?_, ?_, ?_, ?_, ?_, ?_, ?_, ?_, ?_, ?_, trivial⟩
        all_goals first
          | exact stepOk_no rfl rfl
          | (refine stepOk_yes rfl ?_
             intro a K hK
             go_simp
             exact hK _ hS1)
          | (refine stepOk_yes rfl ?_
             intro a K hK
             go_simp
             refine (hq1 _ hS1).mono ?_
             rintro e w2 ⟨rfl, hb1⟩
             exact hK _ (below_next hS1 hb1))
          | (refine stepOk_yes rfl ?_
             intro a K hK
             go_simp
             refine (hq2 _ hS1).mono ?_
             rintro e w2 ⟨rfl, hb1⟩
             exact hK _ (below_next hS1 hb1))
      case hend =>
        intro w' hS1
        go_wp2
        go_ret
        exact ⟨congrArg (fun z => Ending.returned (.bool z)) HM.out, below_next hB1 hS1⟩
    | true =>
      have hq2 : ∀ W', Below W1.heap.size W1 W' → Calls Try.prog k (#[.int .i64 n.dst] ++ lb) W' (fun r w' => r = .returned (.bool true) ∧ Below W'.heap.size W' w') := fun W' h => by have := hcall W' n.dst h; rwa [h2] at this
      obtain ⟨c, hcc⟩ : ∃ c, n.set.count = c := ⟨_, rfl⟩
      rw [hcc] at hcnt
      have hm : (n.free == ((c : Int) == 0)) = mayE st n := by
        have hx : ((c : Int) == 0) = decide (n.set.count = 0) := by rw [hcc, Bool.eq_iff_iff]; simp
        simp [mayE, h1, h2, hx]
      have HM := Lib.hid hm
      clear hcall h1 h2 hm hcc
      refine wp_region_all (by kernel_rfl) (fun w' => Below W1.heap.size W1 w')
        { tmps := #[.agg #[.int .i64 n.src, .int .i64 n.dst, .bool n.free, .int .u64 n.set.w0.toNat, .int .u64 n.set.w1.toNat, .int .u64 n.set.w2.toNat, .int .u64 n.set.w3.toNat], .pointer (some ⟨b, 0, none⟩), .pointer (some ⟨W.heap.size, 0, none⟩), .bool (n.free == ((c : Int) == 0)), .func (.func k) #[] lb, .pointer (some ⟨W.heap.size, 0, none⟩), .int .i64 n.src, .bool true, .bool true, .func (.func k) #[] lb, .pointer (some ⟨W.heap.size, 1, none⟩), .int .i64 n.dst, .bool true, .bool true, .bool true, .pointer (some ⟨W.heap.size, 2, none⟩), .bool n.free, .pointer (some ⟨W.heap.size, 3, none⟩), .agg #[.int .u64 n.set.w0.toNat, .int .u64 n.set.w1.toNat, .int .u64 n.set.w2.toNat, .int .u64 n.set.w3.toNat], .int .i64 c, .bool ((c : Int) == 0), .bool (n.free == ((c : Int) == 0)), .bool (n.free == ((c : Int) == 0))], defers := [] }
        (by kernel_rfl) (by kernel_rfl) (by kernel_rfl) rfl (Below.refl _ _).drew ?hstep ?hend
      case hstep =>
        intro w' hS1
        obtain ⟨_, hs0, hs1, hs2, hs3, hs4, hs5, hs6, hs7⟩ := hS w' hS1
        clear hS
        refine ⟨?_, ?_, ?_, ?_, ?_, ?_, ?_, ?_, ?_, ?_, ?_, ?_, ?_, ?_, ?_, ?_, ?_, ?_, ?_, ?_, trivial⟩
        all_goals first
          | exact stepOk_no rfl rfl
          | (refine stepOk_yes rfl ?_
             intro a K hK
             go_simp
             exact hK _ hS1)
          | (refine stepOk_yes rfl ?_
             intro a K hK
             go_simp
             refine (hq1 _ hS1).mono ?_
             rintro e w2 ⟨rfl, hb1⟩
             exact hK _ (below_next hS1 hb1))
          | (refine stepOk_yes rfl ?_
             intro a K hK
             go_simp
             refine (hq2 _ hS1).mono ?_
             rintro e w2 ⟨rfl, hb1⟩
             exact hK _ (below_next hS1 hb1))
          | (refine stepOk_yes rfl ?_
             intro a K hK
             go_simp
             refine (hcnt _).mono ?_
             rintro e w2 ⟨rfl, hb1⟩
             exact hK _ (below_next hS1 hb1))
      case hend =>
        intro w' hS1
        go_wp2
        go_ret
        exact ⟨congrArg (fun z => Ending.returned (.bool z)) HM.out, below_next hB1 hS1⟩
end Go.Proofs.Ytakldmbbmefnbaa
