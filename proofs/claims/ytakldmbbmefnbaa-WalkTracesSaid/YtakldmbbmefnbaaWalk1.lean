/- walk: need, the predicates on edges, and the iterator over edges. -/
import Derived.Test.YtakldmbbmefnbaaRange
import Derived.Test.YtakldmbbmefnbaaFa3
import Derived.Outline
namespace Go.Proofs.Ytakldmbbmefnbaa
open Go.RowKit

/-- A walker: a pointer to an automaton. -/
structure Wk (w : World) (b : Nat) (a : A) (vs vf ve : Value) : Prop where
  lt : b < w.heap.size
  c0 : w.cell? ⟨b, 0, none⟩ = some (.int .i64 a.states)
  c1 : w.cell? ⟨b, 1, none⟩ = some vs
  c2 : w.cell? ⟨b, 2, none⟩ = some vf
  c3 : w.cell? ⟨b, 3, none⟩ = some ve
  fa : FaAt w w.heap.size a vs vf ve

theorem FaAt.below {w w' : World} {B B' : Nat} {a : A} {vs vf ve : Value} (h : FaAt w B a vs vf ve) (hb : Below B w w') (hB : B ≤ B') : FaAt w' B' a vs vf ve := ⟨h.s.below hb hB, h.f.below hb hB, h.e.below hb hB⟩
theorem Wk.below {w w' : World} {b : Nat} {a : A} {vs vf ve : Value} (h : Wk w b a vs vf ve) (hb : Below w.heap.size w w') : Wk w' b a vs vf ve :=
  ⟨Nat.lt_of_lt_of_le h.lt hb.size, (hb.cell h.lt).trans h.c0, (hb.cell h.lt).trans h.c1, (hb.cell h.lt).trans h.c2, (hb.cell h.lt).trans h.c3, h.fa.below hb hb.size⟩

abbrev pw (b : Nat) : Value := .pointer (some ⟨b, 0, none⟩)

theorem need_ok (e : Int) (w : World) : Calls Try.prog 88 #[.bool true, .int .i64 e] w (fun r w' => r = .returned (.tuple #[]) ∧ w' = w) := by
  go_enter Try.func88, Try.ntmps88
  go_wp2
  go_end0
  exact ⟨rfl, rfl⟩
/-- The panic that an error of api's leaves by. -/
def errPanic (e : Int) : List PanicEntry := [{ v := .iface 29 (.int .i64 e), recovered := false }]
theorem need_no (e : Int) (w : World) : Calls Try.prog 88 #[.bool false, .int .i64 e] w (fun r w' => r = .panicked (errPanic e) ∧ w' = w) := by
  go_enter Try.func88, Try.ntmps88
  go_wp2
  exact ⟨rfl, rfl, rfl⟩

theorem free_pred (w : World) : Pred1 Try.prog vE (.func (.func 117) #[] #[]) (fun _ => True) (fun e => e.free) w := by
  refine ⟨_, _, rfl, Try.call117, fun W e _ _ => ?_⟩
  unfold vE
  go_enter Try.func117, Try.ntmps117
  go_wp2
  go_ret
  exact ⟨rfl, alloc1 _ _⟩
theorem each_pred (w : World) : Pred1 Try.prog vE (.func (.func 58) #[] #[]) (fun _ => True) (fun _ => true) w := by
  refine ⟨_, _, rfl, Try.call58, fun W e _ _ => ?_⟩
  unfold vE
  go_enter Try.func58, Try.ntmps58
  go_wp2
  go_ret
  exact ⟨rfl, by first | exact Below.refl _ _ | exact alloc1 _ _⟩

theorem edges_ok (b g : Nat) (lb : Array Value) (w : World) :
    Calls Try.prog 97 #[pw b, .func (.func g) #[] lb] w (fun r w' => r = .returned (.func (.func 118) #[] #[pw w.heap.size, pw (w.heap.size + 1)]) ∧
      w' = (w.alloc (.cells #[pw b] 71)).alloc (.cells #[.func (.func g) #[] lb] 87)) := by
  go_enter Try.func97, Try.ntmps97
  go_wp2
  go_ret
  exact ⟨rfl, rfl⟩

def fromTo (e : E) : Array Value := #[.int .i64 e.src, .int .i64 e.dst]

theorem filter_take {α : Type} (p : α → Bool) (xs : List α) {k : Nat} (hk : k < xs.length) : ((xs.take (k + 1)).filter p).length = ((xs.take k).filter p).length + (if p xs[k] then 1 else 0) := by
  rw [List.take_succ_eq_append_getElem hk, List.filter_append, List.length_append]
  cases h : p xs[k] <;> simp [h]
theorem filter_at {α : Type} (p : α → Bool) (xs : List α) {k : Nat} (hk : k < xs.length) (hp : p xs[k] = true) : ((xs.take k).filter p).length < (xs.filter p).length ∧ ∀ h, (xs.filter p)[((xs.take k).filter p).length]'h = xs[k] := by
  have h1 : xs = xs.take k ++ xs[k] :: xs.drop (k + 1) := by rw [← List.drop_eq_getElem_cons hk, List.take_append_drop]
  have h2 : xs.filter p = (xs.take k).filter p ++ xs[k] :: (xs.drop (k + 1)).filter p := by
    conv => lhs; rw [h1]
    rw [List.filter_append, List.filter_cons, if_pos hp]
  refine ⟨by rw [h2]; simp, fun h => ?_⟩
  simp only [h2]
  rw [List.getElem_append_right (Nat.le_refl _)]
  simp

set_option maxHeartbeats 1000000 in
theorem edges_iter (wb b1 b2 : Nat) (fv : Value) (a : A) (vs vf ve : Value) (p : E → Bool) (w0 : World) (hk : Wk w0 wb a vs vf ve) (hp : Pred1 Try.prog vE fv (fun _ => True) p w0) (hn : a.edges.length ≤ 1000000) :
    IterAt Try.prog 118 #[pw b1, pw b2] ((a.edges.filter p).map fromTo) (fun W => Below w0.heap.size w0 W ∧ W.cell? ⟨b1, 0, none⟩ = some (pw wb) ∧ W.cell? ⟨b2, 0, none⟩ = some fv) := by
  intro l I J w hI hJ hD hY h0
  obtain ⟨k0, lb, rfl, hen, hpc⟩ := id hp
  obtain ⟨A0, c, rfl, hr⟩ := id hk.fa.e
  have hY' : ∀ k (h : k < (a.edges.filter p).length) W, I k W → YieldAt Fence.wide 0 Try.prog l #[.int .i64 (a.edges.filter p)[k].src, .int .i64 (a.edges.filter p)[k].dst] W fun e W' => (e = .returned (.bool true) ∧ I (k + 1) W') ∨ (e = .returned (.bool false) ∧ J W') := by
    intro k h W hi
    have := hY k (by simpa using h) W hi
    rw [List.getElem_map] at this
    exact this
  rw [List.length_map]
  clear hY
  obtain ⟨hB0, hb1, hb2⟩ := hD 0 w h0
  have c3 := (hB0.cell (p := ⟨wb, 3, none⟩) hk.lt).trans hk.c3
  go_enter Try.func118, Try.ntmps118
  go_step3
  have hwf : ∀ f, Fence.wide.fn f := fun _ => trivial
  have hwd : Fence.wide.depth = none := rfl
  refine (wpIn_wide (n := 0)).1 ?_
  gi_wp2
  refine wpIn_label ?_
  gi_wp2
  clear hb1 hb2 c3 hB0
  gi_loopw [12] (fun i wr => ∃ k : Nat, k ≤ a.edges.length ∧ i = .int .i64 k ∧ I ((a.edges.take k).filter p).length wr) (fun i _ => a.edges.length - (intOf i).toNat)
  case atStart => exact ⟨0, Nat.zero_le _, rfl, h0⟩
  case round =>
    obtain ⟨k, hkl, rfl, hIk⟩ := hrel
    by_cases hlt : k < a.edges.length
    · obtain ⟨hB, hb1, hb2⟩ := hD _ wr hIk
      obtain ⟨b, o, rfl, hb, hc⟩ := hr (by omega)
      obtain ⟨hcell0, hcell1, hcell2, hcell3, hcell4, hcell5, hcell6⟩ := cell7 hc hlt
      replace hcell0 := (hB.cell (p := ⟨b, o + k * 7, none⟩) hb).trans hcell0
      replace hcell1 := (hB.cell (p := ⟨b, o + k * 7 + 1, none⟩) hb).trans hcell1
      replace hcell2 := (hB.cell (p := ⟨b, o + k * 7 + 2, none⟩) hb).trans hcell2
      replace hcell3 := (hB.cell (p := ⟨b, o + k * 7 + 3, none⟩) hb).trans hcell3
      replace hcell4 := (hB.cell (p := ⟨b, o + k * 7 + 4, none⟩) hb).trans hcell4
      replace hcell5 := (hB.cell (p := ⟨b, o + k * 7 + 5, none⟩) hb).trans hcell5
      replace hcell6 := (hB.cell (p := ⟨b, o + k * 7 + 6, none⟩) hb).trans hcell6
      have hft := filter_take p a.edges hlt
      have hfa := filter_at p a.edges hlt
      obtain ⟨W1, hW1⟩ : ∃ W1, wr.alloc (.cells #[.int .i64 a.edges[k].src, .int .i64 a.edges[k].dst, .bool a.edges[k].free, .int .u64 a.edges[k].set.w0.toNat, .int .u64 a.edges[k].set.w1.toNat, .int .u64 a.edges[k].set.w2.toNat, .int .u64 a.edges[k].set.w3.toNat] 55) = W1 := ⟨_, rfl⟩
      have hBW : Below wr.heap.size wr W1 := hW1 ▸ alloc1 wr _
      have hn1 : ∀ j, W1.cell? ⟨wr.heap.size, j, none⟩ = _ := fun j => hW1 ▸ cell_new wr _ _ j
      have e0 := hn1 0; have e1 := hn1 1; have e2 := hn1 2; have e3 := hn1 3; have e4 := hn1 4; have e5 := hn1 5; have e6 := hn1 6
      simp only [List.getElem?_toArray, List.getElem?_cons_zero, List.getElem?_cons_succ] at e0 e1 e2 e3 e4 e5 e6
      have lt1 := World.block_lt_of_cell? wr ⟨b1, 0, none⟩ hb1
      have lt2 := World.block_lt_of_cell? wr ⟨b2, 0, none⟩ hb2
      have g2 := (hBW.cell (p := ⟨b2, 0, none⟩) lt2).trans hb2
      have hI1 := hI _ _ _ hIk hBW
      have hcall := hpc W1 a.edges[k] trivial (below_next hB hBW)
      clear hr hc hp hk hpc hb1 hb2 hn1 lt1 lt2 hb hD hB hIk
      cases hpx : p a.edges[k] with
      | false =>
        rw [hpx] at hcall hft
        have HF := Lib.hid hft
        clear hY' hfa hft hpx
        gi_wp2
        refine (callsIn_wide.2 hcall).mono ?_
        rintro e w2 ⟨rfl, hb2⟩
        gi_wp2
        go_roundw
        case rel => exact ⟨k + 1, by omega, by go_num, by rw [HF.out]; exact hI _ _ _ hI1 hb2⟩
        case measure => simp [intOf]; omega
      | true =>
        rw [hpx] at hcall hft
        obtain ⟨hlf, hfe⟩ := hfa hpx
        have hfe := hfe hlf
        have HF := Lib.hid hft
        have hY1 := fun W => hY' _ hlf W
        rw [hfe] at hY1
        clear hY' hfe hft hpx hfa
        gi_wp2
        refine (callsIn_wide.2 hcall).mono ?_
        rintro e w2 ⟨rfl, hb2⟩
        obtain ⟨fn, tmps, assign, body, hy, hR⟩ := hY1 w2 (hI _ _ _ hI1 hb2)
        have s0 := World.block_lt_of_cell? _ _ e0
        have f0 := (hb2.cell (p := ⟨wr.heap.size, 0, none⟩) s0).trans e0
        have f1 := (hb2.cell (p := ⟨wr.heap.size, 1, none⟩) s0).trans e1
        clear hY1 e0 e1 e2 e3 e4 e5 e6 hW1 g2
        gi_wp2
        refine hR.mono ?_
        rintro e w3 (⟨rfl, hI3⟩ | ⟨rfl, hJ3⟩)
        · gi_wp2
          go_roundw
          case rel => exact ⟨k + 1, by omega, by go_num, by rw [HF.out]; exact hI3⟩
          case measure => simp [intOf]; omega
        · gi_wp2
          rw [Exit.noGoto_normal]
          go_end0
          exact ⟨⟨_, rfl⟩, .inr hJ3⟩
    · have : k = a.edges.length := by omega
      subst this
      rw [List.take_length] at hIk
      clear hr hp hk
      gi_wp2
      rw [Exit.noGoto_normal]
      go_end0
      exact ⟨⟨_, rfl⟩, .inl hIk⟩
end Go.Proofs.Ytakldmbbmefnbaa
