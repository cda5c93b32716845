/- walk: there, ends. -/
import Derived.Test.YtakldmbbmefnbaaWalk5
namespace Go.Proofs.Ytakldmbbmefnbaa
open Go.RowKit
set_option maxRecDepth 100000
set_option maxHeartbeats 1000000

/-- How a call ends that leaves with an error unless something holds. -/
def needEnd (ok : Bool) (e : Int) : Ending := if ok then .returned (.tuple #[]) else .panicked (errPanic e)

theorem there_ok (b : Nat) (a : A) (vs vf ve vl : Value) (l : List Int) (w : World) (hk : Wk w b a vs vf ve) (hl : Ints w w.heap.size vl l) (hll : l.length ≤ 1000000) :
    Calls Try.prog 56 #[pw b, vl] w (fun r w' => r = needEnd (l.all (inB a.states)) 2 ∧ Below w.heap.size w w') := by
  obtain ⟨A0, c, rfl, hr⟩ := id hl
  have c0 := hk.c0
  clear hk hl
  go_enter Try.func56, Try.ntmps56
  go_wp2
  go_loopw [8] (fun i wr => ∃ k : Nat, k ≤ l.length ∧ i = .int .i64 k ∧ wr = w ∧ (l.take k).all (inB a.states) = true) (fun i _ => l.length - (intOf i).toNat)
  case atStart => exact ⟨0, Nat.zero_le _, rfl, rfl, by simp⟩
  case round =>
    obtain ⟨k, hkl, rfl, rfl, hall⟩ := hrel
    have HA := Lib.hid hall
    clear hall
    by_cases hlt : k < l.length
    · obtain ⟨lb, lo, rfl, hlb, hlc⟩ := hr (by omega)
      have hcell := cell1 encI_eq hlc hlt
      have hi : (k : Int) < l.length := by omega
      have htk : l.take (k + 1) = l.take k ++ [l[k]] := List.take_succ_eq_append_getElem hlt
      have hmem : l[k] ∈ l := List.getElem_mem hlt
      generalize hx : l[k] = x at *
      have HT := Lib.hid (And.intro htk hmem)
      clear hr hlc htk hmem hx
      by_cases h0 : 0 ≤ x
      · by_cases h1 : x < a.states
        · have hb : inB a.states x = true := by simp [inB, h0, h1]
          have HB := Lib.hid hb
          clear hb
          go_wp2_with (go_at_call 88; refine (need_ok _ _).mono ?_; rintro e w1 ⟨rfl, rfl⟩)
          go_roundw
          case rel => exact ⟨k + 1, by omega, by go_num, by trivial, by rw [HT.out.1, List.all_append, HA.out]; simp [HB.out]⟩
          case measure => simp [intOf]; omega
        · have hb : l.all (inB a.states) = false := by
            rw [List.all_eq_false]
            exact ⟨x, HT.out.2, by simp [inB]; omega⟩
          have HB := Lib.hid hb
          clear hb
          go_wp2_with (go_at_call 88; refine (need_no _ _).mono ?_; rintro e w1 ⟨rfl, rfl⟩)
          exact ⟨rfl, by rw [HB.out]; rfl, Below.refl _ _⟩
      · have hb : l.all (inB a.states) = false := by
            rw [List.all_eq_false]
            exact ⟨x, HT.out.2, by simp [inB]; omega⟩
        have HB := Lib.hid hb
        clear hb
        go_wp2_with (go_at_call 88; refine (need_no _ _).mono ?_; rintro e w1 ⟨rfl, rfl⟩)
        exact ⟨rfl, by rw [HB.out]; rfl, Below.refl _ _⟩
    · clear hr
      go_wp2
      go_end0
      have hh := HA.out
      rw [List.take_of_length_le (by omega)] at hh
      exact ⟨by rw [hh]; rfl, Below.refl _ _⟩

/-- Is there a final among states? -/
def A.ends (a : A) (l : List Int) : Bool := l.any (fun s => a.final.any (fun x => s == x))

theorem ends1_pred (b : Nat) (a : A) (vs vf ve : Value) (ha : Fit a) (bb : Nat) (w : World) (hk : Wk w b a vs vf ve) (h1 : w.cell? ⟨bb, 0, none⟩ = some (pw b)) :
    Pred1 Try.prog (fun x => .int .i64 x) (.func (.func 95) #[] #[pw bb]) (fun _ => True) (fun s => a.final.any (fun x => s == x)) w := by
  refine ⟨_, _, rfl, Try.call95, fun W s _ hW => ?_⟩
  have q1 := (hW.cell (p := ⟨bb, 0, none⟩) (World.block_lt_of_cell? _ _ h1)).trans h1
  have hkW := hk.below hW
  have hc := contains_int vf a.final s W hkW.fa.f ha.f
  have c2 := hkW.c2
  obtain ⟨A0, c, rfl, _⟩ := id hkW.fa.f
  show Calls _ _ _ _ (fun r W' => r = .returned (.bool (a.final.any (fun x => s == x))) ∧ Below W.heap.size W W')
  generalize a.final.any (fun x => s == x) = res at *
  clear hkW hk h1 hW
  go_enter Try.func95, Try.ntmps95
  go_wp2_with (go_at_call 14; refine hc.mono ?_; rintro x w3 ⟨rfl, rfl⟩)
  go_ret
  exact ⟨rfl, Below.refl _ _⟩

theorem ends_ok (b : Nat) (a : A) (vs vf ve vl : Value) (l : List Int) (w : World) (hk : Wk w b a vs vf ve) (ha : Fit a) (hl : Ints w w.heap.size vl l) (hll : l.length ≤ 1000000) :
    Calls Try.prog 52 #[pw b, vl] w (fun r w' => r = .returned (.bool (a.ends l)) ∧ Below w.heap.size w w') := by
  obtain ⟨A0, c, rfl, _⟩ := id hl
  obtain ⟨W1, hW1⟩ : ∃ W1, w.alloc (.cells #[pw b] 71) = W1 := ⟨_, rfl⟩
  have d1 : Below w.heap.size w W1 := hW1 ▸ alloc1 w _
  have q1 : W1.cell? ⟨w.heap.size, 0, none⟩ = some (pw b) := by rw [← hW1, cell_new]; rfl
  have hp := ends1_pred b a vs vf ve ha w.heap.size W1 (hk.below d1) q1
  have hc := containsFunc_int _ _ l (fun _ => True) _ W1 (hl.below d1 d1.size) hp (fun _ _ => trivial) hll
  have hres : l.any (fun s => a.final.any (fun x => s == x)) = a.ends l := rfl
  rw [hres] at hc
  clear hres hp hk hl
  generalize a.ends l = res at *
  go_enter Try.func52, Try.ntmps52
  go_wp2_with (go_at_call 12; refine hc.mono ?_; rintro x w3 ⟨rfl, d3⟩)
  go_ret
  exact ⟨rfl, below_next d1 d3⟩
end Go.Proofs.Ytakldmbbmefnbaa
