/- the law's own functions: wakes. -/
import Derived.Test.YtakldmbbmefnbaaFew
namespace Go.Proofs.Ytakldmbbmefnbaa
open Go.RowKit Go.Sort Go.Proofs
set_option maxRecDepth 100000
set_option maxHeartbeats 1000000

theorem three_small : Small three := ⟨by simp [three], by simp [three], by simp [three], by simp [three]⟩

/-- What has been got so far, each of all three states, still lies there. -/
structure Alls (w0 w : World) (vs : List Value) : Prop where
  b : Below w0.heap.size w0 w
  s : ∀ v ∈ vs, Ints w w.heap.size v [0, 1, 2]
theorem Alls.next {w0 w w' : World} {vs : List Value} (h : Alls w0 w vs) (d : Below w.heap.size w w') : Alls w0 w' vs :=
  ⟨below_next h.b d, fun v hv => (h.s v hv).below d d.size⟩
theorem Alls.add {w0 w : World} {vs : List Value} (h : Alls w0 w vs) {v : Value} (hv : Ints w w.heap.size v [0, 1, 2]) : Alls w0 w (v :: vs) :=
  ⟨h.b, fun u hu => by
    rcases List.mem_cons.1 hu with rfl | hu
    · exact hv
    · exact h.s u hu⟩

/-- Three states and no error. -/
def AllEnd (w' : World) (r : Ending) : Prop := ∃ A n c, r = .returned (.tuple #[.slice A n c, .int .i64 0]) ∧ Ints w' w'.heap.size (.slice A n c) [0, 1, 2]
theorem allEnd_of {w w' : World} {r : Ending} (h : IntsEnd w w' r (.ok [0, 1, 2])) : AllEnd w' r := by
  obtain ⟨v, rfl, ho⟩ := h
  have hs := ho.sl encI_len
  obtain ⟨A, n, c, rfl⟩ := ho.any
  exact ⟨A, n, c, rfl, hs⟩
theorem one_new (W : World) (n : Int) : Ints (W.alloc (.cells #[.int .i64 n] 3)) (W.heap.size + 1) (.slice (some ⟨W.heap.size, 0, none⟩) 1 1) [n] := Sl_one (enc := encI) (size := 1) W n _ _

theorem wk_closure (vs vf ve : Value) (W : World) (h : FaAt W W.heap.size three vs vf ve) :
    Calls Try.prog 35 #[vA three vs vf ve, .slice (some ⟨W.heap.size, 0, none⟩) 1 1] (W.alloc (.cells #[.int .i64 2] 3)) (fun r w' => AllEnd w' r ∧ Below (W.alloc (.cells #[.int .i64 2] 3)).heap.size (W.alloc (.cells #[.int .i64 2] 3)) w') := by
  refine (Closure_ok three vs vf ve _ [2] _ (h.below (alloc1 W _) (alloc1 W _).size) three_small (by simpa using one_new W 2) (by decide)).mono ?_
  rintro r w' ⟨h, hb⟩
  rw [if_pos three_ok'] at h
  unfold A.doClosure at h
  rw [if_pos (by decide), three_clo (by simp)] at h
  exact ⟨allEnd_of h, hb⟩
theorem wk_step (vs vf ve : Value) (W : World) (h : FaAt W W.heap.size three vs vf ve) :
    Calls Try.prog 19 #[vA three vs vf ve, .int .u8 97, .slice (some ⟨W.heap.size, 0, none⟩) 1 1] (W.alloc (.cells #[.int .i64 0] 3)) (fun r w' => AllEnd w' r ∧ Below (W.alloc (.cells #[.int .i64 0] 3)).heap.size (W.alloc (.cells #[.int .i64 0] 3)) w') := by
  refine (Step_ok three vs vf ve _ [0] 97 (by decide) _ (h.below (alloc1 W _) (alloc1 W _).size) three_small (by simpa using one_new W 0) (by decide)).mono ?_
  rintro r w' ⟨h, hb⟩
  rw [if_pos three_ok'] at h
  unfold A.doStep at h
  rw [if_pos (by decide), three_step0] at h
  exact ⟨allEnd_of h, hb⟩
theorem wk_reach (vs vf ve : Value) (W : World) (h : FaAt W W.heap.size three vs vf ve) :
    Calls Try.prog 17 #[vA three vs vf ve, .slice (some ⟨W.heap.size, 0, none⟩) 1 1] (W.alloc (.cells #[.int .i64 1] 3)) (fun r w' => AllEnd w' r ∧ Below (W.alloc (.cells #[.int .i64 1] 3)).heap.size (W.alloc (.cells #[.int .i64 1] 3)) w') := by
  refine (Reach_ok three vs vf ve _ [1] _ (h.below (alloc1 W _) (alloc1 W _).size) three_small (by simpa using one_new W 1) (by decide)).mono ?_
  rintro r w' ⟨h, hb⟩
  rw [if_pos three_ok'] at h
  unfold A.doReach at h
  rw [if_pos (by decide), three_reach1] at h
  exact ⟨allEnd_of h, hb⟩
theorem wk_live (vs vf ve : Value) (W : World) (h : FaAt W W.heap.size three vs vf ve) :
    Calls Try.prog 10 #[vA three vs vf ve] W (fun r w' => AllEnd w' r ∧ Below W.heap.size W w') := by
  refine (Live_ok three vs vf ve W h three_small).mono ?_
  rintro r w' ⟨h, hb⟩
  rw [if_pos three_ok', three_live] at h
  exact ⟨allEnd_of h, hb⟩
theorem wk_out (vs vf ve : Value) (W : World) (h : FaAt W W.heap.size three vs vf ve) :
    Calls Try.prog 35 #[vA three vs vf ve, .slice (some ⟨W.heap.size, 0, none⟩) 1 1] (W.alloc (.cells #[.int .i64 3] 3)) (fun r w' => r = .returned (.tuple #[.slice none 0 0, .int .i64 2]) ∧ Below (W.alloc (.cells #[.int .i64 3] 3)).heap.size (W.alloc (.cells #[.int .i64 3] 3)) w') := by
  refine (Closure_ok three vs vf ve _ [3] _ (h.below (alloc1 W _) (alloc1 W _).size) three_small (by simpa using one_new W 3) (by decide)).mono ?_
  rintro r w' ⟨h, hb⟩
  rw [if_pos three_ok'] at h
  unfold A.doClosure at h
  rw [if_neg (by decide)] at h
  exact ⟨h, hb⟩
theorem wk_takes (vs vf ve : Value) (W : World) (h : FaAt W W.heap.size three vs vf ve) :
    Calls Try.prog 15 #[vA three vs vf ve, .string ⟨#[97, 99, 98]⟩] W (fun r w' => r = .returned (.tuple #[.bool true, .int .i64 0]) ∧ Below W.heap.size W w') := by
  refine (Takes_ok three vs vf ve [97, 99, 98] W h three_small (by decide)).mono ?_
  rintro r w' ⟨h, hb⟩
  unfold TakesEnd at h
  rw [if_pos three_ok', three_ends3] at h
  exact ⟨h, hb⟩
theorem wk_takes_no (vs vf ve : Value) (W : World) (h : FaAt W W.heap.size three vs vf ve) :
    Calls Try.prog 15 #[vA three vs vf ve, .string ⟨#[]⟩] W (fun r w' => r = .returned (.tuple #[.bool false, .int .i64 0]) ∧ Below W.heap.size W w') := by
  refine (Takes_ok three vs vf ve [] W h three_small (by decide)).mono ?_
  rintro r w' ⟨h, hb⟩
  unfold TakesEnd at h
  rw [if_pos three_ok', three_ends0] at h
  exact ⟨h, hb⟩
theorem wk_first (vs vf ve : Value) (W : World) (h : FaAt W W.heap.size three vs vf ve) :
    Calls Try.prog 9 #[vA three vs vf ve] W (fun r w' => r = .returned (.tuple #[.string ⟨#[97]⟩, .int .i64 0]) ∧ Below W.heap.size W w') := by
  refine (First_ok three vs vf ve W h three_small).mono ?_
  rintro r w' ⟨h, hb⟩
  refine ⟨?_, hb⟩
  rcases h with ⟨h, _⟩ | ⟨_, ⟨word, rfl, h⟩ | ⟨_, h⟩⟩
  · rw [three_ok'] at h; cases h
  · rw [three_first h]
  · refine absurd ?_ (h [97])
    rw [← ends_after three_fit, three_after1]; rfl
theorem wk_bad (W : World) :
    Calls Try.prog 15 #[.agg #[.int .i64 0, .slice (some ⟨W.heap.size, 0, none⟩) 1 1, .slice none 0 0, .slice none 0 0], .string ⟨#[]⟩] (W.alloc (.cells #[.int .i64 0] 3)) (fun r w' => r = .returned (.tuple #[.bool false, .int .i64 260]) ∧ Below (W.alloc (.cells #[.int .i64 0] 3)).heap.size (W.alloc (.cells #[.int .i64 0] 3)) w') := by
  refine (Takes_ok ⟨0, [0], [], []⟩ _ _ _ [] _ ⟨by simpa using one_new W 0, Sl.nil none 0, Sl.nil none 0⟩ ⟨by simp, ⟨by simp, by simp, by simp⟩⟩ (by decide)).mono ?_
  rintro r w' ⟨h, hb⟩
  exact ⟨h, hb⟩
theorem wk_none (W : World) :
    Calls Try.prog 9 #[.agg #[.int .i64 1, .slice (some ⟨W.heap.size, 0, none⟩) 1 1, .slice none 0 0, .slice none 0 0]] (W.alloc (.cells #[.int .i64 0] 3)) (fun r w' => r = .returned (.tuple #[.string ⟨#[]⟩, .int .i64 4]) ∧ Below (W.alloc (.cells #[.int .i64 0] 3)).heap.size (W.alloc (.cells #[.int .i64 0] 3)) w') := by
  refine (First_ok ⟨1, [0], [], []⟩ _ _ _ _ ⟨by simpa using one_new W 0, Sl.nil none 0, Sl.nil none 0⟩ ⟨by simp, by simp, by simp, by simp⟩).mono ?_
  rintro r w' ⟨h, hb⟩
  refine ⟨?_, hb⟩
  rcases h with ⟨h, _⟩ | ⟨_, ⟨word, rfl, h⟩ | ⟨h, _⟩⟩
  · exact absurd h (by decide)
  · obtain ⟨_, _, t, ht, _⟩ := h.takes
    cases ht
  · exact h

theorem all_eq (v v' : Value) (W : World) (h : Ints W W.heap.size v [0, 1, 2]) (h' : Ints W W.heap.size v' [0, 1, 2]) :
    Calls Try.prog 18 #[v, v'] W (fun r w' => r = .returned (.bool true) ∧ Below W.heap.size W w') := by
  refine (equal_int v v' _ _ W h h' (by decide) (by decide)).mono ?_
  rintro r w' ⟨rfl, hb⟩
  exact ⟨rfl, hb⟩
theorem new_three (W : World) : Ints (W.alloc (.cells #[.int .i64 0, .int .i64 1, .int .i64 2] 3)) (W.alloc (.cells #[.int .i64 0, .int .i64 1, .int .i64 2] 3)).heap.size (.slice (some ⟨W.heap.size, 0, none⟩) 3 3) [0, 1, 2] := by
  have o : Own encI 1 3 (W.alloc (.cells #[.int .i64 0, .int .i64 1, .int .i64 2] 3)) 0 (.slice (some ⟨W.heap.size, 0, none⟩) 3 3) [0, 1, 2] := .inr ⟨_, 3, _, rfl, Nat.zero_le _, by decide, by decide, by decide, heap_alloc_new W _, by decide, rfl⟩
  exact o.sl encI_len

theorem wakes_ok (w : World) :
    Calls Try.prog 7 #[] w (fun r w' => r = .returned (.bool true) ∧ Below w.heap.size w w') := by
  have h0 : Alls w w [] := ⟨Below.refl _ _, by simp⟩
  go_enter Try.func7, Try.ntmps7
  go_wp2_with fail
  refine (three_ok _).mono ?_
  rintro e w1 ⟨⟨vs, vf, ve, rfl, hfa⟩, d1⟩
  replace h0 := h0.next d1
  clear d1
  go_wp2_with fail
  refine (wk_closure vs vf ve w1 hfa).mono ?_
  rintro e w2 ⟨⟨A1, n1, c1, rfl, hs⟩, d2⟩
  replace h0 := ((h0.next (alloc1 w1 _)).next d2).add hs
  clear d2 hs hfa
  go_wp2_with fail
  refine (three_ok _).mono ?_
  rintro e w3 ⟨⟨vs, vf, ve, rfl, hfa⟩, d1⟩
  replace h0 := h0.next d1
  clear d1
  go_wp2_with fail
  refine (wk_step vs vf ve w3 hfa).mono ?_
  rintro e w4 ⟨⟨A2, n2, c2, rfl, hs⟩, d2⟩
  replace h0 := ((h0.next (alloc1 w3 _)).next d2).add hs
  clear d2 hs hfa
  go_wp2_with fail
  refine (three_ok _).mono ?_
  rintro e w5 ⟨⟨vs, vf, ve, rfl, hfa⟩, d1⟩
  replace h0 := h0.next d1
  clear d1
  go_wp2_with fail
  refine (wk_takes vs vf ve w5 hfa).mono ?_
  rintro e w6 ⟨rfl, d2⟩
  replace h0 := h0.next d2
  clear d2 hfa
  go_wp2_with fail
  refine (three_ok _).mono ?_
  rintro e w7 ⟨⟨vs, vf, ve, rfl, hfa⟩, d1⟩
  replace h0 := h0.next d1
  clear d1
  go_wp2_with fail
  refine (wk_takes_no vs vf ve w7 hfa).mono ?_
  rintro e w8 ⟨rfl, d2⟩
  replace h0 := h0.next d2
  clear d2 hfa
  go_wp2_with fail
  refine (three_ok _).mono ?_
  rintro e w9 ⟨⟨vs, vf, ve, rfl, hfa⟩, d1⟩
  replace h0 := h0.next d1
  clear d1
  go_wp2_with fail
  refine (wk_first vs vf ve w9 hfa).mono ?_
  rintro e w10 ⟨rfl, d2⟩
  replace h0 := h0.next d2
  clear d2 hfa
  go_wp2_with fail
  refine (three_ok _).mono ?_
  rintro e w11 ⟨⟨vs, vf, ve, rfl, hfa⟩, d1⟩
  replace h0 := h0.next d1
  clear d1
  go_wp2_with fail
  refine (wk_live vs vf ve w11 hfa).mono ?_
  rintro e w12 ⟨⟨A3, n3, c3, rfl, hs⟩, d2⟩
  replace h0 := (h0.next d2).add hs
  clear d2 hs hfa
  go_wp2_with fail
  refine (three_ok _).mono ?_
  rintro e w13 ⟨⟨vs, vf, ve, rfl, hfa⟩, d1⟩
  replace h0 := h0.next d1
  clear d1
  go_wp2_with fail
  refine (wk_reach vs vf ve w13 hfa).mono ?_
  rintro e w14 ⟨⟨A4, n4, c4, rfl, hs⟩, d2⟩
  replace h0 := ((h0.next (alloc1 w13 _)).next d2).add hs
  clear d2 hs hfa
  go_wp2_with fail
  refine (three_ok _).mono ?_
  rintro e w15 ⟨⟨vs, vf, ve, rfl, hfa⟩, d1⟩
  replace h0 := h0.next d1
  clear d1
  go_wp2_with fail
  refine (wk_out vs vf ve w15 hfa).mono ?_
  rintro e w16 ⟨rfl, d2⟩
  replace h0 := (h0.next (alloc1 w15 _)).next d2
  clear d2 hfa
  go_wp2_with fail
  refine (wk_bad w16).mono ?_
  rintro e w17 ⟨rfl, d2⟩
  replace h0 := (h0.next (alloc1 w16 _)).next d2
  clear d2
  go_wp2_with fail
  refine (wk_none w17).mono ?_
  rintro e w18 ⟨rfl, d2⟩
  replace h0 := (h0.next (alloc1 w17 _)).next d2
  clear d2
  replace h0 := (h0.next (alloc1 w18 _)).add (new_three w18)
  go_wp2_with fail
  refine (all_eq _ _ _ (h0.s _ (by simp)) (h0.s _ (by simp))).mono ?_
  rintro e w19 ⟨rfl, d2⟩
  replace h0 := h0.next d2
  clear d2
  go_wp2_with fail
  refine (all_eq _ _ _ (h0.s _ (by simp)) (h0.s _ (by simp))).mono ?_
  rintro e w20 ⟨rfl, d2⟩
  replace h0 := h0.next d2
  clear d2
  go_wp2_with fail
  refine (all_eq _ _ _ (h0.s _ (by simp)) (h0.s _ (by simp))).mono ?_
  rintro e w21 ⟨rfl, d2⟩
  replace h0 := h0.next d2
  clear d2
  go_wp2_with fail
  refine (all_eq _ _ _ (h0.s _ (by simp)) (h0.s _ (by simp))).mono ?_
  rintro e w22 ⟨rfl, d2⟩
  replace h0 := h0.next d2
  clear d2
  go_wp2_with fail
  go_ret
  exact ⟨rfl, h0.b⟩
end Go.Proofs.Ytakldmbbmefnbaa
