/- walk.Trace, Takes, First. -/
import Derived.Test.YtakldmbbmefnbaaWalk15
namespace Go.Proofs.Ytakldmbbmefnbaa
open Go.RowKit Go.Sort Go.Proofs
set_option maxRecDepth 100000
set_option maxHeartbeats 1000000

theorem trace1_ok (b bs : Nat) (a : A) (vs vf ve : Value) (word : List UInt8) (w : World) (hk : Wk w b a vs vf ve) (ha : Fit a) (hc : w.cell? ⟨bs, 0, none⟩ = some (encStr word)) (hw : word.length ≤ 1000000) :
    Calls Try.prog 54 #[pw b, pw bs] w (fun r w' => (∃ v rs, r = .returned v ∧ Own encR 1 22 w' w.heap.size v rs ∧ Rws w' w.heap.size rs (a.trace word word.length)) ∧ Below w.heap.size w w') := by
  have htr := trace_ok b a vs vf ve word w hk ha hw
  generalize a.trace word word.length = ls at *
  clear hk
  go_enter Try.func54, Try.ntmps54
  go_wp2_with (go_at_call 51; refine htr.mono ?_; rintro e w1 ⟨v1, rs, rfl, ho1, hr1, hb1⟩; obtain ⟨A1, c1, rfl, hle1⟩ := ho1.form)
  go_ret
  exact ⟨⟨_, rs, rfl, ho1, hr1⟩, hb1⟩

theorem takes1_ok (b bs : Nat) (a : A) (vs vf ve : Value) (word : List UInt8) (w : World) (hk : Wk w b a vs vf ve) (ha : Fit a) (hc : w.cell? ⟨bs, 0, none⟩ = some (encStr word)) (hw : word.length ≤ 1000000) :
    Calls Try.prog 50 #[pw b, pw bs] w (fun r w' => r = .returned (.bool (a.ends (a.after word))) ∧ Below w.heap.size w w') := by
  have htr := trace_ok b a vs vf ve word w hk ha hw
  have hlast : ∀ h : word.length < (a.trace word word.length).length, (a.trace word word.length)[word.length] = a.after word := fun h => by rw [A.trace_get, List.take_length]
  have hlen := a.trace_len word word.length
  have haf := A.after_in ha word
  have hen := fun (W : World) (v : Value) (h : Wk W b a vs vf ve) (h2 : Ints W W.heap.size v (a.after word)) => ends_ok b a vs vf ve v (a.after word) W h ha h2 (by omega)
  generalize a.trace word word.length = ls at *
  generalize a.ends (a.after word) = res at *
  generalize a.after word = cur at *
  go_enter Try.func50, Try.ntmps50
  go_wp2_with (go_at_call 51; refine htr.mono ?_; rintro e w1 ⟨v1, rs, rfl, ho1, hr1, hb1⟩; have hrl : rs.length = word.length + 1 := hr1.1.trans hlen; obtain ⟨bo, co, rfl, _, hcells⟩ := ho1.at_R (by omega); have hcell := hcells word.length (by omega); have hown := hr1.2 word.length (by omega) (by omega); rw [hlast] at hown; have hen1 := hen w1 _ (hk.below hb1) (hown.sl encI_len); obtain ⟨A5, c5, hr5, hle5⟩ := hown.form; rw [hr5] at hcell hen1; rw [hrl])
  refine hen1.mono ?_
  rintro e w2 ⟨rfl, d2⟩
  go_wp2
  go_ret
  exact ⟨rfl, below_next hb1 d2⟩

theorem calls_first1 (b : Nat) (w : World) {R : Ending → Prop} (h : Calls Try.prog 41 #[pw b] w (fun r w' => R r ∧ Below w.heap.size w w')) (hR : ∀ r, R r → (∃ s, r = .returned (.string s)) ∨ ∃ e, r = .panicked (errPanic e)) :
    Calls Try.prog 40 #[pw b] w (fun r w' => R r ∧ Below w.heap.size w w') := by
  have h1 : Calls Try.prog 41 #[pw b] w (fun r w' => ((∃ s, r = .returned (.string s)) ∨ ∃ e, r = .panicked (errPanic e)) ∧ R r ∧ Below w.heap.size w w') := h.mono (fun r w' hh => ⟨hR r hh.1, hh⟩)
  clear h hR
  go_enter Try.func40, Try.ntmps40
  go_wp2_with fail
  refine h1.mono ?_
  rintro r w1 ⟨hs, hR, hb⟩
  rcases hs with ⟨s, rfl⟩ | ⟨e, rfl⟩
  · have HR := Lib.hid hR
    clear hR
    go_wp2
    go_ret
    exact ⟨HR.out, hb⟩
  · have HR := Lib.hid hR
    clear hR
    go_wp2
    exact ⟨rfl, HR.out, hb⟩

theorem first1_ok (b : Nat) (a : A) (vs vf ve : Value) (w : World) (hk : Wk w b a vs vf ve) (ha : Fit a) :
    Calls Try.prog 40 #[pw b] w (fun r w' => FirstEnd a r ∧ Below w.heap.size w w') := by
  refine calls_first1 b w (first_ok b a vs vf ve w hk ha) (fun r h => ?_)
  rcases h with ⟨word, rfl, _⟩ | ⟨rfl, _⟩
  · exact .inl ⟨_, rfl⟩
  · exact .inr ⟨_, rfl⟩

/-- What Takes hands back. -/
def TakesEnd (r : Ending) (ok res : Bool) : Prop := if ok = true then r = .returned (.tuple #[.bool res, .int .i64 0]) else r = .returned (.tuple #[.bool false, .int .i64 260])
/-- What Trace hands back. -/
def TraceEnd (w w' : World) (r : Ending) (ok : Bool) (ls : List (List Int)) : Prop :=
  if ok = true then ∃ v rs, r = .returned (.tuple #[v, .int .i64 0]) ∧ Own encR 1 22 w' w.heap.size v rs ∧ Rws w' w.heap.size rs ls else r = .returned (.tuple #[.slice none 0 0, .int .i64 260])
/-- What First hands back. -/
def FirstOut (a : A) (r : Ending) : Prop :=
  (a.ok = false ∧ r = .returned (.tuple #[.string ⟨#[]⟩, .int .i64 260])) ∨ (a.ok = true ∧ ((∃ word : List UInt8, r = .returned (.tuple #[encStr word, .int .i64 0]) ∧ IsFirst a a.states.toNat word) ∨ (r = .returned (.tuple #[.string ⟨#[]⟩, .int .i64 4]) ∧ ∀ w, ¬ a.takes w)))

theorem Rws.stored {T : TypeId} {W w' : World} {base : Nat} {rs : List Ro} {ls : List (List Int)} (h : Rws W base rs ls) (hs : Stored T W w') (h1 : 3 ≠ T) : Rws w' base rs ls :=
  ⟨h.1, fun i h2 h3 => (h.2 i h2 h3).stored hs h1 (by decide)⟩


theorem Trace_ok (a : A) (vs vf ve : Value) (word : List UInt8) (w : World) (hfa : FaAt w w.heap.size a vs vf ve) (hs : Small a) (hwl : word.length ≤ 1000000) :
    Calls Try.prog 16 #[vA a vs vf ve, encStr word] w (fun r w' => TraceEnd w w' r a.ok (a.trace word word.length) ∧ Below w.heap.size w w') := by
  obtain ⟨As, cs, rfl, _⟩ := id hfa.s
  obtain ⟨Af, cf, rfl, _⟩ := id hfa.f
  obtain ⟨Ae, ce, rfl, _⟩ := id hfa.e
  obtain ⟨W1, hW1⟩ : ∃ W1, w.alloc (.cells #[.int .i64 a.states, .slice As a.start.length cs, .slice Af a.final.length cf, .slice Ae a.edges.length ce] 25) = W1 := ⟨_, rfl⟩
  obtain ⟨W2, hW2⟩ : ∃ W2, W1.alloc (.cells #[encStr word] 9) = W2 := ⟨_, rfl⟩
  have d1 : Below w.heap.size w W1 := hW1 ▸ alloc1 w _
  have d2 : Below W1.heap.size W1 W2 := hW2 ▸ alloc1 W1 _
  have dw := below_next d1 d2
  have n1 : ∀ j, W1.cell? ⟨w.heap.size, j, none⟩ = _ := fun j => hW1 ▸ cell_new w _ _ j
  have hlt : w.heap.size < W1.heap.size := by rw [← hW1]; simp
  have e0 := (d2.cell (p := ⟨w.heap.size, 0, none⟩) hlt).trans (n1 0)
  have e1 := (d2.cell (p := ⟨w.heap.size, 1, none⟩) hlt).trans (n1 1)
  have e2 := (d2.cell (p := ⟨w.heap.size, 2, none⟩) hlt).trans (n1 2)
  have e3 := (d2.cell (p := ⟨w.heap.size, 3, none⟩) hlt).trans (n1 3)
  simp only [List.getElem?_toArray, List.getElem?_cons_zero, List.getElem?_cons_succ] at e0 e1 e2 e3
  have q1 : W2.cell? ⟨W1.heap.size, 0, none⟩ = some (encStr word) := by rw [← hW2, cell_new]; rfl
  have htr := tries_rows a _ _ _ 54 #[pw W1.heap.size] W2 Try.call54 (hfa.below dw dw.size) hs.short
    (fun r W => ∃ W1, w.heap.size ≤ W1.heap.size ∧ ∃ v rs, r = .returned v ∧ Own encR 1 22 W W1.heap.size v rs ∧ Rws W W1.heap.size rs (a.trace word word.length))
    (fun r W h => by
      obtain ⟨_, _, v, rs, rfl, ho, _⟩ := h
      obtain ⟨A1, c1, rfl, _⟩ := ho.form
      exact .inl ⟨_, _, _, rfl⟩)
    (fun hok W b hW hk => (trace1_ok b W1.heap.size a _ _ _ word W hk (hs.fit hok) ((hW.cell (World.block_lt_of_cell? _ _ q1)).trans q1) hwl).mono (fun r w' h => ⟨⟨W, (below_next dw hW).size, h.1⟩, h.2⟩))
  have htr2 : Calls Try.prog 53 #[vA a (.slice As a.start.length cs) (.slice Af a.final.length cf) (.slice Ae a.edges.length ce), .func (.func 54) #[] #[pw W1.heap.size]] W2 (fun r w' => TraceEnd w w' r a.ok (a.trace word word.length) ∧ (∃ A n c e, r = .returned (.tuple #[.slice A n c, .int .i64 e])) ∧ Below W2.heap.size W2 w') := by
    refine htr.mono ?_
    rintro r w' ⟨hb, h⟩
    rcases h with ⟨hok, rfl⟩ | ⟨hok, r0, W0, ⟨W9, hw9, v, rs, rfl, ho, hrs⟩, _, hst, hr⟩
    · refine ⟨?_, ⟨_, _, _, _, rfl⟩, hb⟩
      unfold TraceEnd
      rw [if_neg (by rw [hok]; decide)]
    · rcases hr with ⟨v', h1, rfl⟩ | ⟨e, h1, _⟩
      · cases h1
        obtain ⟨A1, c1, rfl, _⟩ := ho.form
        refine ⟨?_, ⟨_, _, _, _, rfl⟩, hb⟩
        unfold TraceEnd
        rw [if_pos hok]
        exact ⟨_, rs, rfl, (ho.stored hst (by decide) (by decide)).lower hw9, (hrs.stored hst (by decide)).lower hw9⟩
      · cases h1
  unfold vA at htr2 ⊢
  clear hfa n1 hlt htr
  go_enter Try.func16, Try.ntmps16
  go_wp2_with (go_at_call 53; refine htr2.mono ?_; rintro r w3 ⟨hE, hF, d3⟩; obtain ⟨A5, n5, c5, e5, rfl⟩ := hF; have HE := Lib.hid hE; clear hE)
  refine bodyPost_ret (results_tmp2 rfl _ _ _) rfl ?_
  exact ⟨HE.out, below_next dw d3⟩

theorem Takes_ok (a : A) (vs vf ve : Value) (word : List UInt8) (w : World) (hfa : FaAt w w.heap.size a vs vf ve) (hs : Small a) (hwl : word.length ≤ 1000000) :
    Calls Try.prog 15 #[vA a vs vf ve, encStr word] w (fun r w' => TakesEnd r a.ok (a.ends (a.after word)) ∧ Below w.heap.size w w') := by
  obtain ⟨As, cs, rfl, _⟩ := id hfa.s
  obtain ⟨Af, cf, rfl, _⟩ := id hfa.f
  obtain ⟨Ae, ce, rfl, _⟩ := id hfa.e
  obtain ⟨W1, hW1⟩ : ∃ W1, w.alloc (.cells #[.int .i64 a.states, .slice As a.start.length cs, .slice Af a.final.length cf, .slice Ae a.edges.length ce] 25) = W1 := ⟨_, rfl⟩
  obtain ⟨W2, hW2⟩ : ∃ W2, W1.alloc (.cells #[encStr word] 9) = W2 := ⟨_, rfl⟩
  have d1 : Below w.heap.size w W1 := hW1 ▸ alloc1 w _
  have d2 : Below W1.heap.size W1 W2 := hW2 ▸ alloc1 W1 _
  have dw := below_next d1 d2
  have n1 : ∀ j, W1.cell? ⟨w.heap.size, j, none⟩ = _ := fun j => hW1 ▸ cell_new w _ _ j
  have hlt : w.heap.size < W1.heap.size := by rw [← hW1]; simp
  have e0 := (d2.cell (p := ⟨w.heap.size, 0, none⟩) hlt).trans (n1 0)
  have e1 := (d2.cell (p := ⟨w.heap.size, 1, none⟩) hlt).trans (n1 1)
  have e2 := (d2.cell (p := ⟨w.heap.size, 2, none⟩) hlt).trans (n1 2)
  have e3 := (d2.cell (p := ⟨w.heap.size, 3, none⟩) hlt).trans (n1 3)
  simp only [List.getElem?_toArray, List.getElem?_cons_zero, List.getElem?_cons_succ] at e0 e1 e2 e3
  have q1 : W2.cell? ⟨W1.heap.size, 0, none⟩ = some (encStr word) := by rw [← hW2, cell_new]; rfl
  have htr := tries_bool a _ _ _ 50 #[pw W1.heap.size] W2 Try.call50 (hfa.below dw dw.size) hs.short
    (fun r W => r = .returned (.bool (a.ends (a.after word))))
    (fun r W h => .inl ⟨_, h⟩)
    (fun hok W b hW hk => takes1_ok b W1.heap.size a _ _ _ word W hk (hs.fit hok) ((hW.cell (World.block_lt_of_cell? _ _ q1)).trans q1) hwl)
  have htr2 : Calls Try.prog 49 #[vA a (.slice As a.start.length cs) (.slice Af a.final.length cf) (.slice Ae a.edges.length ce), .func (.func 50) #[] #[pw W1.heap.size]] W2 (fun r w' => TakesEnd r a.ok (a.ends (a.after word)) ∧ (∃ b e, r = .returned (.tuple #[.bool b, .int .i64 e])) ∧ Below W2.heap.size W2 w') := by
    refine htr.mono ?_
    rintro r w' ⟨hb, h⟩
    rcases h with ⟨hok, rfl⟩ | ⟨hok, r0, W0, rfl, _, hst, hr⟩
    · refine ⟨?_, ⟨_, _, rfl⟩, hb⟩
      unfold TakesEnd
      rw [if_neg (by rw [hok]; decide)]
    · rcases hr with ⟨v', h1, rfl⟩ | ⟨e, h1, _⟩
      · cases h1
        refine ⟨?_, ⟨_, _, rfl⟩, hb⟩
        unfold TakesEnd
        rw [if_pos hok]
      · cases h1
  unfold vA at htr2 ⊢
  clear hfa n1 hlt htr
  go_enter Try.func15, Try.ntmps15
  go_wp2_with (go_at_call 49; refine htr2.mono ?_; rintro r w3 ⟨hE, hF, d3⟩; obtain ⟨b5, e5, rfl⟩ := hF; have HE := Lib.hid hE; clear hE)
  refine bodyPost_ret (results_tmp2 rfl _ _ _) rfl ?_
  exact ⟨HE.out, below_next dw d3⟩

end Go.Proofs.Ytakldmbbmefnbaa
