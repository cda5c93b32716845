/- the statement WalkFirst: its closure, and the words of its cases. -/
import Derived.Test.YtakldmbbmefnbaaWakes
namespace Go.Proofs.Ytakldmbbmefnbaa
open Go.RowKit Go.Sort Go.Proofs
set_option maxRecDepth 100000
set_option maxHeartbeats 1000000

theorem A.few_small (a : A) : Small a.few := by
  refine ⟨?_, ?_, ?_, ?_⟩
  · show (if 30 < a.states then (30 : Int) else a.states) ≤ 1000
    split <;> omega
  · show (a.start.take 12).length ≤ _; rw [List.length_take]; omega
  · show (a.final.take 12).length ≤ _; rw [List.length_take]; omega
  · show (a.edges.take 60).length ≤ _; rw [List.length_take]; omega

theorem first_pred (b : Nat) (v : Value) (xs : List Int) (w : World) (hc : w.cell? ⟨b, 0, none⟩ = some v) (h : Ints w w.heap.size v xs) (hn : xs.length ≤ 1000000) :
    Pred1 Try.prog (fun x => .int .i64 x) (.func (.func 13) #[] #[pw b]) (fun _ => True) (fun s => xs.any (fun x => s == x)) w := by
  refine ⟨_, _, rfl, Try.call13, fun W x _ hb => ?_⟩
  have hc1 := (hb.cell (World.block_lt_of_cell? _ _ hc)).trans hc
  have hct := contains_int v xs x W (h.below hb hb.size) hn
  obtain ⟨A, c, rfl, _⟩ := id h
  show Calls Try.prog 13 #[.int .i64 x, pw b] W (fun r W' => r = .returned (.bool (xs.any (fun y => x == y))) ∧ Below W.heap.size W W')
  generalize xs.any (fun y => x == y) = res at *
  clear h hb hc
  go_enter Try.func13, Try.ntmps13
  go_wp2_with (go_at_call 14; refine hct.mono ?_; rintro e w1 ⟨rfl, rfl⟩)
  go_ret
  exact ⟨rfl, Below.refl _ _⟩

theorem first_some (a : A) (vs vf ve : Value) (w : World) (hfa : FaAt w w.heap.size a vs vf ve) (hs : Small a) (hok : a.ok = true) (hw : ∃ w, a.takes w) :
    Calls Try.prog 9 #[vA a vs vf ve] w (fun r w' => (∃ word, r = .returned (.tuple #[encStr word, .int .i64 0]) ∧ IsFirst a a.states.toNat word) ∧ Below w.heap.size w w') := by
  refine (First_ok a vs vf ve w hfa hs).mono ?_
  rintro r w' ⟨h, hb⟩
  refine ⟨?_, hb⟩
  rcases h with ⟨h, _⟩ | ⟨_, h | ⟨_, h⟩⟩
  · rw [hok] at h; cases h
  · exact h
  · obtain ⟨x, hx⟩ := hw
    exact absurd hx (h x)
theorem first_none (a : A) (vs vf ve : Value) (w : World) (hfa : FaAt w w.heap.size a vs vf ve) (hs : Small a) (hok : a.ok = true) (hw : ¬ ∃ w, a.takes w) :
    Calls Try.prog 9 #[vA a vs vf ve] w (fun r w' => r = .returned (.tuple #[.string ⟨#[]⟩, .int .i64 4]) ∧ Below w.heap.size w w') := by
  refine (First_ok a vs vf ve w hfa hs).mono ?_
  rintro r w' ⟨h, hb⟩
  refine ⟨?_, hb⟩
  rcases h with ⟨h, _⟩ | ⟨_, ⟨x, _, h⟩ | ⟨h, _⟩⟩
  · rw [hok] at h; cases h
  · exact absurd ⟨x, h.takes⟩ hw
  · exact h
theorem first_bad (a : A) (vs vf ve : Value) (w : World) (hfa : FaAt w w.heap.size a vs vf ve) (hs : Small a) (hok : a.ok = false) :
    Calls Try.prog 9 #[vA a vs vf ve] w (fun r w' => r = .returned (.tuple #[.string ⟨#[]⟩, .int .i64 260]) ∧ Below w.heap.size w w') := by
  refine (First_ok a vs vf ve w hfa hs).mono ?_
  rintro r w' ⟨h, hb⟩
  refine ⟨?_, hb⟩
  rcases h with ⟨_, h⟩ | ⟨h, _⟩
  · exact h
  · rw [hok] at h; cases h

/-- Numbers and no error. -/
def GotInts (w' : World) (r : Ending) (l : List Int) : Prop := ∃ A c, r = .returned (.tuple #[.slice A l.length c, .int .i64 0]) ∧ Ints w' w'.heap.size (.slice A l.length c) l
theorem gotInts_of {w w' : World} {r : Ending} {l : List Int} (h : IntsEnd w w' r (.ok l)) : GotInts w' r l := by
  obtain ⟨v, rfl, ho⟩ := h
  have hs := ho.sl encI_len
  obtain ⟨A, c, rfl, _⟩ := ho.form
  exact ⟨A, c, rfl, hs⟩
theorem live_got (a : A) (vs vf ve : Value) (w : World) (hfa : FaAt w w.heap.size a vs vf ve) (hs : Small a) (hok : a.ok = true) :
    Calls Try.prog 10 #[vA a vs vf ve] w (fun r w' => GotInts w' r a.live ∧ Below w.heap.size w w') := by
  refine (Live_ok a vs vf ve w hfa hs).mono ?_
  rintro r w' ⟨h, hb⟩
  rw [if_pos hok] at h
  exact ⟨gotInts_of h, hb⟩
theorem alive_got (a : A) (vs vf ve : Value) (w : World) (hfa : FaAt w w.heap.size a vs vf ve) (hs : Small a) (hok : a.ok = true) :
    Calls Try.prog 11 #[vA a vs vf ve] w (fun r w' => GotInts w' r a.alive ∧ Below w.heap.size w w') := by
  refine (Alive_ok a vs vf ve w hfa hs).mono ?_
  rintro r w' ⟨h, hb⟩
  rw [if_pos hok] at h
  exact ⟨gotInts_of h, hb⟩
theorem live_bad (a : A) (vs vf ve : Value) (w : World) (hfa : FaAt w w.heap.size a vs vf ve) (hs : Small a) (hok : a.ok = false) :
    Calls Try.prog 10 #[vA a vs vf ve] w (fun r w' => r = .returned (.tuple #[.slice none 0 0, .int .i64 260]) ∧ Below w.heap.size w w') := by
  refine (Live_ok a vs vf ve w hfa hs).mono ?_
  rintro r w' ⟨h, hb⟩
  rw [if_neg (by rw [hok]; decide)] at h
  exact ⟨h, hb⟩
theorem alive_bad (a : A) (vs vf ve : Value) (w : World) (hfa : FaAt w w.heap.size a vs vf ve) (hs : Small a) (hok : a.ok = false) :
    Calls Try.prog 11 #[vA a vs vf ve] w (fun r w' => r = .returned (.tuple #[.slice none 0 0, .int .i64 260]) ∧ Below w.heap.size w w') := by
  refine (Alive_ok a vs vf ve w hfa hs).mono ?_
  rintro r w' ⟨h, hb⟩
  rw [if_neg (by rw [hok]; decide)] at h
  exact ⟨h, hb⟩
theorem takes_got (a : A) (vs vf ve : Value) (word : List UInt8) (w : World) (hfa : FaAt w w.heap.size a vs vf ve) (hs : Small a) (hok : a.ok = true) (hwl : word.length ≤ 1000000) :
    Calls Try.prog 15 #[vA a vs vf ve, encStr word] w (fun r w' => r = .returned (.tuple #[.bool (a.ends (a.after word)), .int .i64 0]) ∧ Below w.heap.size w w') := by
  refine (Takes_ok a vs vf ve word w hfa hs hwl).mono ?_
  rintro r w' ⟨h, hb⟩
  unfold TakesEnd at h
  rw [if_pos hok] at h
  exact ⟨h, hb⟩

/-- No word that is taken is less than the first one. -/
theorem bytesLess_first : ∀ (v w : List UInt8), w.length = v.length → (∀ j (h : j < v.length) (h' : j < w.length), w.take j = v.take j → v[j].toNat ≤ w[j].toNat) → Op.bytesLess w v = false
  | [], [], _, _ => rfl
  | x :: v, y :: w, hl, h => by
    have h0 := h 0 (by simp) (by simp) rfl
    simp at h0
    unfold Op.bytesLess
    have hlt : ¬ y < x := by rw [UInt8.lt_iff_toNat_lt]; omega
    by_cases e : x = y
    · subst e
      have ih := bytesLess_first v w (by simpa using hl) (fun j hj hj' ht => h (j + 1) (by simpa using hj) (by simpa using hj') (by simpa using ht))
      simp [ih]
    · have hlt2 : x < y := by
        rw [UInt8.lt_iff_toNat_lt]
        have : x.toNat ≠ y.toNat := fun h => e (UInt8.toNat_inj.1 h)
        omega
      have e' : ¬ y = x := fun h => e h.symm
      simp [hlt, e']
end Go.Proofs.Ytakldmbbmefnbaa
