/- the statement WalkTraces: its closure, what a run hands back, and the law of two parts. -/
import Derived.Test.YtakldmbbmefnbaaWFirst2
namespace Go.Proofs.Ytakldmbbmefnbaa
open Go.RowKit Go.Sort Go.Proofs
set_option maxRecDepth 100000
set_option maxHeartbeats 1000000

theorem traces_pred (b : Nat) (v : Value) (xs : List Int) (w : World) (hc : w.cell? ⟨b, 0, none⟩ = some v) (h : Ints w w.heap.size v xs) (hn : xs.length ≤ 1000000) :
    Pred1 Try.prog (fun x => .int .i64 x) (.func (.func 20) #[] #[pw b]) (fun _ => True) (fun s => !xs.any (fun x => s == x)) w := by
  refine ⟨_, _, rfl, Try.call20, fun W x _ hb => ?_⟩
  have hc1 := (hb.cell (World.block_lt_of_cell? _ _ hc)).trans hc
  have hct := contains_int v xs x W (h.below hb hb.size) hn
  obtain ⟨A, c, rfl, _⟩ := id h
  show Calls Try.prog 20 #[.int .i64 x, pw b] W (fun r W' => r = .returned (.bool (!xs.any (fun y => x == y))) ∧ Below W.heap.size W W')
  generalize xs.any (fun y => x == y) = res at *
  clear h hb hc
  go_enter Try.func20, Try.ntmps20
  go_wp2_with (go_at_call 14; refine hct.mono ?_; rintro e w1 ⟨rfl, rfl⟩)
  go_ret
  exact ⟨rfl, Below.refl _ _⟩

/-- Rows of numbers that lie in one block, each of its own. -/
structure RowsAt (w : World) (b : Nat) (ls : List (List Int)) : Prop where
  lt : b < w.heap.size
  at_ : ∀ k (h : k < ls.length), ∃ A n c, w.cell? ⟨b, k, none⟩ = some (.slice A n c) ∧ Ints w w.heap.size (.slice A n c) ls[k]
theorem RowsAt.next {w w' : World} {b : Nat} {ls : List (List Int)} (h : RowsAt w b ls) (d : Below w.heap.size w w') : RowsAt w' b ls :=
  ⟨Nat.lt_of_lt_of_le h.lt d.size, fun k hk => by
    obtain ⟨A, n, c, h1, h2⟩ := h.at_ k hk
    exact ⟨A, n, c, (d.cell (p := ⟨b, k, none⟩) h.lt).trans h1, h2.below d d.size⟩⟩
def TraceGot (w' : World) (r : Ending) (n : Nat) (ls : List (List Int)) : Prop := ∃ b c, r = .returned (.tuple #[.slice (some ⟨b, 0, none⟩) (n + 1) c, .int .i64 0]) ∧ RowsAt w' b ls
theorem trace_got (a : A) (vs vf ve : Value) (word : List UInt8) (w : World) (hfa : FaAt w w.heap.size a vs vf ve) (hs : Small a) (hok : a.ok = true) (hwl : word.length ≤ 1000000) :
    Calls Try.prog 16 #[vA a vs vf ve, encStr word] w (fun r w' => TraceGot w' r word.length (a.trace word word.length) ∧ Below w.heap.size w w') := by
  refine (Trace_ok a vs vf ve word w hfa hs hwl).mono ?_
  rintro r w' ⟨h, hb⟩
  unfold TraceEnd at h
  rw [if_pos hok] at h
  obtain ⟨v, rs, rfl, ho, hr⟩ := h
  have hl := a.trace_len word word.length
  have hrl := hr.1
  obtain ⟨b, c, rfl, _, hcell⟩ := ho.at_R (by omega)
  refine ⟨⟨b, c, by rw [hrl, hl], World.block_lt_of_cell? _ _ (hcell 0 (by omega)), fun k hk => ?_⟩, hb⟩
  exact ⟨_, _, _, hcell k (by omega), (hr.2 k (by omega) hk).sl encI_len⟩
theorem trace_bad (a : A) (vs vf ve : Value) (word : List UInt8) (w : World) (hfa : FaAt w w.heap.size a vs vf ve) (hs : Small a) (hok : a.ok = false) (hwl : word.length ≤ 1000000) :
    Calls Try.prog 16 #[vA a vs vf ve, encStr word] w (fun r w' => r = .returned (.tuple #[.slice none 0 0, .int .i64 260]) ∧ Below w.heap.size w w') := by
  refine (Trace_ok a vs vf ve word w hfa hs hwl).mono ?_
  rintro r w' ⟨h, hb⟩
  unfold TraceEnd at h
  rw [if_neg (by rw [hok]; decide)] at h
  exact ⟨h, hb⟩
theorem reach_got (a : A) (vs vf ve vl : Value) (l : List Int) (w : World) (hfa : FaAt w w.heap.size a vs vf ve) (hs : Small a) (hok : a.ok = true) (hl : Ints w w.heap.size vl l) (hll : l.length ≤ 1000000) (hin : l.all (inB a.states) = true) :
    Calls Try.prog 17 #[vA a vs vf ve, vl] w (fun r w' => GotInts w' r (a.reach l) ∧ Below w.heap.size w w') := by
  refine (Reach_ok a vs vf ve vl l w hfa hs hl hll).mono ?_
  rintro r w' ⟨h, hb⟩
  rw [if_pos hok] at h
  unfold A.doReach at h
  rw [if_pos hin] at h
  exact ⟨gotInts_of h, hb⟩
theorem step_got (a : A) (vs vf ve vl : Value) (l : List Int) (b : Nat) (hb : b < 256) (w : World) (hfa : FaAt w w.heap.size a vs vf ve) (hs : Small a) (hok : a.ok = true) (hl : Ints w w.heap.size vl l) (hll : l.length ≤ 1000000) (hin : l.all (inB a.states) = true) :
    Calls Try.prog 19 #[vA a vs vf ve, .int .u8 b, vl] w (fun r w' => GotInts w' r (a.step l b) ∧ Below w.heap.size w w') := by
  refine (Step_ok a vs vf ve vl l b hb w hfa hs hl hll).mono ?_
  rintro r w' ⟨h, hb⟩
  rw [if_pos hok] at h
  unfold A.doStep at h
  rw [if_pos hin] at h
  exact ⟨gotInts_of h, hb⟩
theorem same_eq (v v' : Value) (l l' : List Int) (W : World) (h : Ints W W.heap.size v l) (h' : Ints W W.heap.size v' l') (hn : l.length ≤ 1000000) (he : l = l') :
    Calls Try.prog 18 #[v, v'] W (fun r w' => r = .returned (.bool true) ∧ Below W.heap.size W w') := by
  subst he
  refine (equal_int v v' _ _ W h h' hn hn).mono ?_
  rintro r w' ⟨rfl, hb⟩
  exact ⟨by simp, hb⟩

theorem drewN_next (w : World) (n : Nat) : Below w.heap.size w (w.drewN n) := below_drewN (Below.refl _ w) n
theorem cat_two (v w : List UInt8) : (ByteArray.mk v.toArray) ++ (ByteArray.mk w.toArray) = ⟨(v ++ w).toArray⟩ := by
  apply ByteArray.ext
  simp
theorem trace_head (a : A) (v w : List UInt8) (k : Nat) (hk : k ≤ v.length) (h1 : k < (a.trace v v.length).length) (h2 : k < (a.trace (v ++ w) (v ++ w).length).length) : (a.trace v v.length)[k] = (a.trace (v ++ w) (v ++ w).length)[k] := by
  rw [A.trace_get, A.trace_get, List.take_append_of_le_length hk]
theorem trace_tail (a : A) (v w : List UInt8) (k : Nat) (hk : k < w.length) (h2 : v.length + 1 + k < (a.trace (v ++ w) (v ++ w).length).length) : a.step (a.after (v ++ w.take k)) w[k].toNat = (a.trace (v ++ w) (v ++ w).length)[v.length + 1 + k] := by
  rw [A.trace_get, ← after_snoc]
  congr 1
  rw [List.append_assoc, show v.length + 1 + k = v.length + (k + 1) by omega, List.take_length_add_append, List.take_succ_eq_append_getElem hk]
theorem none_out {xs l : List Int} (h : ∀ s ∈ l, s ∈ xs) : l.any (fun s => !xs.any (fun x => s == x)) = false := by
  rw [List.any_eq_false]
  intro s hs
  simp only [Bool.not_eq_true', Bool.not_eq_false, List.any_eq_true, beq_iff_eq]
  exact ⟨s, h s hs, rfl⟩
end Go.Proofs.Ytakldmbbmefnbaa
