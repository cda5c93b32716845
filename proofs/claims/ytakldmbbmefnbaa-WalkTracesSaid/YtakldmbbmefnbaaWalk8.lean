/- walk: alive. -/
import Derived.Test.YtakldmbbmefnbaaWalk7
namespace Go.Proofs.Ytakldmbbmefnbaa
open Go.RowKit
set_option maxRecDepth 100000
set_option maxHeartbeats 1000000

theorem Fit.start {a : A} (ha : Fit a) : a.start.all (inB a.states) = true := by have := ha.ok; simp only [A.ok, Bool.and_eq_true] at this; exact this.1.1.2
theorem Fit.final {a : A} (ha : Fit a) : a.final.all (inB a.states) = true := by have := ha.ok; simp only [A.ok, Bool.and_eq_true] at this; exact this.1.2

/-- To where one comes at all. -/
noncomputable def A.reach (a : A) (l : List Int) : List Int := cl a.states.toNat (a.pairs false (fun _ => true)) l
/-- From where one comes to a final. -/
noncomputable def A.alive (a : A) : List Int := cl a.states.toNat (a.pairs true (fun _ => true)) a.final
noncomputable def A.live (a : A) : List Int := (a.reach a.start).filter (fun s => a.alive.any (fun x => s == x))

theorem cl_len (n : Nat) (ps : List (Int × Int)) (l : List Int) : (cl n ps l).length ≤ n := by
  unfold cl
  refine Nat.le_trans (List.length_filter_le _ _) ?_
  simp
theorem Fit.small {a : A} (ha : Fit a) : a.states.toNat ≤ 1000 := by have := ha.n; omega

theorem reach_ok (b : Nat) (a : A) (vs vf ve vl : Value) (l : List Int) (w : World) (hk : Wk w b a vs vf ve) (ha : Fit a) (hl : Ints w w.heap.size vl l) (hlo : l.all (inB a.states) = true) (hll : l.length ≤ 1000000) :
    Calls Try.prog 57 #[pw b, vl, .bool false, .func (.func 58) #[] #[]] w (fun r w' => ∃ v', r = .returned v' ∧ Own encI 1 3 w' w.heap.size v' (a.reach l) ∧ Below w.heap.size w w') :=
  grown_ok b a vs vf ve vl _ l false (fun _ => true) w hk ha.ok hl hlo (each_pred w) ha.n hll ha.e

theorem alive_ok (b : Nat) (a : A) (vs vf ve : Value) (w : World) (hk : Wk w b a vs vf ve) (ha : Fit a) :
    Calls Try.prog 46 #[pw b] w (fun r w' => ∃ v', r = .returned v' ∧ Own encI 1 3 w' w.heap.size v' a.alive ∧ Below w.heap.size w w') := by
  have hg := grown_ok b a vs vf ve vf _ a.final true (fun _ => true) w hk ha.ok hk.fa.f ha.final (each_pred w) ha.n ha.f ha.e
  have hq2 := hk.c2
  obtain ⟨A0, c, rfl, _⟩ := id hk.fa.f
  clear hk
  go_enter Try.func46, Try.ntmps46
  go_wp2_with (go_at_call 57; refine hg.mono ?_; rintro e w1 ⟨v1, rfl, ho1, hb1⟩; obtain ⟨A1, c1, rfl, hle1⟩ := ho1.form)
  go_ret
  exact ⟨_, rfl, ho1, hb1⟩

theorem live1_pred (al : List Int) (val : Value) (ba : Nat) (w : World) (h1 : w.cell? ⟨ba, 0, none⟩ = some val) (ha : Ints w w.heap.size val al) (hl : al.length ≤ 1000000) :
    Pred1 Try.prog (fun x => .int .i64 x) (.func (.func 93) #[] #[pw ba]) (fun _ => True) (fun s => !al.any (fun x => s == x)) w := by
  refine ⟨_, _, rfl, Try.call93, fun W s _ hW => ?_⟩
  have q1 := (hW.cell (p := ⟨ba, 0, none⟩) (World.block_lt_of_cell? _ _ h1)).trans h1
  have hc := contains_int val al s W (ha.below hW hW.size) hl
  obtain ⟨A0, c, rfl, _⟩ := id ha
  show Calls _ _ _ _ (fun r W' => r = .returned (.bool (!al.any (fun x => s == x))) ∧ Below W.heap.size W W')
  generalize al.any (fun x => s == x) = res at *
  clear ha h1 hW
  go_enter Try.func93, Try.ntmps93
  go_wp2_with (go_at_call 14; refine hc.mono ?_; rintro x w3 ⟨rfl, rfl⟩)
  go_ret
  exact ⟨rfl, Below.refl _ _⟩
end Go.Proofs.Ytakldmbbmefnbaa
