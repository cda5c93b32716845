/- walk: closure and step. -/
import Derived.Test.YtakldmbbmefnbaaWalk4
import Derived.Test.YtakldmbbmefnbaaSet1
namespace Go.Proofs.Ytakldmbbmefnbaa
open Go.RowKit
set_option maxRecDepth 100000
set_option maxHeartbeats 1000000
attribute [local go_sem] Oper.semAt_some

/-- An automaton that can be walked: it holds together, and is not too great. -/
structure Fit (a : A) : Prop where
  ok : a.ok = true
  n : a.states ≤ 1000
  s : a.start.length ≤ 1000000
  f : a.final.length ≤ 1000000
  e : a.edges.length ≤ 1000000

/-- The closure of states. -/
noncomputable def A.clo (a : A) (l : List Int) : List Int := cl a.states.toNat (a.pairs false (fun e => e.free)) l

theorem closure_ok (b : Nat) (a : A) (vs vf ve vl : Value) (l : List Int) (w : World) (hk : Wk w b a vs vf ve) (ha : Fit a) (hl : Ints w w.heap.size vl l) (hlo : l.all (inB a.states) = true) (hll : l.length ≤ 1000000) :
    Calls Try.prog 85 #[pw b, vl] w (fun r w' => ∃ v', r = .returned v' ∧ Own encI 1 3 w' w.heap.size v' (a.clo l) ∧ Below w.heap.size w w') := by
  have hg := grown_ok b a vs vf ve vl _ l false (fun e => e.free) w hk ha.ok hl hlo (free_pred w) ha.n hll ha.e
  obtain ⟨A0, c, rfl, _⟩ := id hl
  clear hk hl
  go_enter Try.func85, Try.ntmps85
  go_wp2_with (go_at_call 57; refine hg.mono ?_; rintro e w1 ⟨v1, rfl, ho1, hb1⟩; obtain ⟨A1, c1, rfl, hle1⟩ := ho1.form)
  go_ret
  exact ⟨_, rfl, ho1, hb1⟩

/-- The edges by which a byte leads on. -/
def leads (from_ : List Int) (b : Nat) (e : E) : Bool := !e.free && e.set.has b && from_.any (fun x => e.src == x)

theorem step1_pred (from_ : List Int) (vfr : Value) (b : Nat) (hb : b < 256) (bb bf : Nat) (w : World) (h1 : w.cell? ⟨bb, 0, none⟩ = some (.int .u8 b)) (h2 : w.cell? ⟨bf, 0, none⟩ = some vfr) (hf : Ints w w.heap.size vfr from_) (hl : from_.length ≤ 1000000) :
    Pred1 Try.prog vE (.func (.func 100) #[] #[pw bb, pw bf]) (fun _ => True) (leads from_ b) w := by
  refine ⟨_, _, rfl, Try.call100, fun W e _ hW => ?_⟩
  obtain ⟨src, dst, fr, st⟩ := e
  unfold vE
  simp only
  have q1 := (hW.cell (p := ⟨bb, 0, none⟩) (World.block_lt_of_cell? _ _ h1)).trans h1
  have q2 := (hW.cell (p := ⟨bf, 0, none⟩) (World.block_lt_of_cell? _ _ h2)).trans h2
  have hfW : Ints W W.heap.size vfr from_ := hf.below hW hW.size
  clear hf h1 h2 hW
  obtain ⟨A0, c, rfl, _⟩ := id hfW
  obtain ⟨W1, hW1⟩ : ∃ W1, W.alloc (.cells #[.int .i64 src, .int .i64 dst, .bool fr, .int .u64 st.w0.toNat, .int .u64 st.w1.toNat, .int .u64 st.w2.toNat, .int .u64 st.w3.toNat] 55) = W1 := ⟨_, rfl⟩
  have hBW : Below W.heap.size W W1 := hW1 ▸ alloc1 W _
  have hn1 : ∀ j, W1.cell? ⟨W.heap.size, j, none⟩ = _ := fun j => hW1 ▸ cell_new W _ _ j
  have e0 := hn1 0; have e1 := hn1 1; have e2 := hn1 2; have e3 := hn1 3; have e4 := hn1 4; have e5 := hn1 5; have e6 := hn1 6
  simp only [List.getElem?_toArray, List.getElem?_cons_zero, List.getElem?_cons_succ] at e0 e1 e2 e3 e4 e5 e6
  have r1 := (hBW.cell (p := ⟨bb, 0, none⟩) (World.block_lt_of_cell? _ _ q1)).trans q1
  have r2 := (hBW.cell (p := ⟨bf, 0, none⟩) (World.block_lt_of_cell? _ _ q2)).trans q2
  have hf1 := hfW.below hBW hBW.size
  clear hn1 hfW
  have hc1 := fun W2 (h : Below W1.heap.size W1 W2) => contains_int _ from_ src W2 (hf1.below h h.size) hl
  have hh := has_ok st b hb W1
  unfold vS at hh
  clear hf1
  have hres : (!fr && st.has b && from_.any (fun x => src == x)) = leads from_ b ⟨src, dst, fr, st⟩ := rfl
  generalize leads from_ b ⟨src, dst, fr, st⟩ = res at *
  have HR := Lib.hid hres
  clear hres
  obtain ⟨hasb, hhasb⟩ : ∃ x, st.has b = x := ⟨_, rfl⟩
  obtain ⟨inn, hinn⟩ : ∃ x, from_.any (fun x => src == x) = x := ⟨_, rfl⟩
  rw [hhasb, hinn] at HR
  rw [hhasb] at hh
  rw [hinn] at hc1
  clear hhasb hinn
  go_enter Try.func100, Try.ntmps100
  cases fr <;> cases hasb
  all_goals
    go_wp2_with first
      | (go_at_call 101; refine hh.mono ?_; rintro x w2 ⟨rfl, hb2⟩; have p0 := (hb2.cell (p := ⟨W.heap.size, 0, none⟩) (World.block_lt_of_cell? _ _ e0)).trans e0; have p2 := (hb2.cell (p := ⟨bf, 0, none⟩) (World.block_lt_of_cell? _ _ r2)).trans r2)
      | (go_at_call 14; refine (hc1 _ hb2).mono ?_; rintro x w3 ⟨rfl, rfl⟩)
  all_goals
    go_ret
    refine ⟨by have h := HR.out; simp at h; simp [h], ?_⟩
    first
      | exact below_next hBW hb2
      | exact hBW

/-- A step by a byte. -/
noncomputable def A.step (a : A) (l : List Int) (b : Nat) : List Int := a.clo ((a.edges.filter (leads (a.clo l) b)).map (fun e => e.dst))

theorem A.clo_in {a : A} (ha : Fit a) (l : List Int) : (a.clo l).all (inB a.states) = true := by
  rw [List.all_eq_true]
  intro s hs
  have := (mem_cl.1 hs).1
  have h0 : 0 ≤ a.states := by have := ha.ok; simp [A.ok] at this; omega
  simp [inB]
  omega
theorem A.clo_len {a : A} (ha : Fit a) (l : List Int) : (a.clo l).length ≤ 1000 := by
  unfold A.clo cl
  refine Nat.le_trans (List.length_filter_le _ _) ?_
  have := ha.n
  simp
  omega
theorem A.dst_in {a : A} (ha : Fit a) (p : E → Bool) : ((a.edges.filter p).map (fun e => e.dst)).all (inB a.states) = true := by
  rw [List.all_eq_true]
  intro s hs
  obtain ⟨e, he, rfl⟩ := List.mem_map.1 hs
  have h := ha.ok
  simp only [A.ok, Bool.and_eq_true, List.all_eq_true] at h
  have := h.2 e (List.mem_filter.1 he).1
  simp [mayE] at this
  exact this.1.2
theorem A.dst_len {a : A} (ha : Fit a) (p : E → Bool) : ((a.edges.filter p).map (fun e => e.dst)).length ≤ 1000000 := by
  rw [List.length_map]
  exact Nat.le_trans (List.length_filter_le _ _) ha.e

theorem step_ok (b : Nat) (a : A) (vs vf ve vl : Value) (l : List Int) (by_ : Nat) (w : World) (hk : Wk w b a vs vf ve) (ha : Fit a) (hl : Ints w w.heap.size vl l) (hlo : l.all (inB a.states) = true) (hll : l.length ≤ 1000000) (hby : by_ < 256) :
    Calls Try.prog 60 #[pw b, vl, .int .u8 by_] w (fun r w' => ∃ v', r = .returned v' ∧ Own encI 1 3 w' w.heap.size v' (a.step l by_) ∧ Below w.heap.size w w') := by
  obtain ⟨i0, hi, hz0, hz1, hz2⟩ := info_parts info_int
  obtain ⟨A0, c, rfl, _⟩ := id hl
  refine callsIn_wide.1 (callsIn_of_wp_marks (n := 0) Try.func60 rfl trivial ?_ rfl)
  simp only [Try.ntmps60, List.size_toArray, List.length_cons, List.length_nil, Nat.reduceAdd, Nat.reduceSub, Array.replicate_succ, Array.replicate_zero, List.push_toArray, List.append_toArray, List.nil_append, List.cons_append]
  have hwf : ∀ f, Fence.wide.fn f := fun _ => trivial
  have hwd : Fence.wide.depth = none := rfl
  obtain ⟨W1, hW1⟩ : ∃ W1, w.alloc (.cells #[.int .u8 by_] 5) = W1 := ⟨_, rfl⟩
  have d1 : Below w.heap.size w W1 := hW1 ▸ alloc1 w _
  have hk1 := hk.below d1
  have hc := closure_ok b a vs vf ve _ l W1 hk1 ha (hl.below d1 d1.size) hlo hll
  refine (wpIn_wide (n := 0)).2 ?_
  go_wp2_with first
    | (go_at_call 85; refine hc.mono ?_; rintro e W2 ⟨v2, rfl, ho2, d2⟩; obtain ⟨A2, c2, rfl, hle2⟩ := ho2.form)
    | (go_at_call 97; refine (edges_ok b _ _ _).mono ?_; rintro e w2 ⟨rfl, rfl⟩)
  obtain ⟨W3, hW3⟩ : ∃ W3, W2.alloc (.cells #[.slice A2 (a.clo l).length c2] 22) = W3 := ⟨_, rfl⟩
  obtain ⟨W4, hW4⟩ : ∃ W4, W3.alloc (.cells #[.slice none 0 0] 22) = W4 := ⟨_, rfl⟩
  have z3 : W3.heap.size = W2.heap.size + 1 := by rw [← hW3]; simp
  have z4 : W4.heap.size = W3.heap.size + 1 := by rw [← hW4, World.size_alloc]
  rw [hW3, hW4, ← z3]
  obtain ⟨fv, hfv⟩ : ∃ fv, Value.func (.func 100) #[] #[pw w.heap.size, pw W2.heap.size] = fv := ⟨_, rfl⟩
  obtain ⟨W6, hW6⟩ : ∃ W6, (W4.alloc (.cells #[pw b] 71)).alloc (.cells #[.func (.func 100) #[] #[.pointer (some ⟨w.heap.size, 0, none⟩), .pointer (some ⟨W2.heap.size, 0, none⟩)]] 87) = W6 := ⟨_, rfl⟩
  rw [hW6]
  have d3 : Below W2.heap.size W2 W3 := hW3 ▸ alloc1 W2 _
  have d4 : Below W3.heap.size W3 W4 := hW4 ▸ alloc1 W3 _
  have d6 : Below W4.heap.size W4 W6 := hW6 ▸ below_next (alloc1 W4 _) (alloc1 _ _)
  have f1 : W6.heap[W3.heap.size]? = some (.cells #[.slice none 0 0] 22 (0, 0)) := by
    rw [d6.block _ (by omega), ← hW4]; exact heap_alloc_new W3 _
  have f6 : W6.heap[W4.heap.size]? = some (.cells #[pw b] 71 (0, 0)) := by
    rw [← hW6, Below.heap_alloc _ _ _ (by simp)]; exact heap_alloc_new W4 _
  have f7 : W6.heap[W4.heap.size + 1]? = some (.cells #[fv] 87 (0, 0)) := by
    rw [← hW6, ← hfv]; have := heap_alloc_new (W4.alloc (.cells #[pw b] 71)) (.cells #[Value.func (.func 100) #[] #[pw w.heap.size, pw W2.heap.size]] 87); rwa [World.size_alloc] at this
  have z1 : W1.heap.size = w.heap.size + 1 := by rw [← hW1]; simp
  have z21 := d2.size
  have z6 : W6.heap.size = W4.heap.size + 2 := by rw [← hW6]; simp
  have hk3 := (hk1.below d2).below d3
  have q1 : W3.cell? ⟨w.heap.size, 0, none⟩ = some (.int .u8 by_) := by
    rw [d3.cell (by simp; omega), d2.cell (by simp; omega), ← hW1, cell_new]; rfl
  have q2 : W3.cell? ⟨W2.heap.size, 0, none⟩ = some (.slice A2 (a.clo l).length c2) := by rw [← hW3, cell_new]; rfl
  have hpr := step1_pred (a.clo l) _ by_ hby w.heap.size W2.heap.size W3 q1 q2 ((ho2.sl encI_len).below d3 d3.size) (Nat.le_trans (A.clo_len ha l) (by decide))
  have dw3 : Below w.heap.size w W3 := below_next d1 (below_next d2 d3)
  have d36 : Below W3.heap.size W3 W6 := below_next d4 d6
  have hne := ha.e
  have hlen := A.dst_len ha
  refine (wpIn_wide (n := 0)).1 ?_
  refine wp_rangeFunc_iter (gf := 118) (lb := #[pw W4.heap.size, pw (W4.heap.size + 1)]) (by rw [z4]; rfl) Try.call118
    (edges_iter b W4.heap.size (W4.heap.size + 1) fv a vs vf ve (leads (a.clo l) by_) W3 hk3 (hfv ▸ hpr) hne) ?ps
    (fun k W => But (fun j => j = W3.heap.size) W6 W ∧ ∃ vo, W.heap[W3.heap.size]? = some (.cells #[vo] 22 (0, 0)) ∧ Own encI 1 3 W W6.heap.size vo (((a.edges.filter (leads (a.clo l) by_)).take k).map (fun e => e.dst)))
    (fun _ _ => False) ?hI (fun _ _ _ h => h.elim) ?hD ?h0 ?hround ?hdone (fun _ _ _ _ h => h.elim)
  case ps => intro x hx; obtain ⟨e, _, rfl⟩ := List.mem_map.1 hx; rfl
  case hI =>
    rintro k W W' ⟨hb, vo, hv, ho⟩ hn
    exact ⟨hb.near hn (Nat.le_refl _), vo, hn.cells hv, hn.own ho⟩
  case hD =>
    rintro k W ⟨hb, vo, hv, ho⟩
    refine ⟨hb.base d36 (fun k e => by omega), ?_, ?_⟩
    · exact cell_at (hb.heap f6 (by omega)) 0
    · exact cell_at (hb.heap f7 (by omega)) 0
  case h0 => exact ⟨But.refl _ _, _, f1, Own.nil none⟩
  case hround =>
    rintro L k hk9 W ⟨hb, vo, hv, ho⟩
    have hk' : k < (a.edges.filter (leads (a.clo l) by_)).length := by simpa using hk9
    rw [List.getElem_map]
    have hnx : ((a.edges.filter (leads (a.clo l) by_)).take (k + 1)).map (fun e => e.dst) = ((a.edges.filter (leads (a.clo l) by_)).take k).map (fun e => e.dst) ++ [((a.edges.filter (leads (a.clo l) by_))[k]).dst] := by
      rw [List.take_succ_eq_append_getElem hk', List.map_append]; rfl
    have hln : (((a.edges.filter (leads (a.clo l) by_)).take k).map (fun e => e.dst)).length ≤ 1000000 := by
      have := hlen (leads (a.clo l) by_)
      rw [List.length_map] at this ⊢
      rw [List.length_take]
      omega
    generalize (a.edges.filter (leads (a.clo l) by_))[k] = ed at *
    generalize ((a.edges.filter (leads (a.clo l) by_)).take k).map (fun e => e.dst) = xs at *
    have HNX := Lib.hid hnx
    have HS := Lib.hid (And.intro z1 (And.intro z21 (And.intro z3 (And.intro z4 z6))))
    clear hnx hk9 hk' hlen hpr hk hk1 hk3 q1 q2 f1 f6 f7 d1 d2 d3 d4 d6 d36 dw3 hc hl z1 z3 z4 z6 z21 hW1 hW3 hW4 hW6 ho2
    unfold fromTo
    gi_wp2
    refine ⟨KeepC.refl _, fun W8 hn2 => ?_⟩
    have hb2 := hb.near hn2 (Nat.le_refl _)
    have hv2 := hn2.cells hv
    have ho2 := hn2.own ho
    clear hb hv ho hn2
    obtain ⟨A7, c7, rfl, hle7⟩ := ho2.form
    have r1 := cell_at hv2 0
    simp only [List.getElem?_toArray, List.getElem?_cons_zero] at r1
    have hbyt : (4 * (xs.length + 1) + 4096) * 8 ≤ 140737488355328 := by omega
    have hwl2 : xs.length + 1 ≤ 4611686018427387904 := by omega
    have hba : Below W8.heap.size W8 (W8.alloc (.cells #[.int .i64 ed.dst] 3)) := alloc1 W8 _
    have hsz : W6.heap.size ≤ (W8.alloc (.cells #[.int .i64 ed.dst] 3)).heap.size := Nat.le_trans hb2.size hba.size
    have old : ∀ w1, (W8.alloc (.cells #[.int .i64 ed.dst] 3)).grownBy w1 (blk (.slice A7 xs.length c7)) → w1.heap[W3.heap.size]? = some (.cells #[.slice A7 xs.length c7] 22 (0, 0)) := by
      intro w1 hg
      have hlt := (Array.getElem?_eq_some_iff.1 hv2).1
      rw [hg.block _ (by simp; omega) (fun e => own_ne ho2 hv2 (by decide) e.symm), Below.heap_alloc _ _ _ hlt]
      exact hv2
    gi_wp2_with (gi_at_builtin; refine wpListIn_append_my _ rfl (.tmp 19) (.tmp 21) 22 rfl encI_len encI_one 3 i0 _ Try.underlying22 hi hz0 hz1 hz2 rfl (by decide) (base := W6.heap.size) rfl (xs := xs) (ho2.below hba) rfl (ys := [ed.dst]) (Sl_one (enc := encI) (size := 1) W8 ed.dst _ _) hbyt hwl2 hsz ?_; intro v1 w1 hown1 hg1 hb1 hl1; obtain ⟨A1, cc1, rfl, hle1⟩ := hown1.form; have q1 := old w1 hg1; have t1 := cell_at q1 0; have t2 := free_at q1 0; simp only [List.getElem?_toArray, List.getElem?_cons_zero] at t1)
    refine ⟨((KeepC.of_below hba).grown hg1 (ho2.below hba).ctl).setCell _ _, ?_, _, heap_set q1 0 _, ?_⟩
    · refine But.setCell (S := fun j => j = W3.heap.size) ?_ (fun _ => rfl) _
      exact (hb2.alloc _).trans (But.of_grown hg1) (fun j hj e => absurd ((ho2.below hba).lt j e).1 (by omega))
    · rw [HNX.out]
      have hne2 := own_ne hown1 q1 (by decide)
      have := hown1.setCell (p := ⟨W3.heap.size, 0, none⟩) hne2 (.slice A1 (xs ++ [ed.dst]).length cc1)
      simpa using this
  case hdone =>
    rintro Dk W hDk ⟨hb, vo, hv, ho⟩ hK
    rw [List.length_map, List.take_length] at ho
    have hB3 : Below W3.heap.size W3 W := hb.base d36 (fun k e => by omega)
    have hc2 := closure_ok b a vs vf ve vo _ W (hk3.below hB3) ha (ho.sl encI_len) (A.dst_in ha _) (hlen _)
    have hstep : a.clo ((a.edges.filter (leads (a.clo l) by_)).map (fun e => e.dst)) = a.step l by_ := rfl
    rw [hstep] at hc2
    clear hstep
    generalize (a.edges.filter (leads (a.clo l) by_)).map (fun e => e.dst) = outs at *
    obtain ⟨A7, c7, rfl, hle7⟩ := ho.form
    have r1 := cell_at hv 0
    simp only [List.getElem?_toArray, List.getElem?_cons_zero] at r1
    have HS := Lib.hid (And.intro z1 (And.intro z21 (And.intro z3 (And.intro z4 z6))))
    have hWd : W6.heap.size ≤ Dk := hDk
    clear hpr hk hk1 hk3 q1 q2 f1 f6 f7 d1 d2 d3 d4 d6 d36 hc hl z1 z3 z4 z6 z21 hW1 hW3 hW4 hW6 ho2 hfv
    go_wp2_with (go_at_call 85; refine hc2.mono ?_; rintro e w2 ⟨v2, rfl, ho9, d9⟩; obtain ⟨A9, c9, rfl, hle9⟩ := ho9.form)
    have gK3 := (d9.block Dk (Array.getElem?_eq_some_iff.1 hK).1).trans hK
    have hszs := HS.out
    have h3s := hB3.size
    refine ⟨by simp, .inl ⟨_, _, rfl, run_takeDeferred gK3, ?_⟩⟩
    have hbw : Below w.heap.size w w2 := below_next dw3 (below_next hB3 d9)
    have hb3 : Below w.heap.size w (w2.putObj Dk (.deferred none)) := below_putObj hbw (by omega) _
    have ho3 := (ho9.lower (base' := w.heap.size) (by omega)).putObj (b := Dk) (.deferred none) gK3
    exact ⟨.slice A9 (a.step l by_).length c9, by simp [results, Try.f60, go_sem], _, rfl, ho3, hb3⟩
end Go.Proofs.Ytakldmbbmefnbaa
