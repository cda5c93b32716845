/- the statement WalkFirst: the walk. -/
import Derived.Test.YtakldmbbmefnbaaWFirst1
import Derived.Test.YtakldmbbmefnbaaOpen
namespace Go.Proofs.Ytakldmbbmefnbaa
open Go.RowKit Go.Sort Go.Proofs
set_option maxRecDepth 100000
set_option maxHeartbeats 1000000


theorem four {w : World} {b : Nat} {x0 x1 x2 x3 : Value} {t : TypeId} (h : w.heap[b]? = some (.cells #[x0, x1, x2, x3] t (0, 0))) : w.cell? ⟨b, 0, none⟩ = some x0 ∧ w.cell? ⟨b, 1, none⟩ = some x1 ∧ w.cell? ⟨b, 2, none⟩ = some x2 ∧ w.cell? ⟨b, 3, none⟩ = some x3 :=
  ⟨cell_at h 0, cell_at h 1, cell_at h 2, cell_at h 3⟩
theorem keepb {w w' : World} {b : Nat} {o : Obj} (h : w.heap[b]? = some o) (d : Below w.heap.size w w') : w'.heap[b]? = some o := (d.block _ (Array.getElem?_eq_some_iff.1 h).1).trans h
/-- An automaton in its own block, with its slices. -/
structure In5 (w : World) (b : Nat) (a : A) (vs vf ve : Value) : Prop where
  h : w.heap[b]? = some (.cells #[.int .i64 a.states, vs, vf, ve] 25 (0, 0))
  fa : FaAt w w.heap.size a vs vf ve
theorem In5.next {w w' : World} {b : Nat} {a : A} {vs vf ve : Value} (h : In5 w b a vs vf ve) (d : Below w.heap.size w w') : In5 w' b a vs vf ve := ⟨keepb h.h d, h.fa.below d d.size⟩
theorem in5_new (w : World) (a : A) (vs vf ve : Value) {base : Nat} (o1 : Own encI 1 3 w base vs a.start) (o2 : Own encI 1 3 w base vf a.final) (o3 : Own encE 7 55 w base ve a.edges) :
    In5 (w.alloc (.cells #[.int .i64 a.states, vs, vf, ve] 25)) w.heap.size a vs vf ve :=
  ⟨heap_alloc_new w _, ⟨(o1.sl encI_len).below (alloc1 w _) (alloc1 w _).size, (o2.sl encI_len).below (alloc1 w _) (alloc1 w _).size, (o3.sl encE_len).below (alloc1 w _) (alloc1 w _).size⟩⟩

theorem walkFirst_bad (a : A) (As Af Ae : Option Addr) (cs cf ce : Nat) (vw : Value) (w : World) (hfa : FaAt w w.heap.size a (.slice As a.start.length cs) (.slice Af a.final.length cf) (.slice Ae a.edges.length ce))
    (h1 : a.start.length ≤ cs) (h2 : a.final.length ≤ cf) (h3 : a.edges.length ≤ ce) (h4 : cs ≤ maxLen) (h5 : cf ≤ maxLen) (h6 : ce ≤ maxLen) (hok : a.few.ok = false) :
    Calls Try.prog 3 #[vA a (.slice As a.start.length cs) (.slice Af a.final.length cf) (.slice Ae a.edges.length ce), vw] w (fun r w' => r = .returned (.bool true) ∧ Below w.heap.size w w') := by
  obtain ⟨W1, hW1⟩ : ∃ W1, w.alloc (.cells #[.int .i64 a.states, .slice As a.start.length cs, .slice Af a.final.length cf, .slice Ae a.edges.length ce] 25) = W1 := ⟨_, rfl⟩
  have d1 : Below w.heap.size w W1 := hW1 ▸ alloc1 w _
  have b1 : W1.heap[w.heap.size]? = some (.cells #[.int .i64 a.states, .slice As a.start.length cs, .slice Af a.final.length cf, .slice Ae a.edges.length ce] 25 (0, 0)) := by rw [← hW1]; exact heap_alloc_new w _
  have hfew := fun W (h : Below w.heap.size w W) => few_ok a As Af Ae cs cf ce W (hfa.below h h.size) h1 h2 h3 h4 h5 h6
  have hsm := a.few_small
  have hfi := fun vs vf ve W h => first_bad a.few vs vf ve W h hsm hok
  have hli := fun vs vf ve W h => live_bad a.few vs vf ve W h hsm hok
  have hal := fun vs vf ve W h => alive_bad a.few vs vf ve W h hsm hok
  unfold vA at hfew hfi hli hal ⊢
  generalize a.few = a' at *
  clear h1 h2 h3 h4 h5 h6 hfa hok
  go_enter Try.func3, Try.ntmps3
  go_wp2_with fail
  refine (wakes_ok _).mono ?_
  rintro e w2 ⟨rfl, d2⟩
  obtain ⟨q0, q1, q2, q3⟩ := four (keepb b1 d2)
  go_wp2_with fail
  refine (hfew _ (below_next d1 d2)).mono ?_
  rintro e w3 ⟨⟨vs, vf, ve, rfl, o1, o2, o3⟩, d3⟩
  obtain ⟨A1, n1, c1, rfl⟩ := o1.any
  obtain ⟨A2, n2, c2, rfl⟩ := o2.any
  obtain ⟨A3, n3, c3, rfl⟩ := o3.any
  have h5 := in5_new w3 a' _ _ _ o1 o2 o3
  have D5 := below_next (below_next (below_next d1 d2) d3) (alloc1 w3 (.cells #[.int .i64 a'.states, .slice A1 n1 c1, .slice A2 n2 c2, .slice A3 n3 c3] 25))
  clear d1 d2 d3 o1 o2 o3 q0 q1 q2 q3 b1 hW1 hfew
  go_wp2_with fail
  refine (hfi _ _ _ _ h5.fa).mono ?_
  rintro e w6 ⟨rfl, d6⟩
  replace h5 := h5.next d6
  replace D5 := below_next D5 d6
  clear d6
  obtain ⟨q0, q1, q2, q3⟩ := four h5.h
  go_wp2_with fail
  refine (hli _ _ _ _ h5.fa).mono ?_
  rintro e w7 ⟨rfl, d7⟩
  replace h5 := h5.next d7
  replace D5 := below_next D5 d7
  clear d7 q0 q1 q2 q3
  obtain ⟨q0, q1, q2, q3⟩ := four h5.h
  go_wp2_with fail
  refine (hal _ _ _ _ h5.fa).mono ?_
  rintro e w8 ⟨rfl, d8⟩
  replace h5 := h5.next d8
  replace D5 := below_next D5 d8
  clear d8 q0 q1 q2 q3
  obtain ⟨q0, q1, q2, q3⟩ := four h5.h
  go_wp2_with fail
  go_ret
  exact ⟨rfl, below_next D5 (alloc1 w8 _)⟩

theorem strAt {w : World} {B : Nat} {A : Option Addr} {c : Nat} {words : List (List UInt8)} (h : Strs w B (.slice A words.length c) words) (h0 : 0 < words.length) : ∃ b o, A = some ⟨b, o, none⟩ ∧ b < B ∧ ∀ k (hk : k < words.length), w.cell? ⟨b, o + k, none⟩ = some (encStr words[k]) := by
  obtain ⟨A1, c1, hv, hr⟩ := h
  cases hv
  obtain ⟨b, o, rfl, hb, hc⟩ := hr h0
  exact ⟨b, o, rfl, hb, fun k hk => cell1 (enc := encSt) (f := encStr) (fun _ => rfl) hc hk⟩

theorem cut8 (x : List UInt8) : (ByteArray.mk x.toArray).extract 0 (min (x.length : Int) 8).toNat = ⟨(x.take 8).toArray⟩ := by
  have h : (min (x.length : Int) 8).toNat = min x.length 8 := by omega
  rw [h]
  apply ByteArray.ext
  simp [ByteArray.data_extract, take_min]

theorem walkFirst_some (a : A) (As Af Ae : Option Addr) (cs cf ce : Nat) (vw : Value) (words : List (List UInt8)) (w : World) (hfa : FaAt w w.heap.size a (.slice As a.start.length cs) (.slice Af a.final.length cf) (.slice Ae a.edges.length ce))
    (h1 : a.start.length ≤ cs) (h2 : a.final.length ≤ cf) (h3 : a.edges.length ≤ ce) (h4 : cs ≤ maxLen) (h5 : cf ≤ maxLen) (h6 : ce ≤ maxLen) (hok : a.few.ok = true) (hw : ∃ x, a.few.takes x) (hvw : Strs w w.heap.size vw words) (hwl : words.length ≤ maxLen) (hwb : ∀ x ∈ words, x.length ≤ maxLen) :
    Calls Try.prog 3 #[vA a (.slice As a.start.length cs) (.slice Af a.final.length cf) (.slice Ae a.edges.length ce), vw] w (fun r w' => r = .returned (.bool true) ∧ Below w.heap.size w w') := by
  obtain ⟨W1, hW1⟩ : ∃ W1, w.alloc (.cells #[.int .i64 a.states, .slice As a.start.length cs, .slice Af a.final.length cf, .slice Ae a.edges.length ce] 25) = W1 := ⟨_, rfl⟩
  have d1 : Below w.heap.size w W1 := hW1 ▸ alloc1 w _
  have b1 : W1.heap[w.heap.size]? = some (.cells #[.int .i64 a.states, .slice As a.start.length cs, .slice Af a.final.length cf, .slice Ae a.edges.length ce] 25 (0, 0)) := by rw [← hW1]; exact heap_alloc_new w _
  have hfew := fun W (h : Below w.heap.size w W) => few_ok a As Af Ae cs cf ce W (hfa.below h h.size) h1 h2 h3 h4 h5 h6
  have hsm := a.few_small
  have hfit := hsm.fit hok
  have hfi := fun vs vf ve W h => first_some a.few vs vf ve W h hsm hok hw
  have hli := fun vs vf ve W h => live_got a.few vs vf ve W h hsm hok
  have hal := fun vs vf ve W h => alive_got a.few vs vf ve W h hsm hok
  have hta := fun vs vf ve word W h => takes_got a.few vs vf ve word W h hsm hok
  have hl0 := (live_some hfit).2 hw
  have hst := (starts_alive hfit).2 hw
  have hal1 := cl_len a.few.states.toNat (a.few.pairs true (fun _ => true)) a.few.final
  have hst1 := hfit.n
  have hfs := hfit.s
  unfold vA at hfew hfi hli hal hta ⊢
  generalize a.few = a' at *
  have hal2 : a'.alive.length ≤ 1000000 := by unfold A.alive; omega
  clear hal1 hst1 h1 h2 h3 h4 h5 h6 hfa hok hsm hw
  go_enter Try.func3, Try.ntmps3
  go_wp2_with fail
  refine (wakes_ok _).mono ?_
  rintro e w2 ⟨rfl, d2⟩
  obtain ⟨q0, q1, q2, q3⟩ := four (keepb b1 d2)
  go_wp2_with fail
  refine (hfew _ (below_next d1 d2)).mono ?_
  rintro e w3 ⟨⟨vs, vf, ve, rfl, o1, o2, o3⟩, d3⟩
  obtain ⟨A1, c1, rfl, _⟩ := o1.form
  obtain ⟨A2, n2, c2, rfl⟩ := o2.any
  obtain ⟨A3, n3, c3, rfl⟩ := o3.any
  have h5 := in5_new w3 a' _ _ _ o1 o2 o3
  have D5 := below_next (below_next (below_next d1 d2) d3) (alloc1 w3 (.cells #[.int .i64 a'.states, .slice A1 a'.start.length c1, .slice A2 n2 c2, .slice A3 n3 c3] 25))
  clear d1 d2 d3 o1 o2 o3 q0 q1 q2 q3 b1 hW1 hfew
  go_wp2_with fail
  refine (hfi _ _ _ _ h5.fa).mono ?_
  rintro e w6 ⟨⟨fst, rfl, hfirst⟩, d6⟩
  replace h5 := h5.next d6
  replace D5 := below_next D5 d6
  clear d6
  obtain ⟨q0, q1, q2, q3⟩ := four h5.h
  go_wp2_with fail
  refine (hli _ _ _ _ h5.fa).mono ?_
  rintro e w7 ⟨⟨A7, c7, rfl, _⟩, d7⟩
  replace h5 := h5.next d7
  replace D5 := below_next D5 d7
  clear d7 q0 q1 q2 q3
  obtain ⟨q0, q1, q2, q3⟩ := four h5.h
  go_wp2_with fail
  refine (hal _ _ _ _ h5.fa).mono ?_
  rintro e w8 ⟨⟨A8, c8, rfl, ha8⟩, d8⟩
  replace h5 := h5.next d8
  replace D5 := below_next D5 d8
  clear d8 q0 q1 q2 q3
  obtain ⟨q0, q1, q2, q3⟩ := four h5.h
  obtain ⟨W9, hW9⟩ : ∃ W9, w8.alloc (.cells #[.slice A8 a'.alive.length c8] 22) = W9 := ⟨_, rfl⟩
  have d9 : Below w8.heap.size w8 W9 := hW9 ▸ alloc1 w8 _
  have p9 : W9.cell? ⟨w8.heap.size, 0, none⟩ = some (.slice A8 a'.alive.length c8) := by rw [← hW9, cell_new]; rfl
  replace h5 := h5.next d9
  replace D5 := below_next D5 d9
  clear q0 q1 q2 q3
  have hpr := first_pred w8.heap.size _ a'.alive W9 p9 (ha8.below d9 d9.size) hal2
  obtain ⟨q0, q1, q2, q3⟩ := four h5.h
  have hcf := containsFunc_int _ _ a'.start (fun _ => True) _ W9 h5.fa.s hpr (fun _ _ => trivial) hfs
  rw [hst] at hcf
  clear hpr p9 ha8 hst d9
  generalize a'.alive.length = na at *
  generalize a'.live.length = nl at *
  go_wp2_with fail
  refine hcf.mono ?_
  rintro e w10 ⟨rfl, d10⟩
  replace h5 := h5.next d10
  replace D5 := below_next D5 d10
  clear d10 q0 q1 q2 q3 hcf
  obtain ⟨q0, q1, q2, q3⟩ := four h5.h
  have hT := (ends_after hfit fst).2 hfirst.takes
  have hfl := hfirst.short
  have hfl2 : (fst.length : Int) < a'.states := by omega
  have hfl3 : fst.length ≤ 1000 := by have := hfit.n; omega
  have hta1 := hta _ _ _ fst w10 h5.fa (by omega)
  rw [hT] at hta1
  have HF := Lib.hid (And.intro hfirst hfl)
  clear hT hfirst hfl
  go_wp2_with fail
  refine hta1.mono ?_
  rintro e w11 ⟨rfl, d11⟩
  replace h5 := h5.next d11
  replace D5 := below_next D5 d11
  clear d11 q0 q1 q2 q3 hta1
  obtain ⟨q0, q1, q2, q3⟩ := four h5.h
  obtain ⟨Aw, cw, rfl, _⟩ := id hvw
  unfold maxLen at hwl
  go_wp2_with fail
  go_loopw [112] (fun i wr => ∃ k : Nat, k ≤ words.length ∧ i = .int .i64 k ∧ Below w11.heap.size w11 wr) (fun i _ => words.length - (intOf i).toNat)
  case atStart => exact ⟨0, Nat.zero_le _, rfl, Below.refl _ _⟩
  case round =>
    obtain ⟨k, hk, rfl, hb⟩ := hrel
    have h5r := h5.next hb
    by_cases hlt : k < words.length
    · obtain ⟨bw, ow, rfl, hbw, hcw⟩ := strAt hvw (by omega)
      have hc := ((below_next D5 hb).cell (p := ⟨bw, ow + k, none⟩) hbw).trans (hcw k hlt)
      have hxl := hwb _ (List.getElem_mem hlt)
      unfold maxLen at hxl
      generalize words[k] = x at hc hxl
      obtain ⟨q0, q1, q2, q3⟩ := four h5r.h
      clear hcw
      by_cases h8 : ((k : Int) == 8) = true
      · clear hta hfi hli hal hwb
        go_wp2_with fail
        go_ret
        exact ⟨rfl, below_next D5 hb⟩
      · have h8f : ((k : Int) == 8) = false := by simpa using h8
        clear h8
        obtain ⟨y, hy⟩ : ∃ y, y = x.take 8 := ⟨_, rfl⟩
        have hx8 : (ByteArray.mk x.toArray).extract 0 (min (x.length : Int) 8).toNat = ⟨y.toArray⟩ := by rw [hy]; exact cut8 x
        have hyl : y.length ≤ 8 := by rw [hy, List.length_take]; omega
        have hta2 := hta _ _ _ y wr h5r.fa (by omega)
        have his : a'.ends (a'.after y) = true → fst.length ≤ y.length ∧ (y.length = fst.length → Op.bytesLess y fst = false) := by
          intro h
          have := HF.out.1.least y ((ends_after hfit y).1 h)
          exact ⟨this.1, fun hl => bytesLess_first fst y hl (this.2 hl)⟩
        generalize a'.ends (a'.after y) = is at hta2 his
        clear hy hta hfi hli hal hwb
        cases is with
        | false =>
          clear his
          go_wp2_with fail
          refine hta2.mono ?_
          rintro e w13 ⟨rfl, d13⟩
          clear hta2
          go_wp2_with fail
          go_roundw
          case rel => exact ⟨k + 1, by omega, by go_num, below_next hb d13⟩
          case measure => simp [intOf]; omega
        | true =>
          obtain ⟨hle, hbl⟩ := his rfl
          clear his
          have hlt2 : decide ((y.length : Int) < (fst.length : Int)) = false := by simp; omega
          by_cases hyf : y.length = fst.length
          · have hbl := hbl hyf
            have heq : ((y.length : Int) == (fst.length : Int)) = true := by simp; omega
            clear hyf
            go_wp2_with fail
            refine hta2.mono ?_
            rintro e w13 ⟨rfl, d13⟩
            clear hta2
            go_wp2_with fail
            go_roundw
            case rel => exact ⟨k + 1, by omega, by go_num, below_next hb d13⟩
            case measure => simp [intOf]; omega
          · have heq : ((y.length : Int) == (fst.length : Int)) = false := by simp; omega
            clear hyf hbl
            go_wp2_with fail
            refine hta2.mono ?_
            rintro e w13 ⟨rfl, d13⟩
            clear hta2
            go_wp2_with fail
            go_roundw
            case rel => exact ⟨k + 1, by omega, by go_num, below_next hb d13⟩
            case measure => simp [intOf]; omega
    · go_wp2_with fail
      go_ret
      exact ⟨rfl, below_next D5 hb⟩
theorem walkFirst_none (a : A) (As Af Ae : Option Addr) (cs cf ce : Nat) (vw : Value) (words : List (List UInt8)) (w : World) (hfa : FaAt w w.heap.size a (.slice As a.start.length cs) (.slice Af a.final.length cf) (.slice Ae a.edges.length ce))
    (h1 : a.start.length ≤ cs) (h2 : a.final.length ≤ cf) (h3 : a.edges.length ≤ ce) (h4 : cs ≤ maxLen) (h5 : cf ≤ maxLen) (h6 : ce ≤ maxLen) (hok : a.few.ok = true) (hw : ¬ ∃ x, a.few.takes x) (hvw : Strs w w.heap.size vw words) (hwl : words.length ≤ maxLen) (hwb : ∀ x ∈ words, x.length ≤ maxLen) :
    Calls Try.prog 3 #[vA a (.slice As a.start.length cs) (.slice Af a.final.length cf) (.slice Ae a.edges.length ce), vw] w (fun r w' => r = .returned (.bool true) ∧ Below w.heap.size w w') := by
  obtain ⟨W1, hW1⟩ : ∃ W1, w.alloc (.cells #[.int .i64 a.states, .slice As a.start.length cs, .slice Af a.final.length cf, .slice Ae a.edges.length ce] 25) = W1 := ⟨_, rfl⟩
  have d1 : Below w.heap.size w W1 := hW1 ▸ alloc1 w _
  have b1 : W1.heap[w.heap.size]? = some (.cells #[.int .i64 a.states, .slice As a.start.length cs, .slice Af a.final.length cf, .slice Ae a.edges.length ce] 25 (0, 0)) := by rw [← hW1]; exact heap_alloc_new w _
  have hfew := fun W (h : Below w.heap.size w W) => few_ok a As Af Ae cs cf ce W (hfa.below h h.size) h1 h2 h3 h4 h5 h6
  have hsm := a.few_small
  have hfit := hsm.fit hok
  have hfi := fun vs vf ve W h => first_none a.few vs vf ve W h hsm hok hw
  have hli := fun vs vf ve W h => live_got a.few vs vf ve W h hsm hok
  have hal := fun vs vf ve W h => alive_got a.few vs vf ve W h hsm hok
  have hta := fun vs vf ve word W h => takes_got a.few vs vf ve word W h hsm hok
  have hl0 : a.few.live.length = 0 := by
    rcases Nat.eq_zero_or_pos a.few.live.length with h | h
    · exact h
    · exact absurd ((live_some hfit).1 h) hw
  have hst : a.few.start.any (fun s => a.few.alive.any (fun x => s == x)) = false := by
    rw [← Bool.not_eq_true]
    exact fun h => hw ((starts_alive hfit).1 h)
  have hno : ∀ y, a.few.ends (a.few.after y) = false := by
    intro y
    rw [← Bool.not_eq_true]
    exact fun h => hw ⟨y, (ends_after hfit y).1 h⟩
  have hal1 := cl_len a.few.states.toNat (a.few.pairs true (fun _ => true)) a.few.final
  have hst1 := hfit.n
  have hfs := hfit.s
  unfold vA at hfew hfi hli hal hta ⊢
  generalize a.few = a' at *
  have hal2 : a'.alive.length ≤ 1000000 := by unfold A.alive; omega
  clear hal1 hst1 h1 h2 h3 h4 h5 h6 hfa hok hsm hw
  go_enter Try.func3, Try.ntmps3
  go_wp2_with fail
  refine (wakes_ok _).mono ?_
  rintro e w2 ⟨rfl, d2⟩
  obtain ⟨q0, q1, q2, q3⟩ := four (keepb b1 d2)
  go_wp2_with fail
  refine (hfew _ (below_next d1 d2)).mono ?_
  rintro e w3 ⟨⟨vs, vf, ve, rfl, o1, o2, o3⟩, d3⟩
  obtain ⟨A1, c1, rfl, _⟩ := o1.form
  obtain ⟨A2, n2, c2, rfl⟩ := o2.any
  obtain ⟨A3, n3, c3, rfl⟩ := o3.any
  have h5 := in5_new w3 a' _ _ _ o1 o2 o3
  have D5 := below_next (below_next (below_next d1 d2) d3) (alloc1 w3 (.cells #[.int .i64 a'.states, .slice A1 a'.start.length c1, .slice A2 n2 c2, .slice A3 n3 c3] 25))
  clear d1 d2 d3 o1 o2 o3 q0 q1 q2 q3 b1 hW1 hfew
  go_wp2_with fail
  refine (hfi _ _ _ _ h5.fa).mono ?_
  rintro e w6 ⟨rfl, d6⟩
  replace h5 := h5.next d6
  replace D5 := below_next D5 d6
  clear d6
  obtain ⟨q0, q1, q2, q3⟩ := four h5.h
  go_wp2_with fail
  refine (hli _ _ _ _ h5.fa).mono ?_
  rintro e w7 ⟨⟨A7, c7, rfl, _⟩, d7⟩
  rw [hl0]
  clear hl0
  replace h5 := h5.next d7
  replace D5 := below_next D5 d7
  clear d7 q0 q1 q2 q3
  obtain ⟨q0, q1, q2, q3⟩ := four h5.h
  go_wp2_with fail
  refine (hal _ _ _ _ h5.fa).mono ?_
  rintro e w8 ⟨⟨A8, c8, rfl, ha8⟩, d8⟩
  replace h5 := h5.next d8
  replace D5 := below_next D5 d8
  clear d8 q0 q1 q2 q3
  obtain ⟨q0, q1, q2, q3⟩ := four h5.h
  obtain ⟨W9, hW9⟩ : ∃ W9, w8.alloc (.cells #[.slice A8 a'.alive.length c8] 22) = W9 := ⟨_, rfl⟩
  have d9 : Below w8.heap.size w8 W9 := hW9 ▸ alloc1 w8 _
  have p9 : W9.cell? ⟨w8.heap.size, 0, none⟩ = some (.slice A8 a'.alive.length c8) := by rw [← hW9, cell_new]; rfl
  replace h5 := h5.next d9
  replace D5 := below_next D5 d9
  clear q0 q1 q2 q3
  have hpr := first_pred w8.heap.size _ a'.alive W9 p9 (ha8.below d9 d9.size) hal2
  obtain ⟨q0, q1, q2, q3⟩ := four h5.h
  have hcf := containsFunc_int _ _ a'.start (fun _ => True) _ W9 h5.fa.s hpr (fun _ _ => trivial) hfs
  rw [hst] at hcf
  clear hpr p9 ha8 hst d9
  generalize a'.alive.length = na at *
  go_wp2_with fail
  refine hcf.mono ?_
  rintro e w10 ⟨rfl, d10⟩
  replace h5 := h5.next d10
  replace D5 := below_next D5 d10
  clear d10 q0 q1 q2 q3 hcf
  obtain ⟨q0, q1, q2, q3⟩ := four h5.h
  obtain ⟨Aw, cw, rfl, _⟩ := id hvw
  unfold maxLen at hwl
  go_wp2_with fail
  go_loopw [112] (fun i wr => ∃ k : Nat, k ≤ words.length ∧ i = .int .i64 k ∧ Below w10.heap.size w10 wr) (fun i _ => words.length - (intOf i).toNat)
  case atStart => exact ⟨0, Nat.zero_le _, rfl, Below.refl _ _⟩
  case round =>
    obtain ⟨k, hk, rfl, hb⟩ := hrel
    have h5r := h5.next hb
    by_cases hlt : k < words.length
    · obtain ⟨bw, ow, rfl, hbw, hcw⟩ := strAt hvw (by omega)
      have hc := ((below_next D5 hb).cell (p := ⟨bw, ow + k, none⟩) hbw).trans (hcw k hlt)
      have hxl := hwb _ (List.getElem_mem hlt)
      unfold maxLen at hxl
      generalize words[k] = x at hc hxl
      obtain ⟨q0, q1, q2, q3⟩ := four h5r.h
      clear hcw
      by_cases h8 : ((k : Int) == 8) = true
      · clear hta hfi hli hal hwb hno
        go_wp2_with fail
        go_ret
        exact ⟨rfl, below_next D5 hb⟩
      · have h8f : ((k : Int) == 8) = false := by simpa using h8
        clear h8
        obtain ⟨y, hy⟩ : ∃ y, y = x.take 8 := ⟨_, rfl⟩
        have hx8 : (ByteArray.mk x.toArray).extract 0 (min (x.length : Int) 8).toNat = ⟨y.toArray⟩ := by rw [hy]; exact cut8 x
        have hyl : y.length ≤ 8 := by rw [hy, List.length_take]; omega
        have hta2 := hta _ _ _ y wr h5r.fa (by omega)
        rw [hno y] at hta2
        clear hy hta hfi hli hal hwb hno
        go_wp2_with fail
        refine hta2.mono ?_
        rintro e w13 ⟨rfl, d13⟩
        clear hta2
        go_wp2_with fail
        go_roundw
        case rel => exact ⟨k + 1, by omega, by go_num, below_next hb d13⟩
        case measure => simp [intOf]; omega
    · go_wp2_with fail
      go_ret
      exact ⟨rfl, below_next D5 hb⟩
end Go.Proofs.Ytakldmbbmefnbaa
