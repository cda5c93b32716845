import Derived.Test.YtakldmbbmefnbaaRises
namespace Go.Proofs.Ytakldmbbmefnbaa
open Go.RowKit
set_option maxRecDepth 100000
set_option maxHeartbeats 2000000

attribute [local go_sem] Oper.semAt_some
theorem But.base {S : Nat → Prop} {a0 a w : World} (h : But S a w) (hb : Below a0.heap.size a0 a) (hs : ∀ k, S k → a0.heap.size ≤ k) : Below a0.heap.size a0 w :=
  ⟨h.os.trans hb.os, h.tape.trans hb.tape, h.output.trans hb.output, Nat.le_trans hb.size h.size, fun k hk => (h.block k (Nat.lt_of_lt_of_le hk hb.size) (fun e => Nat.lt_irrefl k (Nat.lt_of_lt_of_le hk (hs k e)))).trans (hb.block k hk)⟩
theorem But.near {S : Nat → Prop} {a w w' : World} {B : Nat} (h : But S a w) (hn : Near B w w') (hB : a.heap.size ≤ B) : But S a w' :=
  ⟨hn.os.trans h.os, hn.tape.trans h.tape, hn.output.trans h.output, Nat.le_trans h.size hn.size, fun k hk hs => by
    have hlt : k < a.heap.size := hk
    have ho : w.heap[k]? = some a.heap[k] := (h.block k hk hs).trans (Array.getElem?_eq_getElem hlt)
    rw [hn.block k _ ho (.inl (by omega)), Array.getElem?_eq_getElem hlt]⟩
theorem getD_ff {L : Array Bool} {i : Nat} (h : L.getD i true = false) : L.getD i false = false := by
  by_cases hi : i < L.size
  · simpa [Array.getD, hi] using h
  · simp [Array.getD, hi] at h
theorem getD_set_eq {L : Array Bool} {i : Nat} {d : Bool} (h : i < L.size) : (L.setIfInBounds i true).getD i d = true := by simp [h]
theorem getD_set_ne {L : Array Bool} {i j : Nat} {d : Bool} (h : i ≠ j) : (L.setIfInBounds i true).getD j d = L.getD j d := by
  simp only [Array.getD_eq_getD_getElem?]
  rw [Array.getElem?_setIfInBounds_ne h]
theorem stepIn_yes {F : Fence} {n : Nat} {P : Program} {ops : Array Oper} {Q : Exit → Act → World → Prop} {S : World → Prop} {fin : Act} {o : Oper} {w : World} (hw : Region.wanted o (yielded ops fin.tmps) = true)
    (h1 : ∀ f, o.about P w fin.eval = some f → F.fn f) (h2 : ∀ (a : Act) (K : Act → World → Prop), (∀ w', S w' → K (a.put o.dst (valOf fin o)) w') → o.uponIn F n P a K Q ((o.semAt F.round fin.eval).run P w)) : stepIn F n P ops Q S fin o w := by
  unfold stepIn
  rw [if_pos hw]
  exact ⟨h1, h2⟩
theorem uponIn_append {F : Fence} {n : Nat} {P : Program} {Q : Exit → Act → World → Prop} {o : Oper} {a : Act} {K : Act → World → Prop} {w w1 : World} {ρ : Operand → Value} (s x : Operand) (t : TypeId)
    (ho : o.op = .call { callee := .builtin .append, args := #[s, x], argTypes := #[t, t] }) {v y v' : Value} (hs : ρ s = v) (hy : ρ x = y) (hrun : (Builtin.append_ #[t, t] o.type #[v, y]).run P w = .ok v' w1) (hK : K (a.put o.dst v') w1) : o.uponIn F n P a K Q ((o.semAt F.round ρ).run P w) := by
  rw [Oper.semAt_plain F _ _ (by rw [ho]; intro c hc'; cases hc')]
  simp [execOp, ho, resolve, invoke, builtin, hs, hy, hrun, Result.andThen]
  exact hK
theorem marks_nil (n : Nat) : ((marks n []).map Value.bool).toArray = madeCells #[Value.bool false] n := by
  have h : (madeCells #[Value.bool false] n) = (List.replicate n (.bool false)).toArray := by rw [← toList_madeCells_one]
  rw [h]
  congr 1
  apply List.ext_getElem?
  intro j
  by_cases hj : j < n
  · simp [marks, hj]
  · simp [marks, hj]
theorem Own.at_ {e : TypeId} {w : World} {base : Nat} {v : Value} {xs : List Int} (h : Own encI 1 e w base v xs) (h0 : 0 < xs.length) : ∃ b c, v = .slice (some ⟨b, 0, none⟩) xs.length c ∧ blk v = some b ∧ ∀ k (h : k < xs.length), w.cell? ⟨b, k, none⟩ = some (.int .i64 xs[k]) := by
  rcases h with ⟨rfl, _⟩ | ⟨b, cap, cur, rfl, hb, hp, h1, h2, hg, hs, ht⟩
  · exact absurd h0 (Nat.lt_irrefl 0)
  · refine ⟨b, cap, rfl, by obtain ⟨m, rfl⟩ : ∃ m, cap = m + 1 := ⟨cap - 1, by omega⟩; rfl, fun k hk => ?_⟩
    rw [cell_at hg k, ← Array.getElem?_toList]
    rw [Nat.mul_one, encI_flat] at ht
    have h3 : (cur.toList.take xs.length)[k]? = (xs.map (Value.int .i64))[k]? := by rw [ht]
    rw [List.getElem?_take_of_lt hk] at h3
    rw [h3]
    simp [hk]
theorem below_putObj {B : Nat} {w w' : World} (h : Below B w w') {b : Nat} (hb : B ≤ b) (o : Obj) : Below B w (w'.putObj b o) :=
  ⟨h.os, h.tape, h.output, by simpa using h.size, fun k hk => (World.putObj_heap_other (by omega)).trans (h.block k hk)⟩
theorem Own.putObj {α : Type} {enc : α → List Value} {size : Nat} {e : TypeId} {w : World} {base : Nat} {v : Value} {xs : List α} (h : Own enc size e w base v xs) {b : Nat} (o : Obj) {ds : Option (List Deferred)} (hb : w.heap[b]? = some (.deferred ds)) : Own enc size e (w.putObj b o) base v xs := by
  refine h.kept (row := some b) ⟨rfl, rfl, rfl, by simp, fun k hk hne => World.putObj_heap_other (fun e => hne (by rw [e]))⟩ (fun k hk e => ?_)
  obtain ⟨o', ho', hc⟩ := h.ctl k hk
  cases e
  rw [hb] at ho'
  cases ho'
  simp [isCtl] at hc
theorem grown_ok (b : Nat) (a : A) (vs vf ve vl fv : Value) (l : List Int) (back : Bool) (p : E → Bool) (w : World) (hk : Wk w b a vs vf ve) (ha : a.ok = true) (hl : Ints w w.heap.size vl l) (hlo : l.all (inB a.states) = true)
    (hp : Pred1 Try.prog vE fv (fun _ => True) p w) (hst : a.states ≤ 1000) (hll : l.length ≤ 1000000) (hne : a.edges.length ≤ 1000000) :
    Calls Try.prog 57 #[pw b, vl, .bool back, fv] w (fun r w' => ∃ v', r = .returned v' ∧ Own encI 1 3 w' w.heap.size v' (cl a.states.toNat (a.pairs back p) l) ∧ Below w.heap.size w w') := by
  obtain ⟨n, hn⟩ : ∃ n : Nat, a.states = n := ⟨a.states.toNat, by simp [A.ok] at ha; omega⟩
  obtain ⟨i1, hi1, hz1, hs1, hb1⟩ := info_parts info_ints
  obtain ⟨i2, hi2, hz2, hs2, hb2⟩ := info_parts info_bool
  obtain ⟨g, lb, rfl, hen, hpc⟩ := id hp
  obtain ⟨A0, c, rfl, hr⟩ := id hl
  have c0 := hk.c0
  have hlt := hk.lt
  rw [hn] at c0
  refine callsIn_wide.1 (callsIn_of_wp_marks (n := 0) Try.func57 rfl trivial ?_ rfl)
  simp only [Try.ntmps57, List.size_toArray, List.length_cons, List.length_nil, Nat.reduceAdd, Nat.reduceSub, Array.replicate_succ, Array.replicate_zero, List.push_toArray, List.append_toArray, List.nil_append, List.cons_append]
  have hwf : ∀ f, Fence.wide.fn f := fun _ => trivial
  have hwd : Fence.wide.depth = none := rfl
  have hk0 := hk
  have hp0 := hp
  have hlr := Lib.hid hr
  clear hp hpc hr hl hk
  have hB1 : i2.bytes * n ≤ 281474976710656 := by rw [hb2]; omega
  have hB2 : i1.bytes * n ≤ 281474976710656 := by rw [hb1]; omega
  have hN : n ≤ 4611686018427387904 := by omega
  obtain ⟨W1, hW1⟩ : ∃ W1, w.alloc (.cells #[.bool back] 4) = W1 := ⟨_, rfl⟩
  obtain ⟨W2, hW2⟩ : ∃ W2, W1.alloc (.cells (madeCells #[Value.bool false] n) 4) = W2 := ⟨_, rfl⟩
  obtain ⟨W3, hW3⟩ : ∃ W3, W2.alloc (.cells #[.slice (some ⟨W1.heap.size, 0, none⟩) n n] 121) = W3 := ⟨_, rfl⟩
  obtain ⟨W4, hW4⟩ : ∃ W4, W3.alloc (.cells (madeCells #[Value.slice none 0 0] n) 22) = W4 := ⟨_, rfl⟩
  obtain ⟨W5, hW5⟩ : ∃ W5, W4.alloc (.cells #[.slice (some ⟨W3.heap.size, 0, none⟩) n n] 40) = W5 := ⟨_, rfl⟩
  have d1 : Below w.heap.size w W1 := hW1 ▸ alloc1 w _
  have d2 : Below W1.heap.size W1 W2 := hW2 ▸ alloc1 W1 _
  have d3 : Below W2.heap.size W2 W3 := hW3 ▸ alloc1 W2 _
  have d4 : Below W3.heap.size W3 W4 := hW4 ▸ alloc1 W3 _
  have d5 : Below W4.heap.size W4 W5 := hW5 ▸ alloc1 W4 _
  have e1 := (d1.cell (p := ⟨b, 0, none⟩) hlt).trans c0
  have e2 := (d2.cell (p := ⟨b, 0, none⟩) (World.block_lt_of_cell? _ _ e1)).trans e1
  have e3 := (d3.cell (p := ⟨b, 0, none⟩) (World.block_lt_of_cell? _ _ e2)).trans e2
  refine (wpIn_wide (n := 0)).2 ?_
  go_wp2_with first
    | (at_make; refine wpList_make_z _ rfl _ _ 121 rfl _ i2 _ 1 Try.underlying121 hi2 hz2 hs2 n rfl rfl hB1 hN ?_)
    | (at_make; refine wpList_make_z _ rfl _ _ 40 rfl _ i1 _ 1 Try.underlying40 hi1 hz1 hs1 n rfl rfl hB2 hN ?_)
    | (go_at_call 97; refine (edges_ok b g lb _).mono ?_; rintro e w2 ⟨rfl, rfl⟩)
  obtain ⟨W6, hW6⟩ : ∃ W6, (W5.alloc (.cells #[pw b] 71)).alloc (.cells #[.func (.func g) #[] lb] 87) = W6 := ⟨_, rfl⟩
  have d6 : Below W5.heap.size W5 W6 := hW6 ▸ below_next (alloc1 W5 _) (alloc1 _ _)
  have s5 : W5.heap.size = W4.heap.size + 1 := by rw [← hW5]; simp
  have s4 : W4.heap.size = W3.heap.size + 1 := by rw [← hW4]; simp
  have s3 : W3.heap.size = W2.heap.size + 1 := by rw [← hW3]; simp
  have s2 : W2.heap.size = W1.heap.size + 1 := by rw [← hW2]; simp
  have s1 : W1.heap.size = w.heap.size + 1 := by rw [← hW1]; simp
  have s6 : W6.heap.size = W5.heap.size + 2 := by rw [← hW6]; simp
  have f1 : W6.heap[w.heap.size]? = some (.cells #[.bool back] 4 (0, 0)) := by
    rw [d6.block _ (by omega), d5.block _ (by omega), d4.block _ (by omega), d3.block _ (by omega), d2.block _ (by omega), ← hW1]; exact heap_alloc_new w _
  have f2 : W6.heap[W1.heap.size]? = some (.cells (madeCells #[Value.bool false] n) 4 (0, 0)) := by
    rw [d6.block _ (by omega), d5.block _ (by omega), d4.block _ (by omega), d3.block _ (by omega), ← hW2]; exact heap_alloc_new W1 _
  have f3 : W6.heap[W2.heap.size]? = some (.cells #[.slice (some ⟨W1.heap.size, 0, none⟩) n n] 121 (0, 0)) := by
    rw [d6.block _ (by omega), d5.block _ (by omega), d4.block _ (by omega), ← hW3]; exact heap_alloc_new W2 _
  have f4 : W6.heap[W3.heap.size]? = some (.cells (madeCells #[Value.slice none 0 0] n) 22 (0, 0)) := by
    rw [d6.block _ (by omega), d5.block _ (by omega), ← hW4]; exact heap_alloc_new W3 _
  have f5 : W6.heap[W4.heap.size]? = some (.cells #[.slice (some ⟨W3.heap.size, 0, none⟩) n n] 40 (0, 0)) := by
    rw [d6.block _ (by omega), ← hW5]; exact heap_alloc_new W4 _
  have f6 : W6.heap[W5.heap.size]? = some (.cells #[pw b] 71 (0, 0)) := by
    rw [← hW6, Below.heap_alloc _ _ _ (by simp)]; exact heap_alloc_new W5 _
  have f7 : W6.heap[W5.heap.size + 1]? = some (.cells #[.func (.func g) #[] lb] 87 (0, 0)) := by
    rw [← hW6]; have := heap_alloc_new (W5.alloc (.cells #[pw b] 71)) (.cells #[.func (.func g) #[] lb] 87); rwa [World.size_alloc] at this
  have d : Below w.heap.size w W6 := below_next d1 (below_next d2 (below_next d3 (below_next d4 (below_next d5 d6))))
  refine (wpIn_wide (n := 0)).1 ?_
  refine wp_rangeFunc_iter (gf := 118) (lb := #[pw W5.heap.size, pw (W5.heap.size + 1)]) rfl Try.call118
    (edges_iter b W5.heap.size (W5.heap.size + 1) (.func (.func g) #[] lb) a vs vf ve p w hk0 hp0 hne) ?ps
    (fun k W => But (fun j => j = W3.heap.size) W6 W ∧ ∃ rows, Rows W W6.heap.size W3.heap.size n rows (((a.edges.filter p).take k).map (turned back)))
    (fun _ _ => False) ?hI (fun _ _ _ h => h.elim) ?hD ?h0 ?hround ?hdone (fun _ _ _ _ h => h.elim)
  case ps => intro x hx; obtain ⟨e, _, rfl⟩ := List.mem_map.1 hx; rfl
  case hI =>
    rintro k W W' ⟨hb, rows, hr⟩ hn
    rw [hW6] at hn
    exact ⟨hb.near hn (Nat.le_refl _), rows, hr.near hn⟩
  case hD =>
    rintro k W ⟨hb, rows, hr⟩
    refine ⟨hb.base d (fun k e => by omega), ?_, ?_⟩
    · exact cell_at (hb.heap f6 (by omega)) 0
    · exact cell_at (hb.heap f7 (by omega)) 0
  case h0 =>
    rw [hW6]
    exact ⟨But.refl _ _, _, rows_start f4⟩
  case hround =>
    rintro L k hk W ⟨hb, rows, hr⟩
    have hk' : k < (a.edges.filter p).length := by simpa using hk
    rw [List.getElem_map]
    generalize hE : (a.edges.filter p)[k] = ed
    have hmem : ed ∈ a.edges := by rw [← hE]; exact (List.mem_filter.1 (List.getElem_mem hk')).1
    unfold fromTo
    have HSS := Lib.hid (And.intro s1 (And.intro s2 (And.intro s3 (And.intro s4 (And.intro s5 s6)))))
    clear s1 s2 s3 s4 s5 s6
    gi_wp2
    refine ⟨KeepC.refl _, fun W8 hn2 => ?_⟩
    obtain ⟨s1, s2, s3, s4, s5, s6⟩ := HSS.out
    have hb2 := hb.near hn2 (by rw [hW6]; exact Nat.le_refl _)
    obtain ⟨ps, hps⟩ : ∃ ps, ((a.edges.filter p).take k).map (turned back) = ps := ⟨_, rfl⟩
    have hpl : ps.length ≤ 1000000 := by
      rw [← hps, List.length_map, List.length_take]
      have := List.length_filter_le p a.edges
      omega
    have hr2 := hr.near hn2
    rw [hps] at hr2
    have q1 := cell_at (hb2.heap f1 (by omega)) 0
    have q2 := cell_at (hb2.heap f5 (by omega)) 0
    simp only [List.getElem?_toArray, List.getElem?_cons_zero] at q1 q2
    clear hb hr hn2
    have hnx : ∀ h : k < (a.edges.filter p).length, ((a.edges.filter p).take (k + 1)).map (turned back) = ps ++ [turned back ed] := by
      intro h
      rw [List.take_succ_eq_append_getElem h, List.map_append, hps, hE]; rfl
    have hnx := hnx hk'
    have hbd : ed.src < n ∧ 0 ≤ ed.src ∧ ed.dst < n ∧ 0 ≤ ed.dst := by
      simp only [A.ok, Bool.and_eq_true, List.all_eq_true] at ha
      have := ha.2 ed hmem
      simp [mayE, inB, hn] at this
      omega
    obtain ⟨es, hes⟩ : ∃ es, es = a.edges := ⟨_, rfl⟩
    obtain ⟨ex, ey, ef, eset⟩ := ed
    simp only at hbd
    obtain ⟨x, rfl⟩ : ∃ x : Nat, ex = x := ⟨ex.toNat, by omega⟩
    obtain ⟨y, rfl⟩ : ∃ y : Nat, ey = y := ⟨ey.toNat, by omega⟩
    obtain ⟨hxn, _, hyn, _⟩ := hbd
    have hxn : x < n := by omega
    have hyn : y < n := by omega
    have HNX := Lib.hid hnx
    clear hnx hes hmem hE hk' hps
    have HSS := Lib.hid (And.intro s1 (And.intro s2 (And.intro s3 (And.intro s4 (And.intro s5 s6)))))
    clear s1 s2 s3 s4 s5 s6 f1 f2 f3 f4 f6 f7 d1 d2 d3 d4 d5 d6 e1 e2 e3 c0 hW1 hW2 hW3 hW4 hW5 hk0 hp0 hlt d
    cases back with
    | false =>
      have hxl : x < rows.length := by rw [hr2.len]; omega
      have hown := hr2.own x hxl
      obtain ⟨A1, c1, hrow, hle1⟩ := hown.form
      have hgn := cell_at hr2.g x
      have hr2g := hr2.g
      have h5b := hb2.heap f5 (show ¬ W4.heap.size = W3.heap.size by have := HSS.out; omega)
      rw [List.getElem?_toArray, List.getElem?_eq_getElem hxl, hrow] at hgn
      have hlt2 := World.block_lt_of_cell? _ _ q2
      have hlt3 := World.block_lt_of_cell? _ _ hgn
      have h5 : ((ps.length + 1 : Nat) : Int) ≤ 1000001 := by omega
      have hnl := nexts_len ps x
      have hbyt : (4 * ((nexts ps x).length + 1) + 4096) * 8 ≤ 140737488355328 := by omega
      have hwl2 : (nexts ps x).length + 1 ≤ 4611686018427387904 := by omega
      have hW2s : W6.heap.size ≤ W8.heap.size := hb2.size
      have hlen := hr2.len
      have HR := Lib.hid (And.intro hr2 hb2)
      have HN := Lib.hid (And.intro hnl (And.intro hle1 hxl))
      clear hr2 hb2 hnl hle1 hlen
      have blk8 : ∀ v w', (Own encI 1 3 w' W6.heap.size v (nexts ps x ++ [(y : Int)]) ∧ (W8.drew.alloc (.cells #[.int .i64 (y : Nat)] 3)).grownBy w' (blk rows[x]) ∧ (blk v = blk rows[x] ∨ (∃ k, W8.heap.size + 1 ≤ k ∧ blk v = some k) ∨ blk v = none)) → w'.heap[W4.heap.size]? = W8.heap[W4.heap.size]? ∧ w'.heap[W3.heap.size]? = W8.heap[W3.heap.size]? := by
        rintro v w' ⟨_, hg, _⟩
        constructor
        · rw [hg.block _ (Nat.lt_of_lt_of_le (show W4.heap.size < W8.drew.heap.size from hlt2) (by simp)) (fun e => own_ne hown h5b (by decide) e.symm), Below.heap_alloc _ _ _ (show W4.heap.size < W8.drew.heap.size from hlt2)]; rfl
        · rw [hg.block _ (Nat.lt_of_lt_of_le (show W3.heap.size < W8.drew.heap.size from hlt3) (by simp)) (fun e => own_ne hown hr2g (by decide) e.symm), Below.heap_alloc _ _ _ (show W3.heap.size < W8.drew.heap.size from hlt3)]; rfl
      have after8 : ∀ v w', (Own encI 1 3 w' W6.heap.size v (nexts ps x ++ [(y : Int)]) ∧ (W8.drew.alloc (.cells #[.int .i64 (y : Nat)] 3)).grownBy w' (blk rows[x]) ∧ (blk v = blk rows[x] ∨ (∃ k, W8.heap.size + 1 ≤ k ∧ blk v = some k) ∨ blk v = none)) → w'.cell? ⟨W4.heap.size, 0, none⟩ = some (.slice (some ⟨W3.heap.size, 0, none⟩) n n) ∧ w'.cell? ⟨W3.heap.size, x, none⟩ = some (.slice A1 (nexts ps x).length c1) := by
        intro v w' hS
        obtain ⟨h1, h2⟩ := blk8 v w' hS
        exact ⟨(World.cell?_of_block h1).trans q2, (World.cell?_of_block h2).trans hgn⟩
      have frz8 : ∀ v w', (Own encI 1 3 w' W6.heap.size v (nexts ps x ++ [(y : Int)]) ∧ (W8.drew.alloc (.cells #[.int .i64 (y : Nat)] 3)).grownBy w' (blk rows[x]) ∧ (blk v = blk rows[x] ∨ (∃ k, W8.heap.size + 1 ≤ k ∧ blk v = some k) ∨ blk v = none)) → w'.frozen? ⟨W3.heap.size, x, none⟩ = false := by
        intro v w' hS
        exact free_at ((blk8 v w' hS).2.trans hr2g) x
      gi_wp2_with fail
      refine wpIn_region_eff (by kernel_rfl) 8 (fun i => i != 8 && i != 10)
        (fun L w' => if L.getD 7 false = true then w' = W8.drew.alloc (.cells #[.int .i64 (y : Nat)] 3) else w' = W8.drew)
        (fun v w' => Own encI 1 3 w' W6.heap.size v (nexts ps x ++ [(y : Int)]) ∧ (W8.drew.alloc (.cells #[.int .i64 (y : Nat)] 3)).grownBy w' (blk rows[x]) ∧ (blk v = blk rows[x] ∨ (∃ k, W8.heap.size + 1 ≤ k ∧ blk v = some k) ∨ blk v = none))
        (fun v w' => ∃ w1, (Own encI 1 3 w1 W6.heap.size v (nexts ps x ++ [(y : Int)]) ∧ (W8.drew.alloc (.cells #[.int .i64 (y : Nat)] 3)).grownBy w1 (blk rows[x]) ∧ (blk v = blk rows[x] ∨ (∃ k, W8.heap.size + 1 ≤ k ∧ blk v = some k) ∨ blk v = none)) ∧ w' = w1.setCell ⟨W3.heap.size, x, none⟩ v)
        (fun v => { tmps := #[pw b, .slice A0 l.length c, .bool false, .func (.func g) #[] lb, undef, undef, .pointer (some ⟨w.heap.size, 0, none⟩), undef, .slice none 0 0, .pointer (some ⟨W2.heap.size, 0, none⟩), .pointer (some ⟨W4.heap.size, 0, none⟩), .int .i64 (x : Nat), .int .i64 (y : Nat), undef, undef, undef, undef, undef, undef, undef, pw b, .pointer (some ⟨b, 0, none⟩), .pointer (some ⟨b, 0, none⟩), .pointer (some ⟨b, 0, none⟩), .int .i64 (n : Nat), .slice (some ⟨W1.heap.size, 0, none⟩) n n, pw b, .pointer (some ⟨b, 0, none⟩), .pointer (some ⟨b, 0, none⟩), .pointer (some ⟨b, 0, none⟩), .int .i64 (n : Nat), .slice (some ⟨W3.heap.size, 0, none⟩) n n, pw b, .func (.func g) #[] lb, .func (.func 118) #[] #[pw W5.heap.size, pw (W5.heap.size + 1)], .int .i64 (x : Nat), .int .i64 (y : Nat), .bool false, undef, undef, .slice (some ⟨W3.heap.size, 0, none⟩) n n, .int .i64 (x : Nat), .slice (some ⟨W3.heap.size, 0, none⟩) n n, .int .i64 (x : Nat), .pointer (some ⟨W3.heap.size, x, none⟩), .slice A1 (nexts ps x).length c1, .int .i64 (y : Nat), .slice (some ⟨W8.heap.size, 0, none⟩) 1 1, v, .pointer (some ⟨W3.heap.size, x, none⟩), undef, undef, undef, undef, undef, undef, undef, undef, undef, undef, undef, undef, undef, undef, undef, undef, undef, undef, undef, undef, undef, undef, undef, undef, undef, undef, undef, undef, undef, undef, undef, undef, undef, undef, undef], defers := [] })
        (by kernel_rfl) (by kernel_rfl) (by kernel_rfl) (by kernel_rfl) (by decide) rfl rfl ?hfin (fun _ => rfl) ?hsame ?hval ?h0 ?hstep0 ?hstepe ?hstep1 ?hlast ?hlw ?hend
      case hfin => intro v; kernel_rfl
      case hsame =>
        intro v v' i o hi hpi
        have hi11 : i < 11 := (Array.getElem?_eq_some_iff.1 hi).1
        obtain rfl | rfl | rfl | rfl | rfl | rfl | rfl | rfl | rfl | rfl | rfl : i = 0 ∨ i = 1 ∨ i = 2 ∨ i = 3 ∨ i = 4 ∨ i = 5 ∨ i = 6 ∨ i = 7 ∨ i = 8 ∨ i = 9 ∨ i = 10 := by omega
        all_goals first
          | (cases hi; rfl)
          | exact absurd hpi (by decide)
      case hval => intro v o ho; cases ho; rfl
      case h0 => exact rfl
      case hstep0 =>
        intro i o hi hpi L v w' hLs hLi hS
        have hc : w'.cell? ⟨W4.heap.size, 0, none⟩ = some (.slice (some ⟨W3.heap.size, 0, none⟩) n n) ∧ w'.cell? ⟨W3.heap.size, x, none⟩ = some (.slice A1 (nexts ps x).length c1) := by
          split at hS
          · subst hS
            exact ⟨((alloc1 W8.drew _).cell (p := ⟨W4.heap.size, 0, none⟩) hlt2).trans q2, ((alloc1 W8.drew _).cell (p := ⟨W3.heap.size, x, none⟩) hlt3).trans hgn⟩
          · subst hS
            exact ⟨q2, hgn⟩
        obtain ⟨hc1, hc2⟩ := hc
        have hi11 : i < 11 := (Array.getElem?_eq_some_iff.1 hi).1
        by_cases h7 : i = 7
        · subst h7
          cases hi
          have h7f : L.getD 7 false = false := getD_ff hLi
          rw [h7f] at hS
          simp only [Bool.false_eq_true, if_false] at hS
          subst hS
          refine ⟨stepIn_yes rfl (fun f _ => trivial) ?_, fun h => Bool.noConfusion (h : true = false)⟩
          intro a K hK
          have hset : (L.setIfInBounds 7 true).getD 7 false = true := getD_set_eq (by rw [hLs]; decide)
          go_simp
          exact hK _ (by rw [if_pos hset]; rfl)
        · have hset : (L.setIfInBounds i true).getD 7 false = L.getD 7 false := getD_set_ne (fun h => h7 h)
          rw [← hset] at hS
          obtain rfl | rfl | rfl | rfl | rfl | rfl | rfl | rfl | rfl | rfl | rfl : i = 0 ∨ i = 1 ∨ i = 2 ∨ i = 3 ∨ i = 4 ∨ i = 5 ∨ i = 6 ∨ i = 7 ∨ i = 8 ∨ i = 9 ∨ i = 10 := by omega
          all_goals first
            | exact absurd hpi (by decide)
            | exact absurd rfl h7
            | skip
          all_goals
            cases hi
            refine ⟨stepIn_yes rfl (fun f _ => trivial) ?_, fun h => Bool.noConfusion (h : true = false)⟩
            intro a K hK
            go_simp
            exact hK _ hS
      case hstepe =>
        intro o ho L v w' hd hS
        cases ho
        have h7 : L.getD 7 false = true := hd { on := 7, ground := Ground.data } (by simp) rfl
        rw [if_pos h7] at hS
        subst hS
        refine ⟨rfl, fun f _ => trivial, ?_⟩
        intro a K hK
        have hi0 := info_parts info_int
        obtain ⟨i0, hi, hz0, hz1, hz2⟩ := hi0
        have hown2 : Own encI 1 3 (W8.drew.alloc (.cells #[.int .i64 (y : Nat)] 3)) W6.heap.size (.slice A1 (nexts ps x).length c1) (nexts ps x) := by
          have := hown.below (w' := W8.drew.alloc (.cells #[.int .i64 (y : Nat)] 3)) ((Below.refl _ W8).drew.alloc (Nat.le_refl _) _)
          rwa [hrow] at this
        obtain ⟨v', w1, hrun, ho1, hg1, hb1⟩ := run_append_my (P := Try.prog) (W8.drew.alloc (.cells #[.int .i64 (y : Nat)] 3)) encI_len encI_one 22 22 3 i0 _ Try.underlying22 hi hz0 hz1 hz2 rfl (by decide) hown2
          (Sl_one (enc := encI) (size := 1) W8.drew (y : Int) 3 1) hbyt hwl2 (by simp; omega)
        refine uponIn_append (.tmp 45) (.tmp 47) 22 rfl rfl rfl hrun (hK _ _ ⟨ho1, ?_, ?_⟩)
        · rw [hrow]; exact hg1
        rw [hrow]
        rcases hb1 with hb1 | hb1 | hb1
        · exact .inl hb1
        · exact .inr (.inl ⟨_, by simp, hb1⟩)
        · exact .inr (.inr hb1)
      case hstep1 =>
        intro i o hi hie hil hnd v w' hS
        obtain ⟨hc1, hc2⟩ := after8 v w' hS
        have h7 : i ≠ 7 := by rintro rfl; exact absurd (hnd.symm.trans (by kernel_rfl : _ = true)) (by decide)
        have hi11 : i < 11 := (Array.getElem?_eq_some_iff.1 hi).1
        obtain rfl | rfl | rfl | rfl | rfl | rfl | rfl | rfl | rfl | rfl | rfl : i = 0 ∨ i = 1 ∨ i = 2 ∨ i = 3 ∨ i = 4 ∨ i = 5 ∨ i = 6 ∨ i = 7 ∨ i = 8 ∨ i = 9 ∨ i = 10 := by omega
        all_goals first
          | exact absurd rfl h7
          | exact absurd rfl hie
          | exact absurd rfl hil
          | skip
        all_goals
          cases hi
          refine stepIn_yes rfl (fun f _ => trivial) ?_
          intro a K hK
          go_simp
          exact hK _ hS
      case hlast =>
        intro o ho v w' hS
        cases ho
        obtain ⟨hc1, hc2⟩ := after8 v w' hS
        have hc3 : w'.frozen? ⟨W3.heap.size, x, none⟩ = false := frz8 v w' hS
        obtain ⟨A2, c2, rfl, _⟩ := hS.1.form
        refine stepIn_yes rfl (fun f _ => trivial) ?_
        intro a K hK
        go_simp
        exact hK _ ⟨w', hS, by simp⟩
      case hlw => intro v; rfl
      case hend =>
        rintro v w' ⟨w1, hS, rfl⟩
        gi_wp2
        obtain ⟨hr2, hb2⟩ := HR.out
        obtain ⟨ho, hg, hv⟩ := hS
        have hba : Below W8.heap.size W8 (W8.drew.alloc (.cells #[.int .i64 (y : Nat)] 3)) := (Below.refl _ W8).drew.alloc (Nat.le_refl _) _
        have hown2 := hown.below hba
        refine ⟨((KeepC.of_below hba).grown hg hown2.ctl).setCell _ _, ?_, rows.set x v, ?_⟩
        · exact ((hb2.drew.alloc _).trans (But.of_grown hg) (fun k hk e => absurd (hown2.lt k e).1 (by omega))).setCell (fun _ => rfl) _
        · rw [HNX.out]
          exact (hr2.near (Near.of_below (B := 0) hba)).put HN.out.2.2 ho hg (by simpa using hv)
    | true =>
      have hxl : y < rows.length := by rw [hr2.len]; omega
      have hown := hr2.own y hxl
      obtain ⟨A1, c1, hrow, hle1⟩ := hown.form
      have hgn := cell_at hr2.g y
      have hr2g := hr2.g
      have h5b := hb2.heap f5 (show ¬ W4.heap.size = W3.heap.size by have := HSS.out; omega)
      rw [List.getElem?_toArray, List.getElem?_eq_getElem hxl, hrow] at hgn
      have hlt2 := World.block_lt_of_cell? _ _ q2
      have hlt3 := World.block_lt_of_cell? _ _ hgn
      have h5 : ((ps.length + 1 : Nat) : Int) ≤ 1000001 := by omega
      have hnl := nexts_len ps y
      have hbyt : (4 * ((nexts ps y).length + 1) + 4096) * 8 ≤ 140737488355328 := by omega
      have hwl2 : (nexts ps y).length + 1 ≤ 4611686018427387904 := by omega
      have hW2s : W6.heap.size ≤ W8.heap.size := hb2.size
      have hlen := hr2.len
      have HR := Lib.hid (And.intro hr2 hb2)
      have HN := Lib.hid (And.intro hnl (And.intro hle1 hxl))
      clear hr2 hb2 hnl hle1 hlen
      have blk8 : ∀ v w', (Own encI 1 3 w' W6.heap.size v (nexts ps y ++ [(x : Int)]) ∧ (W8.drew.alloc (.cells #[.int .i64 (x : Nat)] 3)).grownBy w' (blk rows[y]) ∧ (blk v = blk rows[y] ∨ (∃ k, W8.heap.size + 1 ≤ k ∧ blk v = some k) ∨ blk v = none)) → w'.heap[W4.heap.size]? = W8.heap[W4.heap.size]? ∧ w'.heap[W3.heap.size]? = W8.heap[W3.heap.size]? := by
        rintro v w' ⟨_, hg, _⟩
        constructor
        · rw [hg.block _ (Nat.lt_of_lt_of_le (show W4.heap.size < W8.drew.heap.size from hlt2) (by simp)) (fun e => own_ne hown h5b (by decide) e.symm), Below.heap_alloc _ _ _ (show W4.heap.size < W8.drew.heap.size from hlt2)]; rfl
        · rw [hg.block _ (Nat.lt_of_lt_of_le (show W3.heap.size < W8.drew.heap.size from hlt3) (by simp)) (fun e => own_ne hown hr2g (by decide) e.symm), Below.heap_alloc _ _ _ (show W3.heap.size < W8.drew.heap.size from hlt3)]; rfl
      have after8 : ∀ v w', (Own encI 1 3 w' W6.heap.size v (nexts ps y ++ [(x : Int)]) ∧ (W8.drew.alloc (.cells #[.int .i64 (x : Nat)] 3)).grownBy w' (blk rows[y]) ∧ (blk v = blk rows[y] ∨ (∃ k, W8.heap.size + 1 ≤ k ∧ blk v = some k) ∨ blk v = none)) → w'.cell? ⟨W4.heap.size, 0, none⟩ = some (.slice (some ⟨W3.heap.size, 0, none⟩) n n) ∧ w'.cell? ⟨W3.heap.size, y, none⟩ = some (.slice A1 (nexts ps y).length c1) := by
        intro v w' hS
        obtain ⟨h1, h2⟩ := blk8 v w' hS
        exact ⟨(World.cell?_of_block h1).trans q2, (World.cell?_of_block h2).trans hgn⟩
      have frz8 : ∀ v w', (Own encI 1 3 w' W6.heap.size v (nexts ps y ++ [(x : Int)]) ∧ (W8.drew.alloc (.cells #[.int .i64 (x : Nat)] 3)).grownBy w' (blk rows[y]) ∧ (blk v = blk rows[y] ∨ (∃ k, W8.heap.size + 1 ≤ k ∧ blk v = some k) ∨ blk v = none)) → w'.frozen? ⟨W3.heap.size, y, none⟩ = false := by
        intro v w' hS
        exact free_at ((blk8 v w' hS).2.trans hr2g) y
      gi_wp2_with fail
      refine wpIn_region_eff (by kernel_rfl) 8 (fun i => i != 8 && i != 10)
        (fun L w' => if L.getD 7 false = true then w' = W8.drew.alloc (.cells #[.int .i64 (x : Nat)] 3) else w' = W8.drew)
        (fun v w' => Own encI 1 3 w' W6.heap.size v (nexts ps y ++ [(x : Int)]) ∧ (W8.drew.alloc (.cells #[.int .i64 (x : Nat)] 3)).grownBy w' (blk rows[y]) ∧ (blk v = blk rows[y] ∨ (∃ k, W8.heap.size + 1 ≤ k ∧ blk v = some k) ∨ blk v = none))
        (fun v w' => ∃ w1, (Own encI 1 3 w1 W6.heap.size v (nexts ps y ++ [(x : Int)]) ∧ (W8.drew.alloc (.cells #[.int .i64 (x : Nat)] 3)).grownBy w1 (blk rows[y]) ∧ (blk v = blk rows[y] ∨ (∃ k, W8.heap.size + 1 ≤ k ∧ blk v = some k) ∨ blk v = none)) ∧ w' = w1.setCell ⟨W3.heap.size, y, none⟩ v)
        (fun v => { tmps := #[pw b, .slice A0 l.length c, .bool true, .func (.func g) #[] lb, undef, undef, .pointer (some ⟨w.heap.size, 0, none⟩), undef, .slice none 0 0, .pointer (some ⟨W2.heap.size, 0, none⟩), .pointer (some ⟨W4.heap.size, 0, none⟩), .int .i64 (y : Nat), .int .i64 (x : Nat), undef, undef, undef, undef, undef, undef, undef, pw b, .pointer (some ⟨b, 0, none⟩), .pointer (some ⟨b, 0, none⟩), .pointer (some ⟨b, 0, none⟩), .int .i64 (n : Nat), .slice (some ⟨W1.heap.size, 0, none⟩) n n, pw b, .pointer (some ⟨b, 0, none⟩), .pointer (some ⟨b, 0, none⟩), .pointer (some ⟨b, 0, none⟩), .int .i64 (n : Nat), .slice (some ⟨W3.heap.size, 0, none⟩) n n, pw b, .func (.func g) #[] lb, .func (.func 118) #[] #[pw W5.heap.size, pw (W5.heap.size + 1)], .int .i64 (x : Nat), .int .i64 (y : Nat), .bool true, .int .i64 (y : Nat), .int .i64 (x : Nat), .slice (some ⟨W3.heap.size, 0, none⟩) n n, .int .i64 (y : Nat), .slice (some ⟨W3.heap.size, 0, none⟩) n n, .int .i64 (y : Nat), .pointer (some ⟨W3.heap.size, y, none⟩), .slice A1 (nexts ps y).length c1, .int .i64 (x : Nat), .slice (some ⟨W8.heap.size, 0, none⟩) 1 1, v, .pointer (some ⟨W3.heap.size, y, none⟩), undef, undef, undef, undef, undef, undef, undef, undef, undef, undef, undef, undef, undef, undef, undef, undef, undef, undef, undef, undef, undef, undef, undef, undef, undef, undef, undef, undef, undef, undef, undef, undef, undef, undef, undef], defers := [] })
        (by kernel_rfl) (by kernel_rfl) (by kernel_rfl) (by kernel_rfl) (by decide) rfl rfl ?hfin (fun _ => rfl) ?hsame ?hval ?h0 ?hstep0 ?hstepe ?hstep1 ?hlast ?hlw ?hend
      case hfin => intro v; kernel_rfl
      case hsame =>
        intro v v' i o hi hpi
        have hi11 : i < 11 := (Array.getElem?_eq_some_iff.1 hi).1
        obtain rfl | rfl | rfl | rfl | rfl | rfl | rfl | rfl | rfl | rfl | rfl : i = 0 ∨ i = 1 ∨ i = 2 ∨ i = 3 ∨ i = 4 ∨ i = 5 ∨ i = 6 ∨ i = 7 ∨ i = 8 ∨ i = 9 ∨ i = 10 := by omega
        all_goals first
          | (cases hi; rfl)
          | exact absurd hpi (by decide)
      case hval => intro v o ho; cases ho; rfl
      case h0 => exact rfl
      case hstep0 =>
        intro i o hi hpi L v w' hLs hLi hS
        have hc : w'.cell? ⟨W4.heap.size, 0, none⟩ = some (.slice (some ⟨W3.heap.size, 0, none⟩) n n) ∧ w'.cell? ⟨W3.heap.size, y, none⟩ = some (.slice A1 (nexts ps y).length c1) := by
          split at hS
          · subst hS
            exact ⟨((alloc1 W8.drew _).cell (p := ⟨W4.heap.size, 0, none⟩) hlt2).trans q2, ((alloc1 W8.drew _).cell (p := ⟨W3.heap.size, y, none⟩) hlt3).trans hgn⟩
          · subst hS
            exact ⟨q2, hgn⟩
        obtain ⟨hc1, hc2⟩ := hc
        have hi11 : i < 11 := (Array.getElem?_eq_some_iff.1 hi).1
        by_cases h7 : i = 7
        · subst h7
          cases hi
          have h7f : L.getD 7 false = false := getD_ff hLi
          rw [h7f] at hS
          simp only [Bool.false_eq_true, if_false] at hS
          subst hS
          refine ⟨stepIn_yes rfl (fun f _ => trivial) ?_, fun h => Bool.noConfusion (h : true = false)⟩
          intro a K hK
          have hset : (L.setIfInBounds 7 true).getD 7 false = true := getD_set_eq (by rw [hLs]; decide)
          go_simp
          exact hK _ (by rw [if_pos hset]; rfl)
        · have hset : (L.setIfInBounds i true).getD 7 false = L.getD 7 false := getD_set_ne (fun h => h7 h)
          rw [← hset] at hS
          obtain rfl | rfl | rfl | rfl | rfl | rfl | rfl | rfl | rfl | rfl | rfl : i = 0 ∨ i = 1 ∨ i = 2 ∨ i = 3 ∨ i = 4 ∨ i = 5 ∨ i = 6 ∨ i = 7 ∨ i = 8 ∨ i = 9 ∨ i = 10 := by omega
          all_goals first
            | exact absurd hpi (by decide)
            | exact absurd rfl h7
            | skip
          all_goals
            cases hi
            refine ⟨stepIn_yes rfl (fun f _ => trivial) ?_, fun h => Bool.noConfusion (h : true = false)⟩
            intro a K hK
            go_simp
            exact hK _ hS
      case hstepe =>
        intro o ho L v w' hd hS
        cases ho
        have h7 : L.getD 7 false = true := hd { on := 7, ground := Ground.data } (by simp) rfl
        rw [if_pos h7] at hS
        subst hS
        refine ⟨rfl, fun f _ => trivial, ?_⟩
        intro a K hK
        have hi0 := info_parts info_int
        obtain ⟨i0, hi, hz0, hz1, hz2⟩ := hi0
        have hown2 : Own encI 1 3 (W8.drew.alloc (.cells #[.int .i64 (x : Nat)] 3)) W6.heap.size (.slice A1 (nexts ps y).length c1) (nexts ps y) := by
          have := hown.below (w' := W8.drew.alloc (.cells #[.int .i64 (x : Nat)] 3)) ((Below.refl _ W8).drew.alloc (Nat.le_refl _) _)
          rwa [hrow] at this
        obtain ⟨v', w1, hrun, ho1, hg1, hb1⟩ := run_append_my (P := Try.prog) (W8.drew.alloc (.cells #[.int .i64 (x : Nat)] 3)) encI_len encI_one 22 22 3 i0 _ Try.underlying22 hi hz0 hz1 hz2 rfl (by decide) hown2
          (Sl_one (enc := encI) (size := 1) W8.drew (x : Int) 3 1) hbyt hwl2 (by simp; omega)
        refine uponIn_append (.tmp 45) (.tmp 47) 22 rfl rfl rfl hrun (hK _ _ ⟨ho1, ?_, ?_⟩)
        · rw [hrow]; exact hg1
        rw [hrow]
        rcases hb1 with hb1 | hb1 | hb1
        · exact .inl hb1
        · exact .inr (.inl ⟨_, by simp, hb1⟩)
        · exact .inr (.inr hb1)
      case hstep1 =>
        intro i o hi hie hil hnd v w' hS
        obtain ⟨hc1, hc2⟩ := after8 v w' hS
        have h7 : i ≠ 7 := by rintro rfl; exact absurd (hnd.symm.trans (by kernel_rfl : _ = true)) (by decide)
        have hi11 : i < 11 := (Array.getElem?_eq_some_iff.1 hi).1
        obtain rfl | rfl | rfl | rfl | rfl | rfl | rfl | rfl | rfl | rfl | rfl : i = 0 ∨ i = 1 ∨ i = 2 ∨ i = 3 ∨ i = 4 ∨ i = 5 ∨ i = 6 ∨ i = 7 ∨ i = 8 ∨ i = 9 ∨ i = 10 := by omega
        all_goals first
          | exact absurd rfl h7
          | exact absurd rfl hie
          | exact absurd rfl hil
          | skip
        all_goals
          cases hi
          refine stepIn_yes rfl (fun f _ => trivial) ?_
          intro a K hK
          go_simp
          exact hK _ hS
      case hlast =>
        intro o ho v w' hS
        cases ho
        obtain ⟨hc1, hc2⟩ := after8 v w' hS
        have hc3 : w'.frozen? ⟨W3.heap.size, y, none⟩ = false := frz8 v w' hS
        obtain ⟨A2, c2, rfl, _⟩ := hS.1.form
        refine stepIn_yes rfl (fun f _ => trivial) ?_
        intro a K hK
        go_simp
        exact hK _ ⟨w', hS, by simp⟩
      case hlw => intro v; rfl
      case hend =>
        rintro v w' ⟨w1, hS, rfl⟩
        gi_wp2
        obtain ⟨hr2, hb2⟩ := HR.out
        obtain ⟨ho, hg, hv⟩ := hS
        have hba : Below W8.heap.size W8 (W8.drew.alloc (.cells #[.int .i64 (x : Nat)] 3)) := (Below.refl _ W8).drew.alloc (Nat.le_refl _) _
        have hown2 := hown.below hba
        refine ⟨((KeepC.of_below hba).grown hg hown2.ctl).setCell _ _, ?_, rows.set y v, ?_⟩
        · exact ((hb2.drew.alloc _).trans (But.of_grown hg) (fun k hk e => absurd (hown2.lt k e).1 (by omega))).setCell (fun _ => rfl) _
        · rw [HNX.out]
          exact (hr2.near (Near.of_below (B := 0) hba)).put HN.out.2.2 ho hg (by simpa using hv)
  case hdone =>
    rintro Dk W hDk ⟨hb, rows, hr⟩ hK
    have hxl : (((a.edges.filter p).map fromTo).length) = (a.edges.filter p).length := List.length_map ..
    rw [hxl, List.take_length] at hr
    obtain ⟨ps, hps⟩ : ∃ ps, ps = (a.edges.filter p).map (turned back) := ⟨_, rfl⟩
    rw [← hps] at hr
    have HPS := Lib.hid hps
    have hpl9 : ps.length ≤ 1000000 := by
      rw [hps, List.length_map]
      have := List.length_filter_le p a.edges
      omega
    have hpb : ∀ q ∈ ps, (0 ≤ q.1 ∧ q.1 < n) ∧ 0 ≤ q.2 ∧ q.2 < n := by
      subst hps
      intro q hq
      obtain ⟨ed, hed, rfl⟩ := List.mem_map.1 hq
      have hmem := (List.mem_filter.1 hed).1
      simp only [A.ok, Bool.and_eq_true, List.all_eq_true] at ha
      have := ha.2 ed hmem
      simp [mayE, inB, hn] at this
      cases back <;> simp [turned] <;> omega
    have hlb : ∀ s ∈ l, 0 ≤ s ∧ s < n := by
      intro s hs
      have := List.all_eq_true.1 hlo s hs
      simp [inB, hn] at this
      omega
    rw [hW6] at hDk
    obtain ⟨W9, hW9⟩ : ∃ W9, W.alloc (.cells #[.slice none 0 0] 22) = W9 := ⟨_, rfl⟩
    have d9 : Below W.heap.size W W9 := hW9 ▸ alloc1 W _
    have s9 : W9.heap.size = W.heap.size + 1 := by rw [← hW9]; simp
    have hWs : W6.heap.size ≤ W.heap.size := hb.size
    have hDl : Dk < W.heap.size := (Array.getElem?_eq_some_iff.1 hK).1
    have m0 : Met W9 n W2.heap.size W1.heap.size W.heap.size W9.heap.size [] (.slice none 0 0) := by
      refine ⟨?_, ?_, ?_, Own.nil none⟩
      · rw [d9.block _ (by omega)]; exact hb.heap f3 (by omega)
      · rw [d9.block _ (by omega), marks_nil]; exact hb.heap f2 (by omega)
      · rw [← hW9]; exact heap_alloc_new W _
    have g5 : W9.heap[W4.heap.size]? = some (.cells #[.slice (some ⟨W3.heap.size, 0, none⟩) n n] 40 (0, 0)) := (d9.block _ (by omega)).trans (hb.heap f5 (by omega))
    have g4 : W9.heap[W3.heap.size]? = some (.cells rows.toArray 22 (0, 0)) := (d9.block _ (by omega)).trans hr.g
    have gK : W9.heap[Dk]? = some (.deferred (some [])) := (d9.block _ hDl).trans hK
    have gr := fun i (h : i < rows.length) => (hr.own i h).below d9
    have grl : ∀ i (h : i < rows.length) k, blk rows[i] = some k → W6.heap.size ≤ k ∧ k < W.heap.size := fun i h => (hr.own i h).lt
    have hrl := hr.len
    have dw : Below w.heap.size w W9 := below_next (hb.base d (fun k e => by omega)) d9
    clear hr hb hW1 hW2 hW3 hW4 hW5 hW6 d1 d2 d3 d4 d5 d6 d9 e1 e2 e3 c0 f1 f2 f3 f4 f5 f6 f7 hps ha hlo hp0 hk0 hK d hen
    have HSS := Lib.hid (And.intro s1 (And.intro s2 (And.intro s3 (And.intro s4 (And.intro s5 (And.intro s6 (And.intro s9 (And.intro hWs hDk))))))))
    clear s1 s2 s3 s4 s5 s6 s9 hWs hDk
    go_wp2
    go_loopw [53] (fun i wr => ∃ (k : Nat) (ws : List Int) (vw : Value), k ≤ l.length ∧ i = .int .i64 k ∧ Met wr n W2.heap.size W1.heap.size W.heap.size W9.heap.size ws vw ∧ But (fun j => j = W1.heap.size ∨ j = W.heap.size ∨ W9.heap.size ≤ j) W9 wr ∧ BInv n ps l ws 0 ∧ ∀ s ∈ l.take k, s ∈ ws) (fun i _ => l.length - (intOf i).toNat)
    case atStart => exact ⟨0, [], _, Nat.zero_le _, rfl, m0, But.refl _ _, BInv.start _ _ _, by simp⟩
    case round =>
      obtain ⟨k, ws, vw, hkl, rfl, hM, hBt, hI, hin⟩ := hrel
      by_cases hlt : k < l.length
      · obtain ⟨lbk, lo, rfl, hlb1, hlc⟩ := hlr.out (by omega)
        have hcell := (dw.cell (p := ⟨lbk, lo + k, none⟩) hlb1).trans (cell1 encI_eq hlc hlt)
        have hszs := HSS.out
        have hcell := hBt.cell hcell (show ¬ (lbk = W1.heap.size ∨ lbk = W.heap.size ∨ W9.heap.size ≤ lbk) by omega)
        obtain ⟨q, hq⟩ : ∃ q : Nat, l[k] = q := ⟨l[k].toNat, by have := hlb _ (List.getElem_mem hlt); omega⟩
        have hqn : q < n := by have := hlb _ (List.getElem_mem hlt); omega
        have hql : (q : Int) ∈ l := hq ▸ List.getElem_mem hlt
        have htk : l.take (k + 1) = l.take k ++ [(q : Int)] := by rw [List.take_succ_eq_append_getElem hlt, hq]
        rw [hq] at hcell
        have hI2 := hI.meet (s := (q : Int)) (by omega) (by omega) (.start hql)
        have hws : ws.length ≤ 1000000 := by have := hI.len; omega
        have hin2 : ∀ s ∈ l.take (k + 1), s ∈ meet ws q := by
          rw [htk]
          intro s hs
          rcases List.mem_append.1 hs with h | h
          · exact mem_meet.2 (.inl (hin s h))
          · exact mem_meet.2 (.inr (by simpa using h))
        have HX := Lib.hid (And.intro hin2 hI2)
        clear hszs hlc htk hin2 hI2 hin hI hlb hpb hq hql hlr
        cases hc : ws.contains (q : Int) with
        | true =>
          have hcall := meet_seen n W2.heap.size W1.heap.size W.heap.size W9.heap.size ws vw q hqn hc wr hM
          have hm : meet ws q = ws := by unfold meet; rw [if_pos hc]
          rw [hm] at HX
          clear hc hm
          go_wp2_with (go_at_call 98; refine hcall.mono ?_; rintro e w2 ⟨rfl, rfl⟩)
          go_roundw
          case rel => exact ⟨k + 1, ws, vw, by omega, by go_num, hM, hBt, HX.out.2, HX.out.1⟩
          case measure => simp [intOf]; omega
        | false =>
          have hcall := meet_new n W2.heap.size W1.heap.size W.heap.size W9.heap.size ws vw q hqn hws hc wr hM hBt.size
          clear hc
          go_wp2_with (go_at_call 98; refine hcall.mono ?_; rintro e w2 ⟨rfl, vw2, hM2, hBt2⟩)
          go_roundw
          case rel => exact ⟨k + 1, _, vw2, by omega, by go_num, hM2, hBt.trans hBt2 (fun _ _ h => h), HX.out.2, HX.out.1⟩
          case measure => simp [intOf]; omega
      · have hkk : k = l.length := by omega
        subst hkk
        rw [List.take_length] at hin
        clear hkl hlt
        obtain ⟨A5, c5, hvw, hle5⟩ := hM.o.form
        go_wp2
        clear hle5 hvw
        clear A5 c5
        go_loopw [17] (fun i wr => ∃ (k : Nat) (ws : List Int) (vw : Value), i = .int .i64 k ∧ Met wr n W2.heap.size W1.heap.size W.heap.size W9.heap.size ws vw ∧ But (fun j => j = W1.heap.size ∨ j = W.heap.size ∨ W9.heap.size ≤ j) W9 wr ∧ BInv n ps l ws k ∧ ∀ s ∈ l, s ∈ ws) (fun i _ => n - (intOf i).toNat)
        case atStart => exact ⟨0, ws, vw, rfl, hM, hBt, hI, hin⟩
        case round =>
          clear hM hBt hI hin
          clear ws vw
          obtain ⟨k, ws, vw, rfl, hM, hBt, hI, hin⟩ := hrel
          obtain ⟨A5, c5, hvw, hle5⟩ := hM.o.form
          have hcv := cell_at hM.v 0
          simp only [List.getElem?_toArray, List.getElem?_cons_zero] at hcv
          by_cases hlt : k < ws.length
          · obtain ⟨b5, c6, hv5, hbl5, hcw⟩ := hM.o.at_ (by omega)
            rw [hv5] at hcv
            have hcw := hcw k hlt
            have hszs := HSS.out
            have hbq := hI.bound _ (List.getElem_mem hlt)
            obtain ⟨q, hq⟩ : ∃ q : Nat, ws[k] = q := ⟨ws[k].toNat, by omega⟩
            have hqn : q < n := by omega
            rw [hq] at hcw
            have hqr : q < rows.length := by omega
            obtain ⟨A7, c7, hrow, hle7⟩ := (gr q hqr).form
            have g4c := cell_at g4 q
            rw [List.getElem?_toArray, List.getElem?_eq_getElem hqr, hrow] at g4c
            have g5c := cell_at g5 0
            simp only [List.getElem?_toArray, List.getElem?_cons_zero] at g5c
            have g4d := hBt.cell g4c (show ¬ (W3.heap.size = W1.heap.size ∨ W3.heap.size = W.heap.size ∨ W9.heap.size ≤ W3.heap.size) by omega)
            have g5d := hBt.cell g5c (show ¬ (W4.heap.size = W1.heap.size ∨ W4.heap.size = W.heap.size ∨ W9.heap.size ≤ W4.heap.size) by omega)
            have hi1 : (k : Int) < ws.length := by omega
            have hi2 : (q : Int) < n := by omega
            have hkn : k < n := by have := hI.len; omega
            clear hszs g4c g5c hbq hvw hle5 hle7 hlr
            go_wp2
            go_quiet (fail)
            have hkl' : ws[k]? = some (q : Int) := by rw [List.getElem?_eq_getElem hlt, hq]
            have HK := Lib.hid (And.intro hkl' (And.intro hin hI))
            have hrowlt := grl q hqr
            have hnl : (nexts ps q).length ≤ 1000000 := Nat.le_trans (nexts_len ps q) hpl9
            clear hkl' hq hin hI hi1 hi2
            go_wp2
            go_loopw [75] (fun i wz => ∃ (m : Nat) (ws' : List Int) (vw' : Value), m ≤ (nexts ps q).length ∧ i = .int .i64 m ∧ Met wz n W2.heap.size W1.heap.size W.heap.size W9.heap.size ws' vw' ∧ But (fun j => j = W1.heap.size ∨ j = W.heap.size ∨ W9.heap.size ≤ j) W9 wz ∧ BInv n ps l ws' k ∧ k < ws'.length ∧ ws'[k]? = some (q : Int) ∧ (∀ s ∈ l, s ∈ ws') ∧ ∀ t ∈ (nexts ps q).take m, t ∈ ws') (fun i _ => (nexts ps q).length - (intOf i).toNat)
            case atStart => exact ⟨0, ws, vw, Nat.zero_le _, rfl, ⟨hM.i, hM.g, hM.v, hM.o⟩, hBt.drewN _, HK.out.2.2, hlt, HK.out.1, HK.out.2.1, by simp⟩
            case round =>
              clear hM hBt HK hcv hcw hv5 hbl5 g4d g5d
              obtain ⟨m, ws', vw', hml, rfl, hM, hBt, hI, hkl, hkq, hin, hdo⟩ := hrel
              by_cases hltm : m < (nexts ps q).length
              · obtain ⟨b8, c8, hv8, hbl8, hcr⟩ := (gr q hqr).at_ (by omega)
                rw [hrow] at hv8
                cases hv8
                have hcr := hcr m hltm
                have hszs := HSS.out
                have hb8 := hrowlt b8 hbl8
                have hcr := hBt.cell hcr (show ¬ (b8 = W1.heap.size ∨ b8 = W.heap.size ∨ W9.heap.size ≤ b8) by omega)
                have hmem : (nexts ps q)[m] ∈ nexts ps q := List.getElem_mem hltm
                have hpq := mem_nexts.1 hmem
                have hpq2 := hpb _ hpq
                obtain ⟨t, ht⟩ : ∃ t : Nat, (nexts ps q)[m] = t := ⟨((nexts ps q)[m]).toNat, by omega⟩
                rw [ht] at hcr hpq
                have htn : t < n := by omega
                have hqg : Goes ps l (q : Int) := hI.goes _ (List.mem_of_getElem? hkq)
                have hI2 := hI.meet (s := (t : Int)) (by omega) (by omega) (.step hqg hpq)
                have hws : ws'.length ≤ 1000000 := by have := hI.len; omega
                have htk : (nexts ps q).take (m + 1) = (nexts ps q).take m ++ [(t : Int)] := by rw [List.take_succ_eq_append_getElem hltm, ht]
                have hdo2 : ∀ s ∈ (nexts ps q).take (m + 1), s ∈ meet ws' t := by
                  rw [htk]
                  intro s hs
                  rcases List.mem_append.1 hs with h | h
                  · exact mem_meet.2 (.inl (hdo s h))
                  · exact mem_meet.2 (.inr (by simpa using h))
                have hin2 : ∀ s ∈ l, s ∈ meet ws' t := fun s hs => mem_meet.2 (.inl (hin s hs))
                have hkq2 : (meet ws' t)[k]? = some (q : Int) := by rw [meet_get hkl]; exact hkq
                have hkl2 : k < (meet ws' t).length := Nat.lt_of_lt_of_le hkl meet_len
                have HX := Lib.hid (And.intro hI2 (And.intro hkl2 (And.intro hkq2 (And.intro hin2 hdo2))))
                have hi3 : (m : Int) < (nexts ps q).length := by omega
                clear hszs htk hdo2 hin2 hkq2 hkl2 hI2 hdo hin hkq hI hpq hpq2 hmem ht hqg hlb hpb hrowlt grl gr
                cases hc : ws'.contains (t : Int) with
                | true =>
                  have hcall := meet_seen n W2.heap.size W1.heap.size W.heap.size W9.heap.size ws' vw' t htn hc _ hM
                  have hm : meet ws' t = ws' := by unfold meet; rw [if_pos hc]
                  rw [hm] at HX
                  clear hc hm
                  go_wp2_with (go_at_call 98; refine hcall.mono ?_; rintro e w2 ⟨rfl, rfl⟩)
                  go_roundw
                  case rel => exact ⟨m + 1, ws', vw', by omega, by go_num, hM, hBt, HX.out.1, HX.out.2.1, HX.out.2.2.1, HX.out.2.2.2.1, HX.out.2.2.2.2⟩
                  case measure => simp [intOf]; omega
                | false =>
                  have hcall := meet_new n W2.heap.size W1.heap.size W.heap.size W9.heap.size ws' vw' t htn hws hc _ hM hBt.size
                  clear hc
                  go_wp2_with (go_at_call 98; refine hcall.mono ?_; rintro e w2 ⟨rfl, vw2, hM2, hBt2⟩)
                  go_roundw
                  case rel => exact ⟨m + 1, _, vw2, by omega, by go_num, hM2, hBt.trans hBt2 (fun _ _ h => h), HX.out.1, HX.out.2.1, HX.out.2.2.1, HX.out.2.2.2.1, HX.out.2.2.2.2⟩
                  case measure => simp [intOf]; omega
              · have hmm : m = (nexts ps q).length := by omega
                subst hmm
                rw [List.take_length] at hdo
                have hI2 := hI.next hkl (by
                  have : ws'[k] = q := by rw [List.getElem?_eq_getElem hkl] at hkq; exact Option.some.inj hkq
                  rw [this]; exact hdo)
                have HX := Lib.hid (And.intro hI2 hin)
                clear hdo hI hkq hml hltm hI2 hin hlb hpb hrowlt grl gr
                go_wp2
                go_roundw
                case rel => exact ⟨k + 1, ws', vw', by go_num, hM, hBt, HX.out.1, HX.out.2⟩
                case measure => simp [intOf]; omega
          · have hkk : k = ws.length := by have := hI.at_; omega
            subst hkk
            have hi1 : ¬ (ws.length : Int) < ws.length := by omega
            rw [hvw] at hcv
            have hws : ws.length ≤ 1000000 := by have := hI.len; omega
            have hrise := rises_ok wr vw ws (hM.o.sl encI_len) hI.nodup hws
            rw [hvw] at hrise
            have HX := Lib.hid (And.intro hI hin)
            clear hI hin hlb hpb grl gr hlt
            go_wp2_with (go_at_call 99; refine hrise.mono ?_; rintro e w2 ⟨v', ys, rfl, ho, hb2, hst2, hm2⟩; obtain ⟨A6, c6, rfl, hle6⟩ := ho.form)
            have hszs := HSS.out
            have hDk : ¬ (Dk = W1.heap.size ∨ Dk = W.heap.size ∨ W9.heap.size ≤ Dk) := by omega
            have gK2 := hBt.heap gK hDk
            have gK3 := (hb2.block Dk (Array.getElem?_eq_some_iff.1 gK2).1).trans gK2
            refine ⟨by simp, .inl ⟨_, _, rfl, run_takeDeferred gK3, ?_⟩⟩
            have hcl := HX.out.1.cl HX.out.2 hst2 hm2
            have hbw : Below w.heap.size w wr := hBt.base dw (fun j e => by omega)
            have hb3 : Below w.heap.size w (w2.putObj Dk (.deferred none)) := below_putObj (hbw.trans (hb2.mono hbw.size)) (by omega) _
            have ho2 := (ho.lower (base' := w.heap.size) hbw.size).putObj (b := Dk) (.deferred none) gK3
            refine ⟨.slice A6 ys.length c6, by simp [results, Try.f57, go_sem], _, rfl, ?_, hb3⟩
            have hn2 : a.states.toNat = n := by omega
            have hps2 : a.pairs back p = ps := HPS.out.symm
            rw [hn2, hps2, ← hcl]
            exact ho2
end Go.Proofs.Ytakldmbbmefnbaa
