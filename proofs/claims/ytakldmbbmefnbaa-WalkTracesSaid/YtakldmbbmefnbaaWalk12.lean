/- walk: first. -/
import Derived.Test.YtakldmbbmefnbaaBytes
namespace Go.Proofs.Ytakldmbbmefnbaa
open Go.RowKit Go.Sort Go.Proofs
set_option maxRecDepth 100000
set_option maxHeartbeats 300000

/-- How the search for the first word ends. -/
def FirstEnd (a : A) (r : Ending) : Prop := (∃ word : List UInt8, r = .returned (encStr word) ∧ IsFirst a a.states.toNat word) ∨ (r = .panicked (errPanic 4) ∧ ∀ w, ¬ a.takes w)

theorem own_block {α : Type} {enc : α → List Value} {size : Nat} {e : TypeId} {w : World} {base : Nat} {v : Value} {xs : List α} (h : Own enc size e w base v xs) : ∀ k, blk v = some k → ∃ cs z, w.heap[k]? = some (.cells cs e z) := by
  intro k hk
  rcases h with ⟨rfl, A, rfl⟩ | ⟨b, cap, cur, rfl, hb, hp, _, _, hg, _⟩
  · cases A <;> simp [blk] at hk
  · obtain ⟨m, rfl⟩ : ∃ m, cap = m + 1 := ⟨cap - 1, by omega⟩
    simp [blk] at hk
    subst hk
    exact ⟨_, _, hg⟩
/-- A row of other things stays as it is where this one grows. -/
theorem Own.apart {α β : Type} {enc : α → List Value} {enc2 : β → List Value} {size size2 : Nat} {e e2 : TypeId} {w w' : World} {base base2 : Nat} {v v2 : Value} {xs : List α} {ys : List β} (h : Own enc size e w base v xs) (hg : w.grownBy w' (blk v2)) (h2 : Own enc2 size2 e2 w base2 v2 ys) (hne : e ≠ e2) : Own enc size e w' base v xs :=
  h.kept hg (fun k hk e => by
    obtain ⟨cs, z, hc⟩ := own_block h2 k e
    exact own_ne h hc hne hk)

theorem need_any (c : Bool) (e : Int) (w : World) (Q : Ending → World → Prop) (h1 : c = true → Q (.returned (.tuple #[])) w) (h2 : c = false → Q (.panicked (errPanic e)) w) : Calls Try.prog 88 #[.bool c, .int .i64 e] w Q := by
  cases c with
  | true => exact (need_ok e w).mono (fun r w' h => by obtain ⟨rfl, rfl⟩ := h; exact h1 rfl)
  | false => exact (need_no e w).mono (fun r w' h => by obtain ⟨rfl, rfl⟩ := h; exact h2 rfl)

theorem first_ok (b : Nat) (a : A) (vs vf ve : Value) (w : World) (hk : Wk w b a vs vf ve) (ha : Fit a) :
    Calls Try.prog 41 #[pw b] w (fun r w' => FirstEnd a r ∧ Below w.heap.size w w') := by
  obtain ⟨n, hn⟩ : ∃ n : Nat, a.states = n := ⟨a.states.toNat, by have := ha.ok; simp [A.ok] at this; omega⟩
  have hn2 : a.states.toNat = n := by omega
  have hnn : n ≤ 1000 := by have := ha.n; omega
  obtain ⟨i0, hi, hz0, hz1, hz2⟩ := info_parts info_u8
  have hfar := far_ok b a vs vf ve w hk ha
  rw [hn2] at hfar
  have hq0 := hk.c0
  have hq1 := hk.c1
  rw [hn] at hq0
  have hlt := hk.lt
  have hcl := fun W (h : Wk W b a vs vf ve) => closure_ok b a vs vf ve vs a.start W h ha h.fa.s ha.start ha.s
  obtain ⟨A0, c0, rfl, _⟩ := id hk.fa.s
  have hst0 : a.after [] = a.clo a.start := rfl
  have hal := A.after_in ha []
  have hin0 := after_inb ha []
  rw [hst0] at hal hin0
  generalize hst : a.clo a.start = st at *
  go_enter Try.func41, Try.ntmps41
  go_wp2_with first
    | (go_at_call 89; refine hfar.mono ?_; rintro e w1 ⟨v1, D, rfl, ho1, hb1, hD⟩; obtain ⟨A1, c1, rfl, hle1⟩ := ho1.form; have hlD := hD.len; rw [hlD] at ho1; have hq0a := (hb1.cell (p := ⟨b, 0, none⟩) hlt).trans hq0; have hq1a := (hb1.cell (p := ⟨b, 1, none⟩) hlt).trans hq1)
    | (go_at_call 85; refine (hcl _ (hk.below hb1)).mono ?_; rintro e w2 ⟨v2, rfl, ho2, hb2⟩; obtain ⟨A2, c2, rfl, hle2⟩ := ho2.form; have hq0b := (hb2.cell (p := ⟨b, 0, none⟩) (World.block_lt_of_cell? _ _ hq0a)).trans hq0a; have hdw2 := (ho1.below hb2).sl encI_len)
    | (go_at_call 90; have hne := nearest_ok _ _ D st n n _ hdw2 (ho2.sl encI_len) hlD (fun s hs => by have := hin0 s hs; omega) (by omega) hnn; obtain ⟨L, hL⟩ : ∃ L, near D st n = L := ⟨_, rfl⟩; rw [hL] at hne; have HL := Lib.hid hL; clear hL; refine hne.mono ?_; rintro e w3 ⟨rfl, rfl⟩)
    | (go_at_call 88; refine need_any _ _ _ _ ?_ ?_)
  · intro hlt9
    have hpos : 0 ≤ L := by rw [← HL.out]; exact near_pos hD hin0 hn
    obtain ⟨Ln, rfl⟩ : ∃ Ln : Nat, L = Ln := ⟨L.toNat, by omega⟩
    have hdl : decide ((Ln : Int) < n) = true := by simpa using hlt9
    rw [hdl]
    clear hdl
    have hI0 := FInv.start hD ha hn (L := Ln) (by rw [hst]; exact HL.out) (by omega)
    have hdw : Below w.heap.size w w3 := below_next hb1 hb2
    have ho1w := ho1.below hb2
    have ho2w := ho2.lower hb1.size
    have ho2w : Own encI 1 3 w3 w.heap.size (.slice A2 st.length c2) (a.after []) := by rw [hst0]; exact ho2w
    have HZ := Lib.hid (And.intro hI0 (And.intro hD (And.intro hlD hdw)))
    have HST := Lib.hid hst
    clear hI0 hD hlD hdw hfar hcl hal hin0 hst0 ho1 ho2 hdw2 hne hq0a hq1a hq1 hpos hst
    go_wp2
    go_loopw [5, 6, 4] (fun x y z wr => ∃ (left : Nat) (word : List UInt8), x = .int .i64 left ∧ Own encU 1 5 wr w.heap.size y word ∧ Own encI 1 3 wr w.heap.size z (a.after word) ∧ Own encI 1 3 wr w.heap.size (.slice A1 n c1) D ∧ Below w.heap.size w wr ∧ FInv a D n Ln word left) (fun x _ _ _ => (intOf x).toNat)
    case atStart => exact ⟨Ln, [], rfl, Own.nil none, ho2w, ho1w, HZ.out.2.2.2, HZ.out.1⟩
    case round =>
      clear ho1w ho2w
      obtain ⟨left, word, rfl, hw, hz, hd, hB, hI⟩ := hrel
      obtain ⟨A5, c5, rfl, hle5⟩ := hw.form
      obtain ⟨A6, c6, rfl, hle6⟩ := hz.form
      cases left with
      | zero =>
        have hcb := conv_back hw
        have hfst := hI.done HZ.out.2.1 ha hn
        have HX := Lib.hid hfst
        clear hI hfst
        go_wp2
        go_ret
        exact ⟨.inl ⟨word, rfl, by rw [hn2]; exact HX.out⟩, hB⟩
      | succ left =>
        obtain ⟨hDD, hlD⟩ := (And.intro HZ.out.2.1 HZ.out.2.2.1 : Dist a n D ∧ D.length = n)
        have hcin := after_inb ha word
        have hcal := A.after_in ha word
        have hex := hI.exists_ hDD ha hn
        have hnx := fun (b : UInt8) => hI.next hDD ha hn b
        have hwl : word.length + (left + 1) = Ln := hI.sum
        have hLn : Ln < n := hI.lt
        generalize hcur : a.after word = cur at *
        have hi9 : ((left : Int) + 1) > 0 := by omega
        have hcast : ((left + 1 : Nat) : Int) = (left : Int) + 1 := by omega
        rw [hcast]
        clear hcast
        have HI := Lib.hid (And.intro hex (And.intro hnx (And.intro hDD (And.intro hcin hcur))))
        have hin : cur.all (inB a.states) = true := hcal.1
        have hclen : cur.length ≤ 1000000 := by omega
        have hst9 := fun (m : Nat) (hm : m < 256) (W : World) (A7 : Option Addr) (n7 c7 : Nat) (h : Wk W b a (.slice A0 a.start.length c0) vf ve) (h2 : Ints W W.heap.size (.slice A6 cur.length c6) cur) => step_ok b a _ vf ve _ cur m W h ha h2 hin hclen hm
        have HS9 := Lib.hid hst9
        clear hex hnx hDD hcin hcal hcur hin hst9 hI
        go_wp2
        go_loopw [41, 6, 4] (fun i y z wr => ∃ m : Nat, m ≤ 256 ∧ i = .int .i64 m ∧ y = .slice A5 word.length c5 ∧ z = .slice A6 cur.length c6 ∧ Own encU 1 5 wr w.heap.size (.slice A5 word.length c5) word ∧ Own encI 1 3 wr w.heap.size (.slice A6 cur.length c6) cur ∧ Own encI 1 3 wr w.heap.size (.slice A1 n c1) D ∧ Below w.heap.size w wr ∧ ∀ c : UInt8, c.toNat < m → near D (a.step cur c.toNat) n ≠ left) (fun i _ _ _ => 256 - (intOf i).toNat)
        case atStart => exact ⟨0, by decide, rfl, rfl, rfl, hw, hz, hd, hB, fun c h => absurd h (Nat.not_lt_zero _)⟩
        case round =>
          clear hw hz hd hB
          obtain ⟨m, hm, rfl, rfl, rfl, hw, hz, hd, hB, hno⟩ := hrel
          by_cases hm9 : m < 256
          · obtain ⟨bb, rfl⟩ : ∃ bb : UInt8, bb.toNat = m := ⟨UInt8.ofNat m, by simp; omega⟩
            have hst := HS9.out bb.toNat hm9 wr A6 cur.length c6 (hk.below hB) (hz.sl encI_len)
            have hinb := inb_step ha cur bb.toNat
            have hil := Nat.le_trans (A.clo_len ha ((a.edges.filter (leads (a.clo cur) bb.toNat)).map (fun e => e.dst))) (show 1000 ≤ 1000000 by decide)
            have hstep : a.clo ((a.edges.filter (leads (a.clo cur) bb.toNat)).map (fun e => e.dst)) = a.step cur bb.toNat := rfl
            rw [hstep] at hil
            clear hstep
            obtain ⟨N, hN⟩ : ∃ N, near D (a.step cur bb.toNat) n = N := ⟨_, rfl⟩
            have hne := fun (W : World) (v v2 : Value) (h : Ints W W.heap.size v D) (h2 : Ints W W.heap.size v2 (a.step cur bb.toNat)) => nearest_ok v v2 D (a.step cur bb.toNat) n n W h h2 hlD (fun s hs => by have := hinb s hs; omega) hil hnn
            rw [hN] at hne
            obtain ⟨nxt, hnxt⟩ : ∃ nxt, a.step cur bb.toNat = nxt := ⟨_, rfl⟩
            rw [hnxt] at hst hne hN
            have HN := Lib.hid (And.intro hN hnxt)
            have hi10 : (bb.toNat : Int) < 256 := by omega
            have hwm : IntKind.u8.wrap (bb.toNat : Int) = bb.toNat := by show (bb.toNat : Int) % 256 = bb.toNat; omega
            have hq0z := (hB.cell (p := ⟨b, 0, none⟩) hlt).trans hq0
            have hNX := Lib.hid hno
            clear hN hnxt hno hinb hil
            have hbyt : (4 * (word.length + 1) + 4096) * 1 ≤ 140737488355328 := by omega
            have hwl2 : word.length + 1 ≤ 4611686018427387904 := by omega
            by_cases hNl : N = left
            · subst hNl
              go_wp2_with first
                | (go_at_call 60; refine hst.mono ?_; rintro e w5 ⟨v5, rfl, ho5, hb5⟩; obtain ⟨A7, c7, rfl, hle7⟩ := ho5.form; have hq0y := (hb5.cell (p := ⟨b, 0, none⟩) (World.block_lt_of_cell? _ _ hq0z)).trans hq0z; have hne5 := hne w5 _ _ ((hd.below hb5).sl encI_len) (ho5.sl encI_len))
                | (go_at_call 90; refine hne5.mono ?_; rintro e w6 ⟨rfl, rfl⟩)
                | (at_builtin; refine wpList_append_my _ rfl (.tmp 60) (.tmp 63) 45 rfl encU_len encU_one 5 i0 _ Try.underlying45 hi hz0 hz1 hz2 rfl (by decide) (base := w.heap.size) rfl (xs := word) (hw.below (below_next hb5 (alloc1 w6 _))) rfl (ys := [bb]) (Sl_one (enc := encU) (size := 1) w6 bb _ _) hbyt hwl2 (Nat.le_trans hB.size (below_next hb5 (alloc1 w6 _)).size) ?_; intro v7 w7 ho7 hg7 hb7 hl7; obtain ⟨A8, c8, rfl, hle8⟩ := ho7.form)
              go_roundw
              case rel =>
                obtain ⟨hex, hnx, hDD, hcin, hcur⟩ := HI.out
                obtain ⟨hN, hnxt⟩ := HN.out
                have hba : Below wr.heap.size wr (w6.alloc (.cells #[.int .u8 bb.toNat] 5)) := below_next hb5 (alloc1 w6 _)
                have hwA := hw.below hba
                refine ⟨left, word ++ [bb], rfl, by simpa using ho7, ?_, (hd.below hba).apart hg7 hwA (by decide), (hB.trans (hba.mono hB.size)).trans hl7, hnx bb (by rw [hnxt]; exact hN) (fun c hc => hNX.out c hc)⟩
                rw [after_snoc, hcur, hnxt]
                exact ((ho5.below (alloc1 w6 _)).lower hB.size).apart hg7 hwA (by decide)
              case measure => simp [intOf]
            · have hNb : (N == (left : Int)) = false := by simpa using hNl
              go_wp2_with first
                | (go_at_call 60; refine hst.mono ?_; rintro e w5 ⟨v5, rfl, ho5, hb5⟩; obtain ⟨A7, c7, rfl, hle7⟩ := ho5.form; have hq0y := (hb5.cell (p := ⟨b, 0, none⟩) (World.block_lt_of_cell? _ _ hq0z)).trans hq0z; have hne5 := hne w5 _ _ ((hd.below hb5).sl encI_len) (ho5.sl encI_len))
                | (go_at_call 90; refine hne5.mono ?_; rintro e w6 ⟨rfl, rfl⟩)
              go_roundw
              case rel =>
                obtain ⟨hN, hnxt⟩ := HN.out
                refine ⟨bb.toNat + 1, by omega, by go_num, rfl, rfl, hw.below hb5, hz.below hb5, hd.below hb5, below_next hB hb5, fun c hc => ?_⟩
                by_cases hcb : c.toNat = bb.toNat
                · rw [hcb, hnxt, hN]
                  exact hNl
                · exact hNX.out c (by omega)
              case measure => simp [intOf]; omega
          · exfalso
            obtain ⟨c, hc⟩ := HI.out.1
            exact hno c (by have := c.toNat_lt; omega) hc
  · intro hge
    go_wp2
    exact ⟨rfl, .inr ⟨rfl, fun w => no_word hD ha hn (by rw [hst, HL.out]; omega) w⟩, below_next hb1 hb2⟩
end Go.Proofs.Ytakldmbbmefnbaa
