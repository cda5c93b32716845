/- How arguments that came in read: an automaton, a slice of numbers, of strings. -/
import Derived.Test.YtakldmbbmefnbaaProg
import Derived.Test.YtakldmbbmefnbaaData
import Derived.ProofKit
import Derived.OpenShut
import Derived.Lib.SmallJoins
import Derived.Deep.Slices
import Derived.Sort.EncStr
namespace Go.Proofs.Ytakldmbbmefnbaa
open Go.RowKit Go.ChangeShapes Go.WideShapes Go.ChangeAt Go.Joins Go.Deep
set_option maxRecDepth 100000

def encSt (l : List UInt8) : List Value := [encStr l]
abbrev Strs (w : World) (B : Nat) (v : Value) (xs : List (List UInt8)) : Prop := Sl encSt 1 w B v xs

theorem sl_open {α : Type} [Inhabited α] {enc : α → List Value} {size : Nat} (hsz : 0 < size) (henc : ∀ x, (enc x).length = size) {w : World} {base : Nat} {a : Addr} {len cap : Nat} (D : α → Prop)
    (h : ∀ i, i < len → ∃ x : α, D x ∧ w.cells? base (a.add (i * size)) size = some (enc x)) : ∃ xs : List α, xs.length = len ∧ (∀ x ∈ xs, D x) ∧ Sl enc size w w.heap.size (.slice (some a) len cap) xs := by
  obtain ⟨f, hf⟩ := choose_lt h
  refine ⟨(List.range len).map f, by simp, fun x hx => ?_, some a, cap, by simp, fun h0 => ?_⟩
  · obtain ⟨i, hi, rfl⟩ := List.mem_map.1 hx
    exact (hf i (List.mem_range.1 hi)).1
  · simp at h0
    have key : ∀ i, i < len → ∀ j, j < size → w.cell? ((a.add (i * size)).add j) = (enc (f i))[j]? := fun i hi j hj => (World.cells?_some (hf i hi).2).2.2 j hj
    have k0 := key 0 h0 0 hsz
    rw [List.getElem?_eq_getElem (by rw [henc]; exact hsz)] at k0
    have hsp := World.cell?_spot k0
    have hlt := World.block_lt_of_cell? _ _ k0
    obtain ⟨b, o, sp⟩ := a
    have hsp : sp = none := by simpa [Addr.add] using hsp
    subst hsp
    refine ⟨b, o, rfl, by simpa [Addr.add] using hlt, fun i x hx j u hu => ?_⟩
    have hi : i < len := by
      have := (List.getElem?_eq_some_iff.1 hx).1
      simpa using this
    have hxf : f i = x := by
      rw [List.getElem?_map, List.getElem?_range hi] at hx
      simpa using hx
    have hj : j < size := by
      have := (List.getElem?_eq_some_iff.1 hu).1
      rwa [henc] at this
    have := key i hi j hj
    rw [hxf, hu] at this
    have ha : ((⟨b, o, none⟩ : Addr).add (i * size)).add j = ⟨b, o + i * size + j, none⟩ := by rw [add_plain, add_plain]
    rwa [ha] at this

section
variable {H : Type} {enc : TypeId × Value → H} {w : World} {fuel : Nat} {cs : List Value} {x : DataW H × List MemPlace}

theorem cells_edge : Try.prog.cellsOf 55 = 7 := by kernel_rfl
theorem cells_int : Try.prog.cellsOf 3 = 1 := by kernel_rfl
theorem cells_u64 : Try.prog.cellsOf 51 = 1 := by kernel_rfl
theorem cells_set : Try.prog.cellsOf 53 = 4 := by kernel_rfl
theorem cells_bool : Try.prog.cellsOf 4 = 1 := by kernel_rfl
theorem cells_fa : Try.prog.cellsOf 25 = 4 := by kernel_rfl

theorem open_edge (h : DataW.trod enc Try.prog w 0 (fun _ => true) true fuel 55 cs = some x) : ∃ e : E, cs = encE e := by
  obtain ⟨y0, y1, y2, y3, n, _, hl, h0, h1, h2, h3⟩ := trod_struct4 Try.underlying55 h
  rw [cells_edge] at hl
  match cs, hl with
  | [c0, c1, c2, c3, c4, c5, c6], _ =>
    simp only [cells_int, cells_bool, cells_set, List.drop_zero, List.drop_succ_cons, List.take_succ_cons, List.take_zero] at h0 h1 h2 h3
    obtain ⟨n0, e0, _⟩ := DataW.trod_int Try.underlying3 h0
    obtain ⟨n1, e1, _⟩ := DataW.trod_int Try.underlying3 h1
    obtain ⟨b2, e2, _⟩ := DataW.trod_bool Try.underlying4 h2
    obtain ⟨xs, m, _, _, hl3, hlen, hx⟩ := DataW.trod_array Try.underlying53 h3
    have word : ∀ (i : Nat) (c : Value), i < 4 → [c3, c4, c5, c6][i]? = some c → ∃ v : BitVec 64, c = .int .u64 (v.toNat : Int) := by
      intro i c hi hc
      have hxi := hx i hi
      have hlt : i < xs.length := by omega
      rw [cells_u64, Nat.mul_one, List.getElem?_eq_getElem hlt] at hxi
      have ht : (List.drop i [c3, c4, c5, c6]).take 1 = [c] := by
        match i, hi, hc with
        | 0, _, hc => simp at hc; simp [hc]
        | 1, _, hc => simp at hc; simp [hc]
        | 2, _, hc => simp at hc; simp [hc]
        | 3, _, hc => simp at hc; simp [hc]
      rw [ht] at hxi
      obtain ⟨z, hz, _, hwf⟩ := DataW.trod_int Try.underlying51 hxi
      have hb := bounds_u64 hwf
      simp at hz
      refine ⟨BitVec.ofNat 64 z.toNat, ?_⟩
      rw [hz]
      congr 1
      rw [BitVec.toNat_ofNat]
      omega
    obtain ⟨w0, rfl⟩ := word 0 c3 (by decide) rfl
    obtain ⟨w1, rfl⟩ := word 1 c4 (by decide) rfl
    obtain ⟨w2, rfl⟩ := word 2 c5 (by decide) rfl
    obtain ⟨w3, rfl⟩ := word 3 c6 (by decide) rfl
    simp at e0 e1 e2
    subst e0; subst e1; subst e2
    exact ⟨⟨n0, n1, b2, ⟨w0, w1, w2, w3⟩⟩, rfl⟩

/-- A slice of numbers that came in. -/
theorem open_ints_sl (h : DataW.trod enc Try.prog w 0 (fun _ => true) true fuel 22 cs = some x) : ∃ A cap, ∃ xs : List Int, cs = [.slice A xs.length cap] ∧ xs.length ≤ cap ∧ cap ≤ maxLen ∧ Ints w w.heap.size (.slice A xs.length cap) xs := by
  rcases open_slice1 Try.underlying22 cells_int h with ⟨rfl, _⟩ | ⟨a, len, cap, m, n, V, D, Pl, rfl, _, hl, hm, hmm, _, hx⟩
  · exact ⟨none, 0, [], rfl, by simp, by simp, Sl.nil none 0⟩
  · simp only [if_true] at hmm
    subst hmm
    obtain ⟨xs, hxl, _, hs⟩ := sl_open (enc := encI) (size := 1) (by decide) encI_len (w := w) (base := 0) (a := a) (len := len) (cap := m) (fun _ => True) (fun i hi => by
      obtain ⟨hc, ht⟩ := hx i (by omega)
      obtain ⟨z, hz, _⟩ := DataW.trod_int Try.underlying3 ht
      simp at hz
      rw [hz] at hc
      refine ⟨z, trivial, ?_⟩
      rw [Nat.mul_one]
      exact cells?_one (Nat.zero_le _) hc)
    subst hxl
    exact ⟨some a, m, xs, rfl, hl, hm, hs⟩

/-- A slice of edges that came in. -/
theorem open_edges_sl (h : DataW.trod enc Try.prog w 0 (fun _ => true) true fuel 23 cs = some x) : ∃ A cap, ∃ xs : List E, cs = [.slice A xs.length cap] ∧ xs.length ≤ cap ∧ cap ≤ maxLen ∧ Edges w w.heap.size (.slice A xs.length cap) xs := by
  rcases open_slice Try.underlying23 h with ⟨rfl, _⟩ | ⟨a, len, cap, m, n, D, Pl, rfl, _, hl, hm, hmm, _, hx⟩
  · exact ⟨none, 0, [], rfl, by simp, by simp, Sl.nil none 0⟩
  · simp only [if_true] at hmm
    subst hmm
    haveI : Inhabited E := ⟨⟨0, 0, false, ⟨0, 0, 0, 0⟩⟩⟩
    obtain ⟨xs, hxl, _, hs⟩ := sl_open (enc := encE) (size := 7) (by decide) encE_len (w := w) (base := 0) (a := a) (len := len) (cap := m) (fun _ => True) (fun i hi => by
      obtain ⟨cs', hc, ht⟩ := hx i (by omega)
      rw [cells_edge] at hc
      obtain ⟨e, rfl⟩ := open_edge ht
      exact ⟨e, trivial, hc⟩)
    subst hxl
    exact ⟨some a, m, xs, rfl, hl, hm, hs⟩

theorem cells_str : Try.prog.cellsOf 9 = 1 := by kernel_rfl
/-- A slice of strings that came in. -/
theorem open_strs_sl (h : DataW.trod enc Try.prog w 0 (fun _ => true) true fuel 26 cs = some x) : ∃ A cap, ∃ xs : List (List UInt8), cs = [.slice A xs.length cap] ∧ xs.length ≤ cap ∧ cap ≤ maxLen ∧ (∀ x ∈ xs, x.length ≤ maxLen) ∧ Strs w w.heap.size (.slice A xs.length cap) xs := by
  rcases open_slice1 Try.underlying26 cells_str h with ⟨rfl, _⟩ | ⟨a, len, cap, m, n, V, D, Pl, rfl, _, hl, hm, hmm, _, hx⟩
  · exact ⟨none, 0, [], rfl, by simp, by simp, by simp, Sl.nil none 0⟩
  · simp only [if_true] at hmm
    subst hmm
    obtain ⟨xs, hxl, hd, hs⟩ := sl_open (enc := encSt) (size := 1) (by decide) (fun _ => rfl) (w := w) (base := 0) (a := a) (len := len) (cap := m) (fun l => l.length ≤ maxLen) (fun i hi => by
      obtain ⟨hc, ht⟩ := hx i (by omega)
      obtain ⟨s, hz, _, hsz⟩ := DataW.trod_string Try.underlying9 ht
      simp at hz
      rw [hz] at hc
      refine ⟨s.data.toList, by simpa using hsz, ?_⟩
      rw [Nat.mul_one]
      exact cells?_one (Nat.zero_le _) hc)
    subst hxl
    exact ⟨some a, m, xs, rfl, hl, hm, hd, hs⟩

/-- An automaton that came in. -/
theorem open_fa {r : Reach} {b0 : Nat} {v : Value} {d : DataW H} {p : List MemPlace} (hv : Value.okWide Try.prog w r b0 25 v) (h : DataW.Trod enc Try.prog w 0 (fun _ => true) true 25 v d p) :
    ∃ (a : A) (As Af Ae : Option Addr) (cs cf ce : Nat), v = vA a (.slice As a.start.length cs) (.slice Af a.final.length cf) (.slice Ae a.edges.length ce) ∧ FaAt w w.heap.size a (.slice As a.start.length cs) (.slice Af a.final.length cf) (.slice Ae a.edges.length ce) ∧
      a.start.length ≤ cs ∧ a.final.length ≤ cf ∧ a.edges.length ≤ ce ∧ cs ≤ maxLen ∧ cf ≤ maxLen ∧ ce ≤ maxLen ∧ (Lit.int .i64 a.states).wf = true := by
  obtain ⟨v0, v1, v2, v3, y0, y1, y2, y3, n, rfl, _, _, h0, h1, h2, h3⟩ := open_agg4 Try.underlying25 (by kernel_rfl) cells_fa hv h
  obtain ⟨st, e0, _, hwf⟩ := DataW.trod_int Try.underlying3 h0
  obtain ⟨As, cs, xs, e1, l1, m1, s1⟩ := open_ints_sl h1
  obtain ⟨Af, cf, ys, e2, l2, m2, s2⟩ := open_ints_sl h2
  obtain ⟨Ae, ce, zs, e3, l3, m3, s3⟩ := open_edges_sl h3
  simp at e0 e1 e2 e3
  subst e0; subst e1; subst e2; subst e3
  exact ⟨⟨st, xs, ys, zs⟩, As, Af, Ae, cs, cf, ce, rfl, ⟨s1, s2, s3⟩, l1, l2, l3, m1, m2, m3, hwf⟩
end
end Go.Proofs.Ytakldmbbmefnbaa
