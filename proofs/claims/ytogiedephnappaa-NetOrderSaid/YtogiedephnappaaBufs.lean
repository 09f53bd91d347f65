/- A list of slices of bytes, and a list of bools, as arguments, opened to cells. -/
import Derived.Test.YtogiedephnappaaOps
namespace Go.Proofs.Ytogiedephnappaa.Net
open Go.RowKit Go.ChangeShapes Go.WideShapes Go.Deep Go.Proofs.Ytogiedephnappaa.Mem Go.Proofs.Ytogiedephnappaa.Open

/-- Byte slices at a slice: their cells lie there, each reads. -/
structure Bufs (W : World) (A : Option Addr) (ls : List Ms) : Prop where
  sl : Sl W 1 A ls.length (ls.map Ms.v)
  reads : ∀ x ∈ ls, x.Reads W
  short : ∀ x ∈ ls, x.raw.length ≤ 140737488351232
  len : ls.length ≤ 5864062014634
  none_ : A = none → ls.length = 0

/-- Bools at a slice. -/
structure Bools (W : World) (A : Option Addr) (bs : List Bool) : Prop where
  sl : Sl W 1 A bs.length (bs.map Value.bool)
  len : bs.length ≤ 140737488351232

set_option linter.unusedSimpArgs false
section
variable {H : Type} {enc : TypeId × Value → H} {W : World} {base : Nat} {spare : Nat → Bool} {held : Bool}

theorem open_bufs {A : Option Addr} {len cap : Nat} {d : DataW H} {p : List MemPlace} (h : DataW.Trod enc Try.prog W base spare held 50 (.slice A len cap) d p)
    (hsz : (d.weights Try.prog 50).all (· ≤ reachBytes) = true) :
    ∃ ls : List Ms, ls.length = len ∧ Bufs W A ls := by
  obtain ⟨fuel, hf⟩ := h
  rcases open_slice Try.underlying50 hf with ⟨hcs, _⟩ | ⟨a, len', cap', m, n, D, Pl, hcs, _, hl, _, hmm, hx, hi⟩
  · simp [Value.cells] at hcs
    obtain ⟨rfl, rfl, rfl⟩ := hcs
    exact ⟨[], rfl, Sl.nil _ _ _, by simp, by simp, by simp, fun _ => rfl⟩
  · simp [Value.cells] at hcs
    obtain ⟨rfl, rfl, rfl⟩ := hcs
    obtain ⟨hx, _⟩ := Prod.mk.inj hx
    subst hx
    have k35 : Try.prog.cellsOf 35 = 1 := by kernel_rfl
    have b35 : Try.prog.bytesOf 35 = 24 := by kernel_rfl
    have hsz' : (DataW.weightsEach Try.prog [50] [DataW.slice ((List.range len).map D) ((List.range (m - len)).map fun j => D (len + j))]).all (· ≤ reachBytes) = true := by simpa [DataW.weightsEach] using hsz
    have hb := sized_slice hsz' (j := 0) rfl rfl Try.underlying50
    rw [b35] at hb
    simp only [List.length_map, List.length_range] at hb
    unfold reachBytes at hb
    have hlm : len ≤ m := by rw [hmm]; split; exact hl; exact Nat.le_refl _
    have each : ∀ i, ∃ x : Ms, i < len → (x.Reads W ∧ x.raw.length ≤ 140737488351232) ∧ W.cell? (a.add i) = some x.v := by
      intro i
      by_cases hil : i < len
      · obtain ⟨cs', hc, htr⟩ := hi i (by omega)
        rw [k35, Nat.mul_one] at hc
        obtain ⟨_, hlen, hat⟩ := World.cells?_some hc
        match cs', hlen with
        | [u], _ =>
        obtain ⟨l, h1, h2, _⟩ := bytes_of htr (by
          refine List.all_eq_true.2 fun x hx => List.all_eq_true.1 hsz x ?_
          simp only [DataW.weights, Try.underlying50, List.mem_cons, List.mem_append]
          exact .inr (.inl (mem_all (List.mem_map.2 ⟨i, List.mem_range.2 hil, rfl⟩) x hx)))
        refine ⟨⟨0, u, l⟩, fun _ => ⟨⟨h1 0, h2⟩, ?_⟩⟩
        have := hat 0 (by decide)
        rw [Go.Deep.add_add, Nat.add_zero] at this
        exact this
      · exact ⟨⟨0, .slice none 0 0, []⟩, fun h => absurd h hil⟩
    obtain ⟨f, hF⟩ := Classical.axiomOfChoice each
    have hlen : ((List.range len).map f).length = len := by simp
    refine ⟨(List.range len).map f, hlen, ⟨by simp, fun hn => ?_⟩, fun x hP => ?_, fun x hP => ?_, by rw [hlen]; omega, fun h => by cases h⟩
    · rw [hlen] at hn
      obtain ⟨b, off, spot⟩ := a
      have h0 := (hF 0 hn).2
      have hspot : spot = none := by simpa [Addr.add] using World.cell?_spot h0
      subst hspot
      refine ⟨b, off, rfl, fun j u hu => ?_⟩
      have hj : j < len := by
        have := (List.getElem?_eq_some_iff.1 hu).1
        simpa using this
      have := (hF j hj).2
      rw [Go.WideShapes.add_plain] at this
      rw [this]
      simpa [hj] using hu
    · obtain ⟨i, hi', rfl⟩ := List.mem_map.1 hP
      exact (hF i (List.mem_range.1 hi')).1.1
    · obtain ⟨i, hi', rfl⟩ := List.mem_map.1 hP
      exact (hF i (List.mem_range.1 hi')).1.2

theorem open_bools {A : Option Addr} {len cap : Nat} {d : DataW H} {p : List MemPlace} (h : DataW.Trod enc Try.prog W base spare held 53 (.slice A len cap) d p)
    (hsz : (d.weights Try.prog 53).all (· ≤ reachBytes) = true) :
    ∃ bs : List Bool, bs.length = len ∧ Bools W A bs := by
  obtain ⟨fuel, hf⟩ := h
  rcases open_slice Try.underlying53 hf with ⟨hcs, _⟩ | ⟨a, len', cap', m, n, D, Pl, hcs, _, hl, _, hmm, hx, hi⟩
  · simp [Value.cells] at hcs
    obtain ⟨rfl, rfl, rfl⟩ := hcs
    exact ⟨[], rfl, Sl.nil _ _ _, by simp⟩
  · simp [Value.cells] at hcs
    obtain ⟨rfl, rfl, rfl⟩ := hcs
    obtain ⟨hx, _⟩ := Prod.mk.inj hx
    subst hx
    have k4 : Try.prog.cellsOf 4 = 1 := by kernel_rfl
    have b4 : Try.prog.bytesOf 4 = 1 := by kernel_rfl
    have hsz' : (DataW.weightsEach Try.prog [53] [DataW.slice ((List.range len).map D) ((List.range (m - len)).map fun j => D (len + j))]).all (· ≤ reachBytes) = true := by simpa [DataW.weightsEach] using hsz
    have hb := sized_slice hsz' (j := 0) rfl rfl Try.underlying53
    rw [b4] at hb
    simp only [List.length_map, List.length_range] at hb
    unfold reachBytes at hb
    have hlm : len ≤ m := by rw [hmm]; split; exact hl; exact Nat.le_refl _
    have each : ∀ i, ∃ x : Bool, i < len → W.cell? (a.add i) = some (.bool x) := by
      intro i
      by_cases hil : i < len
      · obtain ⟨cs', hc, htr⟩ := hi i (by omega)
        rw [k4, Nat.mul_one] at hc
        obtain ⟨_, hlen, hat⟩ := World.cells?_some hc
        match cs', hlen with
        | [u], _ =>
        obtain ⟨b, h1, _⟩ := DataW.trod_bool Try.underlying4 htr
        injection h1 with h1
        refine ⟨b, fun _ => ?_⟩
        have := hat 0 (by decide)
        rw [Go.Deep.add_add, Nat.add_zero] at this
        rw [this, h1]
        rfl
      · exact ⟨false, fun h => absurd h hil⟩
    obtain ⟨f, hF⟩ := Classical.axiomOfChoice each
    have hlen : ((List.range len).map f).length = len := by simp
    refine ⟨(List.range len).map f, hlen, ⟨by simp, fun hn => ?_⟩, by rw [hlen]; omega⟩
    rw [hlen] at hn
    obtain ⟨b, off, spot⟩ := a
    have h0 := hF 0 hn
    have hspot : spot = none := by simpa [Addr.add] using World.cell?_spot h0
    subst hspot
    refine ⟨b, off, rfl, fun j u hu => ?_⟩
    have hj : j < len := by
      have := (List.getElem?_eq_some_iff.1 hu).1
      simpa using this
    have := hF j hj
    rw [Go.WideShapes.add_plain] at this
    rw [this]
    simpa [hj] using hu
end

end Go.Proofs.Ytogiedephnappaa.Net
