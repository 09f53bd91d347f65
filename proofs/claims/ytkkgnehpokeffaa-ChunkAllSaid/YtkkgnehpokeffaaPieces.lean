/- A slice of pieces, as an argument, opened to cells. -/
import Derived.Test.YtkkgnehpokeffaaOpen
import Derived.Test.YtkkgnehpokeffaaAllParts
namespace Go.Proofs.Ytkkgnehpokeffaa.Chunk
open Go.RowKit Go.ChangeShapes Go.WideShapes Go.Deep Go.Proofs.Ytkkgnehpokeffaa.Mem Go.Proofs.Ytkkgnehpokeffaa.Open

theorem mem_all {H : Type} {P : Program} {e : TypeId} : ∀ {ds : List (DataW H)} {d : DataW H}, d ∈ ds → ∀ n ∈ d.weights P e, n ∈ DataW.weightsAll P e ds
  | d0 :: ds, d, hd, n, hn => by
    simp only [DataW.weightsAll, List.mem_append]
    rcases List.mem_cons.1 hd with rfl | h
    · exact .inl hn
    · exact .inr (mem_all h n hn)

/-- What the walk wants of a piece. -/
def Pc.Fine (W : World) (P : Pc) : Prop :=
  Sl W 1 P.A P.m (bcs P.p) ∧ P.m ≤ 140737488355328 ∧ (P.A = none → P.m = 0 ∧ P.c = 0) ∧ 0 ≤ P.whole ∧ P.whole < 18446744073709551616 ∧ 0 ≤ P.off

set_option linter.unusedSimpArgs false
section
variable {H : Type} {enc : TypeId × Value → H} {W : World} {base : Nat} {spare : Nat → Bool} {held : Bool}

theorem u64_of {t : TypeId} (ht : Try.prog.underlying t = some (.int .u64)) {fuel : Nat} {cs : List Value} {x : DataW H × List MemPlace} (h : DataW.trod enc Try.prog W base spare held fuel t cs = some x) : ∃ a : Int, cs = [.int .u64 a] ∧ 0 ≤ a ∧ a < 18446744073709551616 := by
  obtain ⟨a, h1, _, h2⟩ := DataW.trod_int ht h
  simp [Lit.wf, IntKind.min, IntKind.max, IntKind.bits, IntKind.signed] at h2
  exact ⟨a, h1, by omega, by omega⟩

theorem open_piece {fuel : Nat} {a : Addr} {x : DataW H × List MemPlace} {cs : List Value} (hc : W.cells? base a 5 = some cs) (h : DataW.trod enc Try.prog W base spare held fuel 29 cs = some x)
    (hsz : (x.1.weights Try.prog 29).all (· ≤ reachBytes) = true) :
    ∃ P : Pc, P.Fine W ∧ ∀ (j : Nat) (u : Value), P.cells[j]? = some u → W.cell? (a.add j) = some u := by
  obtain ⟨_, hlen, hat⟩ := World.cells?_some hc
  obtain ⟨ys, n, _, rfl, _, hyl, hf⟩ := DataW.trod_struct Try.underlying29 h
  match cs, hlen with
  | [v0, v1, v2, v3, v4], _ =>
  match ys, hyl with
  | [y0, y1, y2, y3, y4], _ =>
  have g0 := hf 0 _ rfl
  have g1 := hf 1 _ rfl
  have g2 := hf 2 _ rfl
  have g3 := hf 3 _ rfl
  have g4 := hf 4 _ rfl
  have k26 : Try.prog.cellsOf 26 = 1 := by kernel_rfl
  have k27 : Try.prog.cellsOf 27 = 1 := by kernel_rfl
  simp only [k26, k27, List.drop_zero, List.drop_succ_cons, List.take_succ_cons, List.take_zero, List.getElem?_cons_zero, List.getElem?_cons_succ] at g0 g1 g2 g3 g4
  obtain ⟨i, e0, _, _⟩ := u64_of Try.underlying26 g0
  obtain ⟨t, e1, _, _⟩ := u64_of Try.underlying26 g1
  obtain ⟨wh, e2, b2, b2'⟩ := u64_of Try.underlying26 g2
  obtain ⟨off, e3, b3, _⟩ := u64_of Try.underlying26 g3
  injection e0 with e0; injection e1 with e1; injection e2 with e2; injection e3 with e3
  subst e0 e1 e2 e3
  obtain ⟨A, m, c, e4⟩ : ∃ A m c, v4 = .slice A m c := by
    rcases open_slice Try.underlying27 g4 with ⟨h1, _⟩ | ⟨_, _, _, _, _, _, _, h1, _⟩
    · injection h1 with h1; exact ⟨_, _, _, h1⟩
    · injection h1 with h1; exact ⟨_, _, _, h1⟩
  subst e4
  have hT : DataW.Trod enc Try.prog W base spare held 27 (.slice A m c) y4.1 y4.2 := ⟨n, g4⟩
  have hw : (DataW.weightsEach Try.prog [26, 26, 26, 26, 27] [y0.1, y1.1, y2.1, y3.1, y4.1]).all (· ≤ reachBytes) = true := by
    have h2 := hsz
    simp only [DataW.weights, Try.underlying29] at h2
    exact h2
  have hm := sized_nums hw (j := 4) (t := 27) rfl rfl Try.underlying27 Try.underlying5 (by kernel_rfl) (B := 1) (by kernel_rfl) hT
  obtain ⟨l, ll, _, _, hn, hs, hwf⟩ := open_nums Try.underlying27 Try.underlying5 (by kernel_rfl) hT
  refine ⟨⟨i, t, wh, off, A, m, c, l⟩, ⟨hs, by simp only; omega, hn, b2, b2', b3⟩, fun j u hu => ?_⟩
  have hj : j < 5 := by
    have := (List.getElem?_eq_some_iff.1 hu).1
    simpa [Pc.cells] using this
  rw [hat j hj]
  exact hu

theorem open_pieces {A : Option Addr} {len cap : Nat} {d : DataW H} {p : List MemPlace} {ts : List TypeId} {ds : List (DataW H)} {j : Nat} (h : DataW.Trod enc Try.prog W base spare held 22 (.slice A len cap) d p)
    (hsz : (DataW.weightsEach Try.prog ts ds).all (· ≤ reachBytes) = true) (ht : ts[j]? = some 22) (hd : ds[j]? = some d) :
    ∃ ps : List Pc, ps.length = len ∧ ps.length ≤ 140737488355328 ∧ Sl W 5 A ps.length (ps.flatMap Pc.cells) ∧ ∀ P ∈ ps, P.Fine W := by
  obtain ⟨fuel, hf⟩ := h
  rcases open_slice Try.underlying22 hf with ⟨hcs, _⟩ | ⟨a, len', cap', m, n, D, Pl, hcs, _, hl, _, hmm, hx, hi⟩
  · simp [Value.cells] at hcs
    obtain ⟨rfl, rfl, rfl⟩ := hcs
    exact ⟨[], rfl, by simp, Sl.nil _ _ _, by simp⟩
  · simp [Value.cells] at hcs
    obtain ⟨rfl, rfl, rfl⟩ := hcs
    obtain ⟨hx, _⟩ := Prod.mk.inj hx
    subst hx
    have k29 : Try.prog.cellsOf 29 = 5 := by kernel_rfl
    have b29 : Try.prog.bytesOf 29 = 56 := by kernel_rfl
    have hb := sized_slice hsz ht hd Try.underlying22
    rw [b29] at hb
    simp only [List.length_map, List.length_range] at hb
    unfold reachBytes at hb
    have hlm : len ≤ m := by rw [hmm]; split; exact hl; exact Nat.le_refl _
    have each : ∀ i, ∃ P : Pc, i < len → P.Fine W ∧ ∀ (j : Nat) (u : Value), P.cells[j]? = some u → W.cell? ((a.add (i * 5)).add j) = some u := by
      intro i
      by_cases hil : i < len
      · obtain ⟨cs', hc, htr⟩ := hi i (by omega)
        rw [k29] at hc
        obtain ⟨P, h1, h2⟩ := open_piece hc htr (by
          refine List.all_eq_true.2 fun x hx => List.all_eq_true.1 hsz x (DataW.weights_mem_each ht hd x ?_)
          simp only [DataW.weights, Try.underlying22, List.mem_cons, List.mem_append]
          exact .inr (.inl (mem_all (List.mem_map.2 ⟨i, List.mem_range.2 hil, rfl⟩) x hx)))
        exact ⟨P, fun _ => ⟨h1, h2⟩⟩
      · exact ⟨⟨0, 0, 0, 0, none, 0, 0, []⟩, fun h => absurd h hil⟩
    obtain ⟨f, hF⟩ := Classical.axiomOfChoice each
    have hlen : ((List.range len).map f).length = len := by simp
    refine ⟨(List.range len).map f, hlen, by rw [hlen]; omega, ⟨by rw [flat_len], fun hn => ?_⟩, fun P hP => ?_⟩
    · rw [hlen] at hn
      obtain ⟨b, off, spot⟩ := a
      have h0 := (hF 0 hn).2 0 _ rfl
      have hspot : spot = none := by simpa [Addr.add] using World.cell?_spot h0
      subst hspot
      refine ⟨b, off, rfl, fun j u hu => ?_⟩
      have hj : j < len * 5 := by
        have := (List.getElem?_eq_some_iff.1 hu).1
        rwa [flat_len, hlen] at this
      have hq : j / 5 < len := by omega
      have hr : j % 5 < 5 := by omega
      have hjj : j = j / 5 * 5 + j % 5 := by omega
      rw [hjj, flat_at _ (j / 5) (j % 5) (f (j / 5)) (by simp [hq]) hr] at hu
      have := (hF (j / 5) hq).2 (j % 5) u hu
      rw [Go.Deep.add_add, Go.WideShapes.add_plain, ← hjj] at this
      exact this
    · obtain ⟨i, hi', rfl⟩ := List.mem_map.1 hP
      exact (hF i (List.mem_range.1 hi')).1
end
end Go.Proofs.Ytkkgnehpokeffaa.Chunk
