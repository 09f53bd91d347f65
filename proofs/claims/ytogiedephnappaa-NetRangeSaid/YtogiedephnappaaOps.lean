/- A script of calls, as an argument, opened to cells. -/
import Derived.Test.YtogiedephnappaaOpen
import Derived.Test.YtogiedephnappaaCount
namespace Go.Proofs.Ytogiedephnappaa.Net
open Go.RowKit Go.ChangeShapes Go.WideShapes Go.Deep Go.Proofs.Ytogiedephnappaa.Mem Go.Proofs.Ytogiedephnappaa.Open

/-- A call of a script: its kind, to whom, the place; the slice of its bytes; its bytes. -/
structure Cl where
  kind : Int
  dst : Int
  at_ : Int
  v : Value
  raw : List Int

def Cl.cells (c : Cl) : List Value := [.int .i64 c.kind, .int .i64 c.dst, .int .i64 c.at_, c.v]
def Cl.ms (c : Cl) : Ms := ⟨c.dst, c.v, c.raw⟩

def I64 (x : Int) : Prop := -9223372036854775808 ≤ x ∧ x ≤ 9223372036854775807

/-- What the walks want of a call: its bytes read. -/
def Cl.Fine (W : World) (c : Cl) : Prop := c.ms.Reads W ∧ c.raw.length ≤ 140737488351232 ∧ I64 c.kind ∧ I64 c.dst ∧ I64 c.at_ ∧ ∀ k, c.v.ownBlock = some k → c.raw.length ≠ 0 → k < W.heap.size

theorem cl_len (l : List Cl) : (l.flatMap Cl.cells).length = l.length * 4 := by
  induction l with
  | nil => rfl
  | cons x l ih => rw [List.flatMap_cons, List.length_append, ih]; simp [Cl.cells]; omega

theorem cl_at : ∀ (l : List Cl) (i j : Nat) (x : Cl), l[i]? = some x → j < 4 → (l.flatMap Cl.cells)[i * 4 + j]? = x.cells[j]?
  | [], _, _, _, h, _ => by simp at h
  | y :: l, 0, j, x, h, hj => by
    simp only [List.getElem?_cons_zero, Option.some.injEq] at h
    subst h
    rw [List.flatMap_cons, List.getElem?_append_left (by simp [Cl.cells]; omega)]
    simp
  | y :: l, i + 1, j, x, h, hj => by
    have hh : l[i]? = some x := by simpa using h
    rw [List.flatMap_cons, List.getElem?_append_right (by simp [Cl.cells]; omega), ← cl_at l i j x hh hj]
    congr 1
    simp [Cl.cells]
    omega

/-- The script at a slice: its cells lie there, and each call is fine. -/
structure Script (W : World) (A : Option Addr) (ops : List Cl) : Prop where
  sl : Sl W 4 A ops.length (ops.flatMap Cl.cells)
  fine : ∀ c ∈ ops, c.Fine W
  len : ops.length ≤ 2932031008000

theorem mem_all {H : Type} {P : Program} {e : TypeId} : ∀ {ds : List (DataW H)} {d : DataW H}, d ∈ ds → ∀ n ∈ d.weights P e, n ∈ DataW.weightsAll P e ds
  | d0 :: ds, d, hd, n, hn => by
    simp only [DataW.weightsAll, List.mem_append]
    rcases List.mem_cons.1 hd with rfl | h
    · exact .inl hn
    · exact .inr (mem_all h n hn)

set_option linter.unusedSimpArgs false
section
variable {H : Type} {enc : TypeId × Value → H} {W : World} {base : Nat} {spare : Nat → Bool} {held : Bool}

theorem i64_of {t : TypeId} (ht : Try.prog.underlying t = some (.int .i64)) {fuel : Nat} {cs : List Value} {x : DataW H × List MemPlace} (h : DataW.trod enc Try.prog W base spare held fuel t cs = some x) : ∃ a : Int, cs = [.int .i64 a] ∧ I64 a := by
  obtain ⟨a, h1, _, h2⟩ := DataW.trod_int ht h
  simp [Lit.wf, IntKind.min, IntKind.max, IntKind.bits, IntKind.signed] at h2
  exact ⟨a, h1, by omega, by omega⟩

theorem bytes_of {fuel : Nat} {u : Value} {y : DataW H × List MemPlace} (h : DataW.trod enc Try.prog W base spare held fuel 35 [u] = some y) (hw : (y.1.weights Try.prog 35).all (· ≤ reachBytes) = true) :
    ∃ l : List Int, (∀ d, Ms.Reads W ⟨d, u, l⟩) ∧ l.length ≤ 140737488351232 ∧ ∀ k, u.ownBlock = some k → l.length ≠ 0 → k < W.heap.size := by
  obtain ⟨A, m, c, rfl⟩ : ∃ A m c, u = .slice A m c := by
    rcases open_slice Try.underlying35 h with ⟨h1, _⟩ | ⟨_, _, _, _, _, _, _, h1, _⟩
    · injection h1 with h1; exact ⟨_, _, _, h1⟩
    · injection h1 with h1; exact ⟨_, _, _, h1⟩
  have hT : DataW.Trod enc Try.prog W base spare held 35 (.slice A m c) y.1 y.2 := ⟨fuel, h⟩
  have hw' : (DataW.weightsEach Try.prog [35] [y.1]).all (· ≤ reachBytes) = true := by
    simpa [DataW.weightsEach] using hw
  have hm := sized_nums hw' (j := 0) (t := 35) rfl rfl Try.underlying35 Try.underlying5 (by kernel_rfl) (B := 1) (by kernel_rfl) hT
  obtain ⟨l, ll, _, _, hn, hs, hwf⟩ := open_nums Try.underlying35 Try.underlying5 (by kernel_rfl) hT
  subst ll
  refine ⟨l, fun d => ⟨A, c, rfl, hs, hn⟩, by omega, fun k hk h0 => ?_⟩
  obtain ⟨b', o, e, hlt⟩ := hs.lt (by decide) (Nat.pos_of_ne_zero h0)
  subst e
  simp [Value.ownBlock] at hk
  omega

theorem open_op {fuel : Nat} {x : DataW H × List MemPlace} {cs : List Value} (hlen : cs.length = 4) (h : DataW.trod enc Try.prog W base spare held fuel 44 cs = some x)
    (hsz : (x.1.weights Try.prog 44).all (· ≤ reachBytes) = true) :
    ∃ P : Cl, P.Fine W ∧ cs = P.cells := by
  obtain ⟨ys, n, _, rfl, _, hyl, hf⟩ := DataW.trod_struct Try.underlying44 h
  match cs, hlen with
  | [v0, v1, v2, v3], _ =>
  match ys, hyl with
  | [y0, y1, y2, y3], _ =>
  have g0 := hf 0 _ rfl
  have g1 := hf 1 _ rfl
  have g2 := hf 2 _ rfl
  have g3 := hf 3 _ rfl
  have k3 : Try.prog.cellsOf 3 = 1 := by kernel_rfl
  have k35 : Try.prog.cellsOf 35 = 1 := by kernel_rfl
  simp only [k3, k35, List.drop_zero, List.drop_succ_cons, List.take_succ_cons, List.take_zero, List.getElem?_cons_zero, List.getElem?_cons_succ] at g0 g1 g2 g3
  obtain ⟨i, e0, b0⟩ := i64_of Try.underlying3 g0
  obtain ⟨t, e1, b1⟩ := i64_of Try.underlying3 g1
  obtain ⟨o, e2, b2⟩ := i64_of Try.underlying3 g2
  injection e0 with e0; injection e1 with e1; injection e2 with e2
  subst e0 e1 e2
  have hw : (y3.1.weights Try.prog 35).all (· ≤ reachBytes) = true := by
    have h2 := hsz
    simp only [DataW.weights, Try.underlying44] at h2
    refine List.all_eq_true.2 fun z hz => List.all_eq_true.1 h2 z ?_
    exact DataW.weights_mem_each (ts := [3, 3, 3, 35]) (ds := [y0.1, y1.1, y2.1, y3.1]) (j := 3) rfl rfl z hz
  obtain ⟨l, h1, h2, h3⟩ := bytes_of g3 hw
  exact ⟨⟨i, t, o, v3, l⟩, ⟨h1 t, h2, b0, b1, b2, h3⟩, rfl⟩

theorem open_script {A : Option Addr} {len cap : Nat} {d : DataW H} {p : List MemPlace} (h : DataW.Trod enc Try.prog W base spare held 22 (.slice A len cap) d p)
    (hsz : (d.weights Try.prog 22).all (· ≤ reachBytes) = true) :
    ∃ ops : List Cl, ops.length = len ∧ Script W A ops := by
  obtain ⟨fuel, hf⟩ := h
  rcases open_slice Try.underlying22 hf with ⟨hcs, _⟩ | ⟨a, len', cap', m, n, D, Pl, hcs, _, hl, _, hmm, hx, hi⟩
  · simp [Value.cells] at hcs
    obtain ⟨rfl, rfl, rfl⟩ := hcs
    exact ⟨[], rfl, Sl.nil _ _ _, by simp, by simp⟩
  · simp [Value.cells] at hcs
    obtain ⟨rfl, rfl, rfl⟩ := hcs
    obtain ⟨hx, _⟩ := Prod.mk.inj hx
    subst hx
    have k44 : Try.prog.cellsOf 44 = 4 := by kernel_rfl
    have b44 : Try.prog.bytesOf 44 = 48 := by kernel_rfl
    have hsz' : (DataW.weightsEach Try.prog [22] [DataW.slice ((List.range len).map D) ((List.range (m - len)).map fun j => D (len + j))]).all (· ≤ reachBytes) = true := by simpa [DataW.weightsEach] using hsz
    have hb := sized_slice hsz' (j := 0) rfl rfl Try.underlying22
    rw [b44] at hb
    simp only [List.length_map, List.length_range] at hb
    unfold reachBytes at hb
    have hlm : len ≤ m := by rw [hmm]; split; exact hl; exact Nat.le_refl _
    have each : ∀ i, ∃ P : Cl, i < len → P.Fine W ∧ ∀ (j : Nat) (u : Value), P.cells[j]? = some u → W.cell? ((a.add (i * 4)).add j) = some u := by
      intro i
      by_cases hil : i < len
      · obtain ⟨cs', hc, htr⟩ := hi i (by omega)
        rw [k44] at hc
        obtain ⟨_, hlen, hat⟩ := World.cells?_some hc
        obtain ⟨P, h1, h2⟩ := open_op hlen htr (by
          refine List.all_eq_true.2 fun x hx => List.all_eq_true.1 hsz x ?_
          simp only [DataW.weights, Try.underlying22, List.mem_cons, List.mem_append]
          exact .inr (.inl (mem_all (List.mem_map.2 ⟨i, List.mem_range.2 hil, rfl⟩) x hx)))
        subst h2
        refine ⟨P, fun _ => ⟨h1, fun j u hu => ?_⟩⟩
        have hj : j < 4 := by
          have := (List.getElem?_eq_some_iff.1 hu).1
          simpa [Cl.cells] using this
        rw [hat j hj]
        exact hu
      · exact ⟨⟨0, 0, 0, .slice none 0 0, []⟩, fun h => absurd h hil⟩
    obtain ⟨f, hF⟩ := Classical.axiomOfChoice each
    have hlen : ((List.range len).map f).length = len := by simp
    refine ⟨(List.range len).map f, hlen, ⟨by rw [cl_len], fun hn => ?_⟩, fun P hP => ?_, by rw [hlen]; omega⟩
    · rw [hlen] at hn
      obtain ⟨b, off, spot⟩ := a
      have h0 := (hF 0 hn).2 0 _ rfl
      have hspot : spot = none := by simpa [Addr.add] using World.cell?_spot h0
      subst hspot
      refine ⟨b, off, rfl, fun j u hu => ?_⟩
      have hj : j < len * 4 := by
        have := (List.getElem?_eq_some_iff.1 hu).1
        rwa [cl_len, hlen] at this
      have hq : j / 4 < len := by omega
      have hr : j % 4 < 4 := by omega
      have hjj : j = j / 4 * 4 + j % 4 := by omega
      rw [hjj, cl_at _ (j / 4) (j % 4) (f (j / 4)) (by simp [hq]) hr] at hu
      have := (hF (j / 4) hq).2 (j % 4) u hu
      rw [Go.Deep.add_add, Go.WideShapes.add_plain, ← hjj] at this
      exact this
    · obtain ⟨i, hi', rfl⟩ := List.mem_map.1 hP
      exact (hF i (List.mem_range.1 hi')).1
end

end Go.Proofs.Ytogiedephnappaa.Net
