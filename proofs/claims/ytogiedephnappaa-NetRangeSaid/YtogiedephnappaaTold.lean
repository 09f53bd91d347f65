/- The contract of the law's told: the list of places; bytes that are counted up; the walk. -/
import Derived.Test.YtogiedephnappaaTo
namespace Go.Proofs.Ytogiedephnappaa.Net
open Go.RowKit Go.Proofs.Ytogiedephnappaa.Mem

/-- The places below j of what is for d. -/
def ats (rl : List Ms) (d : Int) (j : Nat) : List Nat := (List.range j).filter fun i => match rl[i]? with
  | some x => x.dst == d
  | none => false

section
variable {rl : List Ms} {d : Int} {j : Nat} {x : Ms}
theorem ats_zero (rl : List Ms) (d : Int) : ats rl d 0 = [] := rfl
theorem ats_yes (hx : rl[j]? = some x) (h : x.dst = d) : ats rl d (j + 1) = ats rl d j ++ [j] := by
  simp [ats, List.range_succ, List.filter_append, hx, h]
theorem ats_no (hx : rl[j]? = some x) (h : x.dst ≠ d) : ats rl d (j + 1) = ats rl d j := by
  simp [ats, List.range_succ, List.filter_append, hx, h]
theorem ats_len (rl : List Ms) (d : Int) (j : Nat) : (ats rl d j).length ≤ j := by
  have := List.length_filter_le (fun i => match rl[i]? with
    | some x => x.dst == d
    | none => false) (List.range j)
  simpa [ats] using this
theorem ats_more (rl : List Ms) (d : Int) (j : Nat) : ∀ m, ∃ r, ats rl d (j + m) = ats rl d j ++ r
  | 0 => ⟨[], by simp⟩
  | m + 1 => by
    obtain ⟨r, hr⟩ := ats_more rl d j m
    refine ⟨r ++ [j + m].filter (fun i => match rl[i]? with
      | some x => x.dst == d
      | none => false), ?_⟩
    rw [← List.append_assoc, ← hr, ← Nat.add_assoc]
    simp only [ats, List.range_succ, List.filter_append]
theorem ats_at (hx : rl[j]? = some x) (h : x.dst = d) {n : Nat} (hj : j < n) : (ats rl d n)[(ats rl d j).length]? = some j := by
  obtain ⟨r, hr⟩ := ats_more rl d (j + 1) (n - (j + 1))
  have e : j + 1 + (n - (j + 1)) = n := by omega
  rw [e] at hr
  rw [hr, ats_yes hx h, List.append_assoc, List.getElem?_append_right (Nat.le_refl _)]
  simp
end

/-- A block of bytes, the first n of them numbers. -/
def Byt (w : World) (ub n : Nat) : Prop := ∃ cs, Blk w ub 5 cs ∧ ∀ i, i < n → ∃ y, cs[i]? = some (.int .u8 y)

section
variable {w w' : World} {ub n i : Nat}
theorem Byt.cell (h : Byt w ub n) (hi : i < n) : ∃ y, w.cell? ⟨ub, i, none⟩ = some (.int .u8 y) := by
  obtain ⟨cs, hb, hc⟩ := h
  obtain ⟨y, hy⟩ := hc i hi
  exact ⟨y, (hb.cell i).trans hy⟩
theorem Byt.frozen (h : Byt w ub n) (i : Nat) : w.frozen? ⟨ub, i, none⟩ = false := by
  obtain ⟨cs, hb, _⟩ := h
  exact hb.frozen i
theorem Byt.set_ (h : Byt w ub n) (i : Nat) (z : Int) : Byt (w.setCell ⟨ub, i, none⟩ (.int .u8 z)) ub n := by
  obtain ⟨cs, hb, hc⟩ := h
  refine ⟨_, hb.set_ i _, fun k hk => ?_⟩
  obtain ⟨y, hy⟩ := hc k hk
  by_cases e : i = k
  · subst e
    have hlt : i < cs.size := (Array.getElem?_eq_some_iff.1 hy).1
    exact ⟨z, by simp [hlt]⟩
  · exact ⟨y, by rw [Array.getElem?_setIfInBounds_ne e]; exact hy⟩
theorem Byt.drewN (h : Byt w ub n) (k : Nat) : Byt (w.drewN k) ub n := h
theorem Byt.of_own {base n c : Nat} {U : Option Addr} {raw : List Int} (h : w.ownsRow base 5 1 (.slice U n c) n (bcs raw)) : (U = none ∧ n = 0) ∨ ∃ ub, U = some ⟨ub, 0, none⟩ ∧ base ≤ ub ∧ ub < w.heap.size ∧ Byt w ub n := by
  rcases h.2 with ⟨hv, h0⟩ | ⟨g, cap, cur, hv, hb, hg, hnc, _, hcs, htake⟩
  · injection hv with h1 _ _
    exact .inl ⟨h1, h0⟩
  · injection hv with h1 _ _
    refine .inr ⟨g, h1, hb, (h.lt g (by rw [h1]; rfl)).2, cur, hg, fun i hi => ?_⟩
    have h3 : (bcs raw)[i]? = cur[i]? := by
      rw [← htake, List.getElem?_take, if_pos (by omega)]
      simp
    have hlen : i < (bcs raw).length := by rw [h.1]; omega
    rw [← h3]
    simp only [bcs, List.getElem?_map] at h3 ⊢
    rw [bcs_len] at hlen
    exact ⟨raw[i], by rw [List.getElem?_eq_getElem hlen]; rfl⟩
end

theorem own_grown {base size n : Nat} {e : TypeId} {v : Value} {xs : List Value} {B : Nat} {W W' : World} {row : Option Nat} (h : W.ownsRow base e size v n xs) (hg : W.grownBy W' row)
    (hr : ∀ r, row = some r → B ≤ r ∧ ∃ o : Obj, W.heap[r]? = some o ∧ o.isCells = false) : W'.ownsRow base e size v n xs := by
  refine own_kp (S := fun k => row = some k) h ⟨hg.os, hg.tape, hg.output, hg.size, fun k hk hn => hg.block k hk (fun e => hn e.symm)⟩ (fun k hk e => ?_)
  rcases h.2 with ⟨rfl, _⟩ | ⟨g, cap, cur, rfl, _, hgc, _⟩
  · cases hk
  · injection hk with hk
    subst hk
    obtain ⟨_, o, ho, hc⟩ := hr _ e
    have hgc2 : W.heap[g]? = some (.cells cur _ (0, 0)) := hgc
    change W.heap[g]? = some o at ho
    rw [hgc2] at ho
    injection ho with ho
    subst ho
    cases hc
end Go.Proofs.Ytogiedephnappaa.Net
