/- One piece of a snapshot taken, at whatever offset: what the Gather then holds. -/
import Derived.Test.YtkkgnehpokeffaaCutsWalk
namespace Go.Proofs.Ytkkgnehpokeffaa.Chunk
open Go.RowKit Go.Proofs.Ytkkgnehpokeffaa.Mem Go.Proofs.Ytkkgnehpokeffaa.SlBytes

/-- The Gather at g holds the first k bytes of l (nothing begun, and k = 0; or snapshot 7, 2 is being reassembled). -/
def Has (w : World) (g : Nat) (l : List Int) (k : Nat) : Prop :=
  ∃ (i t wh : Int) (is : Bool) (D : Option Addr) (c : Nat), Gth w g i t wh is D k c (l.take k) ∧ ((is = false ∧ k = 0) ∨ (i = 7 ∧ t = 2 ∧ wh = l.length ∧ is = true))

def after (n k o : Nat) : Nat := if o = k then min n (k + 4096) else k

theorem take_more (l : List Int) (k : Nat) (h : k ≤ l.length) : l.take k ++ (l.drop k).take 4096 = l.take (min l.length (k + 4096)) := by
  rw [← List.take_add]
  by_cases h2 : k + 4096 ≤ l.length
  · rw [Nat.min_eq_right h2]
  · rw [Nat.min_eq_left (by omega), List.take_of_length_le (by omega), List.take_of_length_le (Nat.le_refl _)]

/-- What one Take of a piece of l leaves. -/
def PieceTook (w : World) (g : Nat) (l : List Int) (k : Nat) (e : Ending) (w' : World) : Prop :=
  e = .returned (.tuple #[.int .u64 (k : Nat), .bool ((k : Int) == (l.length : Int)), .int .i64 0]) ∧ Has w' g l k ∧ w.grownBy w' (some g) ∧ k ≤ l.length

theorem piece (g : Nat) (l : List Int) (k o : Nat) (A : Option Addr) (m c : Nat) (w : World) (hn : l.length ≤ 1048576) (hk : k ≤ l.length) (ho : o ≤ l.length) (h : Has w g l k)
    (hm : m = min (l.length - o) 4096) (hp : Sl w 1 A m (bcs ((l.drop o).take 4096))) (hA : A.map (·.block) ≠ some g) :
    Calls Try.prog 9 #[.pointer (some ⟨g, 0, none⟩), .int .u64 7, .int .u64 2, .int .u64 (l.length : Nat), .int .u64 (o : Nat), .slice A m c] w (PieceTook w g l (after l.length k o)) := by
  obtain ⟨i, t, wh, is, D, c0, hG, hst⟩ := h
  have close : ∀ (k' : Nat) (D : Option Addr) e w', k' ≤ l.length → Took w g 7 2 l.length D (l.take k') e w' → PieceTook w g l k' e w' := by
    rintro k' D e w' hk' ⟨D', n', c', rfl, hG', hgr, _⟩
    obtain rfl : n' = k' := by have := hG'.len; rw [List.length_take] at this; omega
    exact ⟨rfl, ⟨_, _, _, _, _, _, hG', .inr ⟨rfl, rfl, rfl, rfl⟩⟩, hgr, hk'⟩
  by_cases hok : o = k
  · subst hok
    have e1 : after l.length o o = min l.length (o + 4096) := by unfold after; rw [if_pos rfl]
    rw [e1]
    by_cases hd : (i == 7 && (t == 2 && (wh == (l.length : Int) && is))) = true
    · have hs : i = 7 ∧ t = 2 ∧ wh = l.length ∧ is = true := by simpa using hd
      obtain ⟨rfl, rfl, rfl, rfl⟩ := hs
      have := take_same_app g 7 2 l.length D o c0 (l.take o) ((l.drop o).take 4096) A m c w (by omega) (by omega) (by omega) (by omega) (by omega) hG hp
      rw [take_more l o ho] at this
      exact this.mono (fun e w' h => close _ D e w' (Nat.min_le_left _ _) h)
    · have hd' : (i == 7 && (t == 2 && (wh == (l.length : Int) && is))) = false := by simpa using hd
      have h0 : o = 0 := by
        rcases hst with ⟨_, h⟩ | ⟨h1, h2, h3, h4⟩
        · exact h
        · exact absurd (by simp [h1, h2, h3, h4]) hd
      subst h0
      have := take_diff_app g 7 2 l.length i t wh is D 0 c0 (l.take 0) ((l.drop 0).take 4096) A m c w (by omega) (by omega) (by omega) (by omega) hG hd' hp hA
      have e2 : (l.drop 0).take 4096 = l.take (min l.length (0 + 4096)) := by
        have := take_more l 0 (Nat.zero_le _)
        simpa using this
      rw [e2] at this
      exact this.mono (fun e w' h => close _ D e w' (Nat.min_le_left _ _) h)
  · have e1 : after l.length k o = k := by unfold after; rw [if_neg hok]
    rw [e1]
    by_cases hd : (i == 7 && (t == 2 && (wh == (l.length : Int) && is))) = true
    · have hs : i = 7 ∧ t = 2 ∧ wh = l.length ∧ is = true := by simpa using hd
      obtain ⟨rfl, rfl, rfl, rfl⟩ := hs
      have := take_same_ign g 7 2 l.length o D k c0 (l.take k) A m c w (by omega) (by omega) (by omega) (by omega) (by omega) (by omega) hG (by omega) (by omega)
      exact this.mono (fun e w' h => close _ D e w' hk h)
    · have hd' : (i == 7 && (t == 2 && (wh == (l.length : Int) && is))) = false := by simpa using hd
      have h0 : k = 0 := by
        rcases hst with ⟨_, h⟩ | ⟨h1, h2, h3, h4⟩
        · exact h
        · exact absurd (by simp [h1, h2, h3, h4]) hd
      subst h0
      have := take_diff_ign g 7 2 l.length o i t wh is D 0 c0 (l.take 0) A m c w (by omega) (by omega) (by omega) (by omega) (by omega) (by omega) hG hd'
      exact this.mono (fun e w' h => close 0 D e w' (Nat.zero_le _) h)

end Go.Proofs.Ytkkgnehpokeffaa.Chunk
