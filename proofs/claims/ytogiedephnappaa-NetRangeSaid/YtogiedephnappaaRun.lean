/- The contracts of the law's step and run. -/
import Derived.Test.YtogiedephnappaaStep
namespace Go.Proofs.Ytogiedephnappaa.Net
open Go.RowKit Go.Proofs.Ytogiedephnappaa.Mem

theorem step {b : Nat} (w : World) (g : Nat) (v : Value) (room kind dst at_ : Int) (l rl : List Ms) (A C : Option Addr) (c cd : Nat) (raw : List Int) (hG : Good b w g v room l (.slice A rl.length c) rl) (hx : Ms.Safe b w ⟨dst, .slice C raw.length cd, raw⟩)
    (hraw : raw.length ≤ 140737488351232) (hl : l.length < 7000000000000) :
    Calls Try.prog 22 #[.pointer (some ⟨g, 0, none⟩), .agg #[.int .i64 room, .slice A rl.length c], .agg #[.int .i64 kind, .int .i64 dst, .int .i64 at_, .slice C raw.length cd]] w (Stepped b w g v room l) := by
  have place : (at_ < 0 ∨ (l.length : Int) ≤ at_) ∨ ∃ (n : Nat) (x : Ms), at_ = (n : Int) ∧ l[n]? = some x := by
    by_cases h : 0 ≤ at_ ∧ at_ < (l.length : Int)
    · obtain ⟨n, hn⟩ := Int.eq_ofNat_of_zero_le h.1
      exact .inr ⟨n, _, hn, List.getElem?_eq_getElem (by omega)⟩
    · exact .inl (by omega)
  by_cases k0 : kind = 0
  · subst k0
    exact step_send w g v room dst at_ l rl A C c cd raw hG hx hraw hl
  by_cases k1 : kind = 1
  · subst k1
    rcases place with h | ⟨n, x, hn, hx'⟩
    · exact step_at_no w g v room dst at_ l rl A C c cd raw hG hx hraw hl h
    · exact step_at_yes w g v room dst at_ l rl A C c cd raw hG hx hraw hl n x hn hx'
  by_cases k2 : kind = 2
  · subst k2
    rcases place with h | ⟨n, x, hn, hx'⟩
    · exact step_take_no w g v room dst at_ l rl A C c cd raw hG hx hraw hl h
    · exact step_take_yes w g v room dst at_ l rl A C c cd raw hG hx hraw hl n x hn hx'
  by_cases k3 : kind = 3
  · subst k3
    rcases place with h | ⟨n, x, hn, hx'⟩
    · exact step_drop_no w g v room dst at_ l rl A C c cd raw hG hx hraw hl h
    · exact step_drop_yes w g v room dst at_ l rl A C c cd raw hG hx hraw hl n x hn hx'
  by_cases k4 : kind = 4
  · subst k4
    rcases place with h | ⟨n, x, hn, hx'⟩
    · exact step_double_no w g v room dst at_ l rl A C c cd raw hG hx hraw hl h
    · exact step_double_yes w g v room dst at_ l rl A C c cd raw hG hx hraw hl n x hn hx'
  by_cases k5 : kind = 5
  · subst k5
    exact step_told w g v room dst at_ l rl A C c cd raw hG hx hraw hl
  by_cases k7 : kind = 7
  · subst k7
    exact step_clone w g v room dst at_ l rl A C c cd raw hG hx hraw hl
  exact step_any w g v room kind dst at_ l rl A C c cd raw hG hx hraw hl (beq_eq_false_iff_ne.2 k0) (beq_eq_false_iff_ne.2 k1) (beq_eq_false_iff_ne.2 k2) (beq_eq_false_iff_ne.2 k3) (beq_eq_false_iff_ne.2 k4) (beq_eq_false_iff_ne.2 k5) (beq_eq_false_iff_ne.2 k7)

/-- What a run of n steps leaves. -/
def Ran (b : Nat) (w : World) (g : Nat) (v : Value) (room : Int) (l : List Ms) (n : Nat) (e : Ending) (w' : World) : Prop :=
  ∃ g' v' A' c' l' rl', e = .returned (.tuple #[.pointer (some ⟨g', 0, none⟩), .agg #[.int .i64 room, .slice A' rl'.length c'], .bool true]) ∧
    Good b w' g' v' room l' (.slice A' rl'.length c') rl' ∧ l'.length ≤ l.length + n ∧ Kp (Nb g v) w w' ∧ ∀ k, Nb g' v' k → Nb g v k ∨ w.heap.size ≤ k

end Go.Proofs.Ytogiedephnappaa.Net
