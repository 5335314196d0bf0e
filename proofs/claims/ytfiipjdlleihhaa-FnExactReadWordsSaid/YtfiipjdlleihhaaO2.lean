/- What a slice of slices of integers that reads as data looks like in memory. -/
import Derived.Test.YtfiipjdlleihhaaO
import Derived.Test.YtfiipjdlleihhaaM5
namespace Go.Proofs.Ytfiipjdlleihhaa
open Go.ChangeShapes Go.WideShapes Go.ChangeAt Go.RowKit Go.Deep
theorem rows_of (w : World) (hi : Nat) (us : List Value) (h : ∀ (i : Nat) (u : Value), us[i]? = some u → ∃ xs, RdI w hi u xs) : ∃ xss, RowsR w hi us xss := by
  induction us with
  | nil => exact ⟨[], rfl, fun i u xs hu _ => by simp at hu⟩
  | cons v r ih =>
    obtain ⟨xs, hxs⟩ := h 0 v rfl
    obtain ⟨xss, hl, hr⟩ := ih (fun i u hu => h (i + 1) u (by simpa using hu))
    refine ⟨xs :: xss, by simp [hl], fun i u ys hu hy => ?_⟩
    cases i with
    | zero => simp at hu hy; subst hu hy; exact hxs
    | succ i => exact hr i u ys (by simpa using hu) (by simpa using hy)
theorem open_intSS {H : Type} {enc : TypeId × Value → H} {w : World} {spare : Nat → Bool} {held : Bool} {fuel : Nat} {v : Value} {x : DataW H × List MemPlace}
    (h : DataW.trod enc Try.prog w 0 spare held fuel 22 [v] = some x) : ∃ xss, RdII w w.heap.size v xss := by
  obtain ⟨n, vs, hr, hl, hk⟩ := open_row Try.underlying22 (by kernel_rfl) h
  obtain ⟨xss, hrow⟩ := rows_of w w.heap.size vs (fun i u hu => by
    obtain ⟨f, y, hy⟩ := hk i u hu
    exact open_intS hy)
  have : xss.length = n := by rw [← hrow.1]; exact hl
  subst this
  exact ⟨xss, vs, hrow, hr⟩
end Go.Proofs.Ytfiipjdlleihhaa
