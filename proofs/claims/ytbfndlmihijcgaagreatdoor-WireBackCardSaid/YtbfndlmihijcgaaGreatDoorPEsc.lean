/- Plain law: a text's escapes are what the replacer gives. No program here. -/
import Derived.Test.YtbfndlmihijcgaaGreatDoorPRep
import Derived.Test.YtbfndlmihijcgaaGreatDoorPRead
namespace Go.Proofs.YtbfndlmihijcgaaGreatDoor
open Go

def escP : List (UInt8 × List UInt8) := [(92, [92, 92]), (34, [92, 34])]
theorem repF_esc (s : List UInt8) : repF escP s = escL s := by
  induction s with
  | nil => rfl
  | cons c r ih =>
    rw [repF_cons, ih]
    by_cases h1 : c = 92
    · subst h1; rfl
    · by_cases h2 : c = 34
      · subst h2; rfl
      · rw [show escP.lookup c = none by unfold escP; rw [List.lookup_cons, show (c == 92) = false by simpa using h1]; simp only; rw [List.lookup_cons, show (c == 34) = false by simpa using h2]; rfl]
        simp [escL, h1, h2]
end Go.Proofs.YtbfndlmihijcgaaGreatDoor
