/- Code that is never come to. -/
import Derived.Test.YtkfkkkalcchpkaaGreatDoorShP
namespace Go.Sh
def deadT : CT := fun _ _ _ _ => False
theorem dead_ok {P : Program} (c : Code) : SoundCode P c deadT := by
  intro ro nf Ds Q QA E fr H a w hnp hg hR hS h
  exact (show False from h).elim
end Go.Sh
