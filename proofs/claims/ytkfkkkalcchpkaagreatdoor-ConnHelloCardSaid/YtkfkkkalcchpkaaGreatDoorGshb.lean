/- The sha functions are printed in one text. -/
import Derived.Test.YtkfkkkalcchpkaaGreatDoorGsha
