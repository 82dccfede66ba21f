/- What stands behind the first token that is left does not count: in plain Lean. No condition. -/
import Derived.Test.YtbinaeemcidicaaGreatDoorZCn
set_option maxHeartbeats 16000000
namespace Go.Proofs.YtbinaeemcidicaaGreatDoor
end Go.Proofs.YtbinaeemcidicaaGreatDoor
namespace Go.Proofs.YtbinaeemcidicaaGreatDoor
theorem pF_up {f g : Nat} (hfg : f ≤ g) {n : Nt} {l : List Ti} {x} (h : pF f n l = some x) : pF g n l = some x := by
 induction hfg with
 | refl => exact h
 | step _ ih => exact pF_succ _ _ _ _ ih
theorem pF_det {f g : Nat} {n : Nt} {l : List Ti} {x y} (h : pF f n l = some x) (h' : pF g n l = some y) : x = y := by
 have h1 := pF_up (Nat.le_max_left f g) h
 have h2 := pF_up (Nat.le_max_right f g) h'
 rw [h1] at h2
 exact Option.some.inj h2
theorem hgtL_app : ∀ a b : List Pt, hgtL (a ++ b) = max (hgtL a) (hgtL b)
 | [], b => by rw [hgtL, List.nil_append, Nat.zero_max]
 | p :: a, b => by rw [List.cons_append, hgtL, hgtL, hgtL_app a b, Nat.max_assoc]
theorem put_none {ps : List Pt} : (putP (.mk 1 [] [] 0 0 ps) 0 0 none).2 = none ↔ hgtL ps ≤ 32 := by
 constructor
 ·intro h
  by_cases hh : hgtL ps ≤ 32
  ·exact hh
  ·exact absurd h (putP_far (.mk 1 [] [] 0 0 ps) 0 0 (by rw [hgtP]; omega))
 ·intro h
  rw [putP_flt (.mk 1 [] [] 0 0 ps) 0 0 (by rw [hgtP]; omega)]
theorem pF_total (n : Nt) (l : List Ti) : ∃ f x, pF f n l = some x := by
 have h := pF_some (fuelN n l) n l (Nat.le_refl _)
 unfold IsS at h
 obtain ⟨x, hx⟩ := Option.isSome_iff_exists.1 h
 exact ⟨_, x, hx⟩
end Go.Proofs.YtbinaeemcidicaaGreatDoor
