/- All of the parser's expressions together. -/
import Derived.Test.YtdijffojppjmfaaDoorPd
import Derived.Test.YtdijffojppjmfaaDoorPe
import Derived.Test.YtdijffojppjmfaaDoorPf
namespace Go.Proofs.YtdijffojppjmfaaDoor
open Go.RowKit Bir Go.BW
theorem pall : ∀ n, n ≤ 1000000000 → ∀ m, m ≤ n → PAll m
  | 0, _, m, hm => by
    obtain rfl : m = 0 := by omega
    exact ⟨fun _ h => absurd rfl h, fun _ _ _ _ _ _ h => absurd rfl h, fun _ h => absurd rfl h, fun _ _ h => absurd rfl h⟩
  | n + 1, hn, m, hm => by
    have ih := pall n (by omega)
    rcases Nat.lt_or_ge m (n + 1) with hlt | hge
    · exact ih m (by omega)
    · obtain rfl : m = n + 1 := by omega
      refine ⟨fun h hne => expr_step (ih n (Nat.le_refl _)) h hne, fun lvl v hv h1 h2 h hne => ?_, fun h hne => un_step (ih n (Nat.le_refl _)) h hne, fun h hp hne => args_step hn (fun m hm => ih m (by omega)) h hp hne⟩
      by_cases hl : lvl ≤ 10
      · exact bin_low (by omega) (fun m hm => ih m (by omega)) h lvl v hv h1 hl hne
      · exact bin_top (ih n (Nat.le_refl _)) h lvl v hv (by omega) hne
end Go.Proofs.YtdijffojppjmfaaDoor
