import Derived.Test.YtnedgmdbehpodaaD8
namespace Go.Proofs.Ytnedgmdbehpodaa
open Go Go.Sy
set_option linter.all false
set_option maxRecDepth 100000
set_option maxHeartbeats 4000000
theorem rpad_at {B : List Box} {args : List CV} {l : List UInt8} {n : Nat} (hz : Is (omap (fz true false B 6) args) (some [.lst n (l.map byteC) false])) (hn : n = l.length) (hl : l.length < 1000000) : ACall Try.prog 42 args B fun c B' => c = lb (l ++ List.replicate ((16 - l.length % 16) % 16) 0) ∧ B' = B := by subst hn; exact acall_fresh hz (rpad_in l hl)
theorem rtrim_at {B : List Box} {args : List CV} {l : List UInt8} {n : Nat} (hz : Is (omap (fz true false B 6) args) (some [.lst n (l.map byteC) false])) (hn : n = l.length) (hl : l.length < 1000000) : ACall Try.prog 40 args B fun c B' => c = trimC l ∧ B' = B := by subst hn; exact acall_fresh hz (rtrim_in l (by omega))
end Go.Proofs.Ytnedgmdbehpodaa
