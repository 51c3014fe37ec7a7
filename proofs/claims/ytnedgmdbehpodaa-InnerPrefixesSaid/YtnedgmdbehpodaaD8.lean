import Derived.Test.YtnedgmdbehpodaaD7
namespace Go.Proofs.Ytnedgmdbehpodaa
open Go Go.Sy
set_option linter.all false
set_option maxRecDepth 100000
set_option maxHeartbeats 4000000
theorem rbF_two (a b : UInt8) : rbF [a, b] = a.toNat * 256 + b.toNat := by
  have := a.toNat_lt
  have := b.toNat_lt
  simp [rbF]
  omega
theorem pkt6_len (n : Nat) (fill : UInt8) : (pkt6 n fill).length = 40 + n := by simp [pkt6]; omega
theorem pktS_len (six : Bool) (n : Nat) (fill : UInt8) : (pktS six n fill).length = (if six then 40 else 20) + n := by
  cases six
  · exact pkt4_len _ _ n fill n rfl rfl (Nat.le_refl n)
  · exact pkt6_len n fill
theorem chk_pkt (six : Bool) (n : Nat) (fill : UInt8) (z : List UInt8) (hn : n ≤ 1899) (hz : z.length ≤ 15) : (chk (pktS six n fill ++ z)).1 = 0 ∧ (chk (pktS six n fill ++ z)).2.2.2.2 = (pktS six n fill).length := by
  have hl := pktS_len six n fill
  have hl2 : (pktS six n fill ++ z).length = (if six then 40 else 20) + n + z.length := by rw [List.length_append, hl]
  cases six
  · have e1 : (pktS false n fill ++ z).getD 0 0 = 0x45 := rfl
    have e2 : ((pktS false n fill ++ z).drop 2).take 2 = [UInt8.ofNat ((20 + n) / 256), UInt8.ofNat (20 + n)] := rfl
    have e3 : rbF [UInt8.ofNat ((20 + n) / 256), UInt8.ofNat (20 + n)] = 20 + n := by rw [rbF_two, UInt8.toNat_ofNat', UInt8.toNat_ofNat']; omega
    simp only [Bool.false_eq_true, if_false] at hl hl2
    unfold chk
    rw [e1, e2, e3, hl, hl2]
    have e4 : (69 : UInt8).toNat = 69 := rfl
    rw [e4, if_neg (by omega), if_neg (by omega), if_pos (by omega), if_neg (by omega), if_neg (by omega), if_neg (by omega), if_neg (by omega)]
    exact ⟨rfl, rfl⟩
  · have e1 : (pktS true n fill ++ z).getD 0 0 = 0x60 := rfl
    have e2 : ((pktS true n fill ++ z).drop 4).take 2 = [UInt8.ofNat (n / 256), UInt8.ofNat n] := rfl
    have e3 : rbF [UInt8.ofNat (n / 256), UInt8.ofNat n] = n := by rw [rbF_two, UInt8.toNat_ofNat', UInt8.toNat_ofNat']; omega
    simp only [if_true] at hl hl2
    unfold chk
    rw [e1, e2, e3, hl, hl2]
    have e4 : (96 : UInt8).toNat = 96 := rfl
    rw [e4, if_neg (by omega), if_neg (by omega), if_neg (by omega), if_pos (by omega), if_neg (by omega), if_neg (by omega), if_neg (by omega)]
    exact ⟨rfl, rfl⟩
theorem trimC_pkt (six : Bool) (n : Nat) (fill : UInt8) (z : List UInt8) (hn : n ≤ 1899) (hz : z.length ≤ 15) : trimC (pktS six n fill ++ z) = .tup [lb (pktS six n fill), .int .i64 0] := by
  obtain ⟨h1, h2⟩ := chk_pkt six n fill z hn hz
  rw [trimC, h1, h2, if_pos rfl, List.take_left']
  rfl
end Go.Proofs.Ytnedgmdbehpodaa
