/- better's closure: the mean. -/
import Derived.Test.YtlpcmeodbigpjaaDoorBase
import Derived.Test.YtlpcmeodbigpjaaDoorColBLaw
import Derived.Deep.QuietTactic
import Derived.BigQuiet
namespace Go.Proofs.YtlpcmeodbigpjaaDoor
open Go Go.RowKit

theorem meanS_toNat (s n : Int) (h0 : 0 ≤ s) (hn : 0 < n) (hb : s ≤ 255 * n) : ((Col.meanS s n).toNat : Int) = (2 * s + n) / (2 * n) ∧ 0 ≤ (2 * s + n) / (2 * n) ∧ (2 * s + n) / (2 * n) ≤ 255 := by
  have h1 : 0 ≤ (2 * s + n) / (2 * n) := Int.ediv_nonneg (by omega) (by omega)
  have h2 : (2 * s + n) / (2 * n) < 256 := Int.ediv_lt_of_lt_mul (by omega) (by omega)
  refine ⟨?_, h1, by omega⟩
  unfold Col.meanS Col.meanOf
  rw [UInt8.toNat_ofNat']
  have e : (((2 * s + n) / (2 * n)).toNat : Int) = (2 * s + n) / (2 * n) := Int.toNat_of_nonneg h1
  omega

theorem mean_any (k : Nat) (g : Nat) (s n : Int) (w : World) (hk : k < 4) (c0 : w.cell? ⟨g, k, none⟩ = some (.int .i64 s)) (c1 : w.cell? ⟨g, 4, none⟩ = some (.int .i64 n))
    (h0 : 0 ≤ s) (hn : 0 < n) (hb : s ≤ 255 * n) (hbig : n ≤ 1048576) :
    Calls Tryd.prog 30 #[.int .i64 k, .pointer (some ⟨g, 0, none⟩)] w fun e w' => e = .returned (.int .u8 (Col.meanS s n).toNat) ∧ ∃ q, w' = w.drewN q := by
  obtain ⟨hm, hm0, hm1⟩ := meanS_toNat s n h0 hn hb
  have HM := Lib.hid hm
  clear hm
  go_enter Tryd.func30, Tryd.ntmps30
  go_wp2
  go_quiet (fail)
  go_wp2
  go_show
  go_ret
  exact ⟨by rw [HM.out]; rfl, _, rfl⟩
end Go.Proofs.YtlpcmeodbigpjaaDoor
