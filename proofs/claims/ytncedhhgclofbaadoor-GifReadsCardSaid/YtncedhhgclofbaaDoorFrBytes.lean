/- (gif.Frame).bytes: a frame as bytes: the walk. -/
import Derived.Test.YtncedhhgclofbaaDoorNumbers
import Derived.Test.YtncedhhgclofbaaDoorPackWalk
import Derived.Test.YtncedhhgclofbaaDoorBlocks
import Derived.Test.YtncedhhgclofbaaDoorTally
import Derived.Deep.Cut
import Derived.Deep.DeepCutAuto
namespace Go.Proofs.YtncedhhgclofbaaDoor
open Go Go.RowKit

theorem nums_lt (ps : List Px) : ∀ b ∈ Gif.nums (Col.unl ps).2, (Col.unl ps).1.length ≤ 256 → b.toNat < (Col.unl ps).1.length := by
  intro b hb hl
  unfold Gif.nums at hb
  obtain ⟨z, hz, rfl⟩ := List.mem_map.1 hb
  have h1 := (Col.unl_places ps ps.length (Nat.le_refl _))
  rw [List.take_length] at h1
  rw [h1.1] at hz
  obtain ⟨x, hx, rfl⟩ := List.mem_map.1 hz
  have h2 := h1.2 x hx
  rw [Int.toNat_natCast, UInt8.toNat_ofNat_of_lt' (by show _ < 256; omega)]
  exact h2
theorem nums_length (ps : List Px) : (Gif.nums (Col.unl ps).2).length = ps.length := by
  have h1 := (Col.unl_places ps ps.length (Nat.le_refl _)).1
  rw [List.take_length] at h1
  unfold Gif.nums
  rw [List.length_map, h1, List.length_map]
/-- A new block is one's own. -/
theorem own_fresh (w : World) (base : Nat) (t : TypeId) (xs : List Value) (n : Nat) (hn : xs.length = n) (hb : base ≤ w.heap.size) (hm : n ≤ maxLen) : Own (w.alloc (.cells xs.toArray t)) base 1 (.slice (some ⟨w.heap.size, 0, none⟩) n n) n xs := by
  have hB := Blk.new w t xs.toArray rfl
  refine ⟨by omega, .inr ⟨w.heap.size, 0, n, rfl, hb, by simp, Nat.le_refl _, hm, fun j hj => ?_, fun j hj => ?_⟩⟩
  · rw [Nat.zero_add, hB.cell]
    simp
  · rw [Nat.zero_add, hB.cell, hB.free]
    refine ⟨?_, rfl⟩
    simp
    omega
/-- A frame that may be written. -/
structure FrOK (f : Fr) (n : Nat) : Prop where
  w0 : 0 ≤ f.wide
  w1 : f.wide ≤ 256
  h0 : 0 ≤ f.high
  h1 : f.high ≤ 256
  d0 : 0 ≤ f.delay
  d1 : f.delay ≤ 65535
  n1 : n ≤ 65536
set_option maxHeartbeats 4000000 in
set_option maxRecDepth 100000 in
theorem frBytes_no (m : FM) (w : World) (hp : Reads w w.heap.size 4 m.A m.n (pxCells m.f.ps)) (hn : m.n ≤ 65536) (hc : Gif.colOK m.f.ps = false) :
    Calls Tryd.prog 23 #[.agg #[.int .i64 m.f.wide, .int .i64 m.f.high, .slice m.A m.n m.c, .int .i64 m.f.delay]] w
      fun e w' => e = .returned (.tuple #[.string ⟨#[]⟩, .bool false]) ∧ Below w.heap.size w w' := by
  have HC := Lib.hid hc
  clear hc
  go_enter Tryd.func23, Tryd.ntmps23
  go_wp2_with fail
  refine (numbers_any _ _ m.A m.n m.c m.f.ps _ ((hp.alloc (Nat.le_refl _) _).more (by first | omega | (simp; done) | (simp; omega))) hn).mono ?_
  rintro e w1 ⟨hb1, he⟩
  rw [if_neg (by rw [HC.out]; decide)] at he
  subst he
  have hw1 : Below w.heap.size w w1 := Below.trans (by go_grown) (hb1.mono (by first | omega | (simp; done) | (simp; omega)))
  go_wp2_with fail
  go_ret2
  exact ⟨rfl, hw1⟩
/-- What the loop of the table keeps. -/
structure FtR (w : World) (u : List Px) (A1 : Option Addr) (c1 : Nat) (A2 : Option Addr) (n c2 : Nat) (xs : List Value) (F : List UInt8) (k : Nat) (v : Value) (wr : World) : Prop where
  ob : Own wr w.heap.size 1 v (F.length + 3 * k) (bytes (F ++ Gif.table u k))
  oc : Own wr w.heap.size 4 (.slice A1 u.length c1) u.length (pxCells u)
  ol : Own wr w.heap.size 1 (.slice A2 n c2) n xs
  ap : ∀ g, v.ownBlock = some g → (Value.slice A1 u.length c1).ownBlock ≠ some g ∧ (Value.slice A2 n c2).ownBlock ≠ some g
  bel : Below w.heap.size w wr
set_option maxHeartbeats 4000000 in
set_option maxRecDepth 100000 in
theorem frBytes_yes (m : FM) (w : World) (hp : Reads w w.heap.size 4 m.A m.n (pxCells m.f.ps)) (ok : FrOK m.f m.n) (hc : Gif.colOK m.f.ps = true) :
    Calls Tryd.prog 23 #[.agg #[.int .i64 m.f.wide, .int .i64 m.f.high, .slice m.A m.n m.c, .int .i64 m.f.delay]] w
      fun e w' => ∃ t, e = .returned (.tuple #[.string t, .bool true]) ∧ lst t = Gif.frame m.f ∧ Below w.heap.size w w' := by
  obtain ⟨ok0, ok1, ok2, ok3, ok4, ok5, hn⟩ := ok
  obtain ⟨i0, hi, hz0, hz1, hz2⟩ := info_parts byteInfo
  have HC := Lib.hid hc
  have hmn : m.n = m.f.ps.length := hp.pxLen
  have hul : (Col.unl (Gif.clean m.f.ps)).1.length ≤ 256 := by
    unfold Gif.colOK at hc
    rw [Bool.and_eq_true, decide_eq_true_eq] at hc
    exact hc.2
  have hnl := nums_lt (Gif.clean m.f.ps)
  have hnn := nums_length (Gif.clean m.f.ps)
  have hcr := Gif.clr_range (Col.unl (Gif.clean m.f.ps)).1
  have hcll : (Gif.clean m.f.ps).length = m.f.ps.length := by simp [Gif.clean]
  obtain ⟨u, hu⟩ : ∃ u, u = (Col.unl (Gif.clean m.f.ps)).1 := ⟨_, rfl⟩
  obtain ⟨ns, hns⟩ : ∃ ns, ns = (Col.unl (Gif.clean m.f.ps)).2 := ⟨_, rfl⟩
  have hfr : Gif.frame m.f = Gif.front m.f u ++ Gif.table u (2 ^ (Gif.size u.length + 1)) ++ [UInt8.ofNat (Gif.width (Gif.size u.length))] ++ Blo.blocks (Bit.pack (Lz.lzw (Gif.width (Gif.size u.length)) (Gif.nums ns))) := by
    unfold Gif.frame
    rw [← hu, ← hns]
  rw [← hu, ← hns] at hnl
  rw [← hns, hcll, ← hmn] at hnn
  rw [← hu] at hul hcr
  have HFR := Lib.hid hfr
  have HU := Lib.hid hu
  have HNS := Lib.hid hns
  have HNL := Lib.hid hnl
  have HNN := Lib.hid hnn
  clear hc hmn hnl hnn hcll hu hns hfr
  go_enter Tryd.func23, Tryd.ntmps23
  go_wp2_with fail
  refine (numbers_any _ _ m.A m.n m.c m.f.ps _ ((hp.alloc (Nat.le_refl _) _).more (by first | omega | (simp; done) | (simp; omega))) hn).mono ?_
  rintro e w1 ⟨hb1, he⟩
  rw [if_pos HC.out, ← HU.out, ← HNS.out] at he
  obtain ⟨A1, c1, A2, c2, rfl, ho1, ho2⟩ := he
  have hw1 : Below w.heap.size w w1 := Below.trans (by go_grown) (hb1.mono (by first | omega | (simp; done) | (simp; omega)))
  have B1 := (Blk.new w 37 #[.int .i64 m.f.wide, .int .i64 m.f.high, .slice m.A m.n m.c, .int .i64 m.f.delay] rfl).below hb1 (by first | omega | (simp; done) | (simp; omega))
  clear hb1
  obtain ⟨cr, hcr2⟩ : ∃ cr, cr = Gif.clr u := ⟨_, rfl⟩
  rw [← hcr2] at hcr ⊢
  have HCR := Lib.hid hcr2
  clear hcr2
  -- flags, number
  obtain ⟨fl, hfl⟩ : ∃ fl : Nat, fl = if 0 ≤ cr then 9 else 8 := ⟨_, rfl⟩
  obtain ⟨nu, hnu⟩ : ∃ nu : Nat, nu = cr.toNat := ⟨_, rfl⟩
  have HFL := Lib.hid hfl
  have HNU := Lib.hid hnu
  have hflb : fl ≤ 9 := by rw [hfl]; split <;> omega
  have hnub : nu ≤ 255 := by omega
  clear hfl hnu
  go_upto_if 28 with (fail)
  go_cut [8, 9] (fun f9 n9 wx => f9 = .int .i64 (fl : Nat) ∧ n9 = .int .i64 (nu : Nat) ∧ w1 = wx)
  case first =>
    have hfl := HFL.out
    have hnu := HNU.out
    by_cases h0 : 0 ≤ cr
    · have h9 : fl = 9 := by rw [hfl, if_pos h0]
      have hn9 : (nu : Int) = cr := by omega
      have H9 := Lib.hid h9
      have HN9 := Lib.hid hn9
      clear hfl hnu h9 hn9
      go_wp2_with fail
      go_meet
      case rel => exact ⟨by rw [H9.out]; rfl, by rw [HN9.out], rfl⟩
    · have h9 : fl = 8 := by rw [hfl, if_neg h0]
      have hn9 : nu = 0 := by omega
      have H9 := Lib.hid h9
      have HN9 := Lib.hid hn9
      clear hfl hnu h9 hn9
      go_wp2_with fail
      go_meet
      case rel => exact ⟨by rw [H9.out]; rfl, by rw [HN9.out]; rfl, rfl⟩
  case rest =>
    obtain ⟨rfl, rfl, rfl⟩ := hcut
    obtain ⟨D, hD⟩ := Int.eq_ofNat_of_zero_le ok4
    obtain ⟨Wn, hWn⟩ := Int.eq_ofNat_of_zero_le ok0
    obtain ⟨Hn, hHn⟩ := Int.eq_ofNat_of_zero_le ok2
    have b0 : w1.cell? ⟨w.heap.size, 0, none⟩ = some (.int .i64 Wn) := by rw [B1.cell, ← hWn]; rfl
    have b1 : w1.cell? ⟨w.heap.size, 1, none⟩ = some (.int .i64 Hn) := by rw [B1.cell, ← hHn]; rfl
    have b3 : w1.cell? ⟨w.heap.size, 3, none⟩ = some (.int .i64 D) := by rw [B1.cell, ← hD]; rfl
    have hDl : D ≤ 65535 := by omega
    have hWl : Wn ≤ 256 := by omega
    have hHl : Hn ≤ 256 := by omega
    have HD := Lib.hid hD
    have HWN := Lib.hid hWn
    have HHN := Lib.hid hHn
    clear hD hWn hHn
    obtain ⟨S, hS⟩ : ∃ S, S = Gif.size u.length := ⟨_, rfl⟩
    have hS7 : S ≤ 7 := by rw [hS]; exact Gif.size_le _ hul
    have hSf : u.length ≤ 2 ^ (S + 1) := by rw [hS]; exact Gif.size_fit _ hul
    have HS := Lib.hid hS
    clear hS
    go_wp2_with fail
    go_loop [10] (fun v => ∃ z : Nat, v = .int .i64 z ∧ z ≤ 7 ∧ Gif.sizeF (8 - z) z u.length = S) (fun v => 8 - (intOf v).toNat)
    case atStart => exact ⟨0, rfl, by omega, HS.out.symm⟩
    case round =>
      obtain ⟨z, rfl, hz, hzS⟩ := hrel
      have hzS2 : (if 2 ^ (z + 1) < u.length then Gif.sizeF (8 - z - 1) (z + 1) u.length else z) = S := by
        rw [← hzS, show 8 - z = (8 - z - 1) + 1 by omega, Gif.sizeF]
        rfl
      obtain ⟨Y, hY⟩ : ∃ Y : Nat, Y = 2 ^ (z + 1) := ⟨_, rfl⟩
      have hY2 : (2 : Int) * 2 ^ z = Y := by rw [hY, Nat.pow_succ]; push_cast; omega
      rw [← hY] at hzS2
      have HZ := Lib.hid hzS2
      have hYl : Y ≤ 256 := by rw [hY]; exact Nat.le_trans (Nat.pow_le_pow_right (show 0 < 2 by omega) (show z + 1 ≤ 8 by omega)) (Nat.le_refl _)
      have HY := Lib.hid hY
      clear hzS hzS2 hY
      by_cases hlt : Y < u.length
      · have hlti : (Y : Int) < u.length := by omega
        have h8 : z + 1 < 8 := by
          rcases Nat.lt_or_ge (z + 1) 8 with h | h
          · exact h
          · have e : z = 7 := by omega
            have := HY.out
            rw [e] at this
            have e2 : (2 : Nat) ^ (7 + 1) = 256 := by decide
            omega
        have hst := HZ.out
        rw [if_pos hlt] at hst
        have HST := Lib.hid hst
        clear hst
        go_wp2_with fail
        go_round
        case rel => exact ⟨z + 1, by go_num, by omega, by have := HST.out; rw [show 8 - (z + 1) = 8 - z - 1 by omega]; exact this⟩
        case measure => simp [intOf]; omega
      · have hlti : ¬ (Y : Int) < u.length := by omega
        have hst := HZ.out
        rw [if_neg hlt] at hst
        subst hst
        clear hlt
        go_upto_region 10 with (fail)
        obtain ⟨wd, hwd⟩ : ∃ wd, wd = Gif.width z := ⟨_, rfl⟩
        have hwd2 : wd ≤ 8 := by rw [hwd]; unfold Gif.width; omega
        have hwd3 : 2 ≤ wd := by rw [hwd]; unfold Gif.width; omega
        have hwd4 : z + 1 ≤ wd := by rw [hwd]; unfold Gif.width; omega
        have HWD := Lib.hid hwd
        clear hwd
        go_cut [11] (fun v wx => v = .int .i64 (wd : Nat) ∧ w1 = wx)
        case first =>
          have hwd := HWD.out
          unfold Gif.width at hwd
          rcases Nat.eq_zero_or_pos z with hz0 | hz0
          · have e : wd = 2 := by omega
            have HE := Lib.hid e
            clear e hwd
            subst hz0
            go_wp2_with fail
            go_meet
            case rel => exact ⟨by rw [HE.out]; rfl, rfl⟩
          · have e : wd = z + 1 := by omega
            have HE := Lib.hid e
            clear e hwd
            go_wp2_with fail
            all_goals
              go_meet
              case rel => first | exact ⟨by rw [HE.out]; rfl, rfl⟩ | exact ⟨by rw [HE.out, show z = 1 by omega]; rfl, rfl⟩
        case rest =>
          obtain ⟨rfl, rfl⟩ := hcut
          go_wp2_with fail
          obtain ⟨F13, hF⟩ : ∃ F13 : List UInt8, F13 = [33, 249, 4, UInt8.ofNat fl] ++ pair D ++ [UInt8.ofNat nu, 0, 44, 0, 0, 0, 0] := ⟨_, rfl⟩
          have hFl : F13.length = 13 := by rw [hF]; rfl
          have hcs : (bytes F13).toArray = #[.int .u8 33, .int .u8 249, .int .u8 4, .int .u8 fl, .int .u8 (D % 256), .int .u8 (D / 256), .int .u8 nu, .int .u8 0, .int .u8 44, .int .u8 0, .int .u8 0, .int .u8 0, .int .u8 0] := by
            rw [hF]
            simp [bytes, pair]
            omega
          have hO := own_fresh w1 w.heap.size 5 (bytes F13) 13 (by rw [bytes_length, hFl]) hw1.size (by decide)
          have hw2 := hw1.alloc hw1.size (.cells (bytes F13).toArray 5)
          have hB2 := B1.alloc (.cells (bytes F13).toArray 5)
          have ho12 := ho1.alloc (.cells (bytes F13).toArray 5)
          have ho22 := ho2.alloc (.cells (bytes F13).toArray 5)
          rw [← hcs]
          have hA1 : ∀ g, (Value.slice A1 u.length c1).ownBlock = some g → g < w1.heap.size := fun g hg => (ho1.lt g hg).2
          have hA2 : ∀ g, (Value.slice A2 m.n c2).ownBlock = some g → g < w1.heap.size := fun g hg => (ho2.lt g hg).2
          obtain ⟨q, hq⟩ : ∃ q, q = w1.heap.size := ⟨_, rfl⟩
          rw [← hq] at hO hA1 hA2 ⊢
          have hqw : w.heap.size ≤ q := by rw [hq]; exact hw1.size
          generalize w1.alloc (.cells (bytes F13).toArray 5) = w2 at *
          have HF := Lib.hid hF
          have HFL2 := Lib.hid hFl
          clear hF hcs hq ho1 ho2 hw1 B1 b0 b1 b3 hFl
          have b0 : w2.cell? ⟨w.heap.size, 0, none⟩ = some (.int .i64 Wn) := by rw [hB2.cell, ← HWN.out]; rfl
          have b1 : w2.cell? ⟨w.heap.size, 1, none⟩ = some (.int .i64 Hn) := by rw [hB2.cell, ← HHN.out]; rfl
          have hz2' := hw2.size
          have hpl1 : (pair Wn).length = 2 := rfl
          have hpl2 : (pair Hn).length = 2 := rfl
          have hT9 : ((⟨(pair Wn).toArray⟩ : ByteArray) ++ ⟨(pair Hn).toArray⟩).size = 4 := rfl
          obtain ⟨F17, hF17⟩ : ∃ F17, F17 = F13 ++ (pair Wn ++ pair Hn) := ⟨_, rfl⟩
          have hF17e : bytes F13 ++ byteCells ((⟨(pair Wn).toArray⟩ : ByteArray) ++ ⟨(pair Hn).toArray⟩) = bytes F17 := by rw [hF17, bytes_append]; rfl
          have HF17 := Lib.hid hF17
          clear hF17
          go_cut [12] (fun v wx => ∃ A7 c7, v = .slice A7 17 c7 ∧ Own wx w.heap.size 1 (.slice A7 17 c7) 17 (bytes F17) ∧ Own wx w.heap.size 4 (.slice A1 u.length c1) u.length (pxCells u) ∧ Own wx w.heap.size 1 (.slice A2 m.n c2) m.n (bytes (Gif.nums ns)) ∧
            (∀ g, (Value.slice A7 17 c7).ownBlock = some g → (Value.slice A1 u.length c1).ownBlock ≠ some g ∧ (Value.slice A2 m.n c2).ownBlock ≠ some g) ∧ Below w.heap.size w wx)
          case first =>
            go_region_law
              (first
                | (go_simp; go_at_call 21; with_reducible refine (two_any Wn (by omega) _).mono ?_; rintro e wA ⟨rfl, hbA⟩; have hbI := Below.fromDrew hbA; have hOA := hO.below hbI (Nat.le_refl _); have cA1 := bkeep hbI b1; have hzA : w2.heap.size ≤ wA.heap.size := hbI.size)
                | (go_simp; go_at_call 21; with_reducible refine (two_any Hn (by omega) _).mono ?_; rintro e wB ⟨rfl, hbB⟩; have hOB := hOA.below hbB (Nat.le_refl _); have hzB : wA.heap.size ≤ wB.heap.size := hbB.size)
                | (refine step_append_Own _ rfl (.tmp 52) (.tmp 61) 56 9 rfl w.heap.size 5 i0 (.int .u8 0) 1 1 Tryd.underlying56 hi hz0 hz1 hz2 rfl (by decide) (.slice (some ⟨q, 0, none⟩) 13 13) 13 (bytes F13) rfl hOB (bytes_one _) _ _ (Src.ofString _ Tryd.underlying9 _) (by unfold maxLen; omega) (by omega) (by omega) ?_; intro v7 w7 ho7 hg7 ha7; obtain ⟨A7, c7, rfl, hc7, _⟩ := ho7.form))
            all_goals
              go_wp2_with fail
              go_meet
              case rel =>
                have hbAB := hbI.trans (hbB.mono hzA)
                have na : ∀ g, (Value.slice A1 u.length c1).ownBlock = some g → g ≠ q := fun g hg e => by have := hA1 g hg; omega
                have na2 : ∀ g, (Value.slice A2 m.n c2).ownBlock = some g → g ≠ q := fun g hg e => by have := hA2 g hg; omega
                rw [hT9, hF17e] at ho7
                have k1 := ((ho12.below hbAB (Nat.le_refl _)).mono (base' := w.heap.size) (by simp)).kept hg7 (by
                  cases e : (Value.slice A1 u.length c1).ownBlock with
                  | none => exact .inl rfl
                  | some g => exact .inr fun e2 => na g e (by injection e2))
                have k2 := ((ho22.below hbAB (Nat.le_refl _)).mono (base' := w.heap.size) (by simp)).kept hg7 (by
                  cases e : (Value.slice A2 m.n c2).ownBlock with
                  | none => exact .inl rfl
                  | some g => exact .inr fun e2 => na2 g e (by injection e2))
                refine ⟨A7, c7, rfl, ho7, k1, k2, fun g hg => ?_, (hw2.trans (hbAB.mono hz2')).grown hg7 (Nat.le_trans hz2' hbAB.size) (fun g hg => by injection hg with hg; rw [← hg]; exact hqw)⟩
                rcases ha7 with e | e
                · have hg2 : g = q := by
                    have h9 := e.symm.trans hg
                    injection h9 with h9
                    exact h9.symm
                  exact ⟨fun h => na g h hg2, fun h => na2 g h hg2⟩
                · have hg2 : g = wB.heap.size := by
                    have h9 := e.symm.trans hg
                    injection h9 with h9
                    exact h9.symm
                  have hqB : q < wB.heap.size := by have := (hOB.lt q rfl).2; omega
                  exact ⟨fun h => by have := hA1 g h; omega, fun h => by have := hA2 g h; omega⟩
          case rest =>
            clear hO hB2 ho12 ho22 b0 b1 hA1 hA2 hpl1 hpl2 hT9 hF17e hw2 hz2'
            obtain ⟨A7, c7, rfl, ho7, ho1, ho2, hap, hw7⟩ := hcut
            have hz7 := hw7.size
            obtain ⟨F18, hF18⟩ : ∃ F18, F18 = F17 ++ [UInt8.ofNat (128 + z)] := ⟨_, rfl⟩
            have hF18e : bytes F17 ++ [.int .u8 (128 + (z : Int))] = bytes F18 := by
              rw [hF18, bytes_append]
              congr 1
              simp [bytes]
              omega
            have hF18l : F18.length = 18 := by
              rw [hF18, HF17.out]
              simp [HFL2.out, pair]
            have HF18 := Lib.hid hF18
            have HF18l := Lib.hid hF18l
            clear hF18 hF18l
            go_wp2_with (at_builtin; refine wpList_append_S rfl (.tmp 63) (.tmp 67) 56 56 rfl w.heap.size 5 i0 (.int .u8 0) 1 1 Tryd.underlying56 hi hz0 hz1 hz2 rfl (by decide) (.slice A7 17 c7) 17 (bytes F17) rfl (ho7.alloc _) (bytes_one _) 1 [.int .u8 (128 + (z : Int))] (Src.made Tryd.underlying56 (by first | rfl | simp) rfl (by intro v hv; cases List.mem_singleton.1 hv; rfl)) 18 rfl (bytes F18) hF18e (by unfold maxLen; omega) (by omega) (by first | omega | (simp; done) | (simp; omega)) ?_; intro A8 c8 w8 ho8 hg8 ha8)
            have hT0 : FtR w u A1 c1 A2 m.n c2 (bytes (Gif.nums ns)) F18 0 (.slice A8 18 c8) w8 := by
              refine ⟨by show Own _ _ _ _ (F18.length + 3 * 0) _; rw [HF18l.out]; simpa [Gif.table] using ho8, Own.kept2 (ho1.alloc _) hg8 (fun g hg => (hap g hg).1), Own.kept2 (ho2.alloc _) hg8 (fun g hg => (hap g hg).2), fun g hg => ?_, (hw7.alloc hz7 _).grown hg8 (by simp; omega) (fun g hg => (ho7.lt g hg).1)⟩
              rcases ha8 with e | e
              · rw [e] at hg
                exact hap g hg
              · rw [e] at hg
                injection hg with hg
                simp at hg
                exact ⟨fun h => by have := (ho1.lt g h).2; omega, fun h => by have := (ho2.lt g h).2; omega⟩
            have HT0 := Lib.hid hT0
            clear hT0 ho7 ho1 ho2 hap hw7 hg8 ha8 ho8 hF18e
            go_loopw [12, 71] (fun v i wr => ∃ k : Nat, i = .int .i64 k ∧ k ≤ Y ∧ FtR w u A1 c1 A2 m.n c2 (bytes (Gif.nums ns)) F18 k v wr) (fun _ i _ => Y - (intOf i).toNat)
            case atStart => exact ⟨0, rfl, Nat.zero_le _, HT0.out⟩
            case round =>
              obtain ⟨k, rfl, hk, hF⟩ := hrel
              obtain ⟨hb, hc1, hc2, hap, hbel⟩ := hF
              have hzb := hbel.size
              obtain ⟨Ab, cb, rfl, hcb, _⟩ := hb.form
              have hbl : ∀ g, (Value.slice Ab (F18.length + 3 * k) cb).ownBlock = some g → w.heap.size ≤ g ∧ g < wr.heap.size := fun g hg => hb.lt g hg
              have hF18n : F18.length ≤ 18 := by rw [HF18l.out]; exact Nat.le_refl _
              by_cases hky : k < Y
              · by_cases hku : k < u.length
                · obtain ⟨ga, oa, rfl, _, _⟩ := hc1.addr (by omega)
                  obtain ⟨p0, p1, p2, p3⟩ := (hc1.reads.2).px k hku
                  obtain ⟨x, hx⟩ : ∃ x, x = u[k] := ⟨_, rfl⟩
                  rw [← hx] at p0 p1 p2 p3
                  have HNB : bytes (F18 ++ Gif.table u k) ++ [.int .u8 x.r.toNat, .int .u8 x.g.toNat, .int .u8 x.b.toNat] = bytes (F18 ++ Gif.table u (k + 1)) := by
                    have e : u.getD k Px.zero = x := by rw [hx, List.getD_eq_getElem?_getD, List.getElem?_eq_getElem hku]; rfl
                    rw [Gif.table_succ, e, ← List.append_assoc, bytes_append (F18 ++ Gif.table u k)]
                    rfl
                  clear hx
                  go_wp2_with (at_builtin; refine wpList_append_S rfl (.tmp 83) (.tmp 90) 56 56 rfl w.heap.size 5 i0 (.int .u8 0) 1 1 Tryd.underlying56 hi hz0 hz1 hz2 rfl (by decide) (.slice Ab (F18.length + 3 * k) cb) (F18.length + 3 * k) (bytes (F18 ++ Gif.table u k)) rfl ((hb.alloc _).alloc _) (bytes_one _) 3 [.int .u8 x.r.toNat, .int .u8 x.g.toNat, .int .u8 x.b.toNat] (Src.made Tryd.underlying56 (by first | rfl | simp) rfl (by intro v hv; simp only [List.mem_cons, List.not_mem_nil, or_false] at hv; rcases hv with rfl | rfl | rfl <;> rfl)) (F18.length + 3 * (k + 1)) (by omega) (bytes (F18 ++ Gif.table u (k + 1))) HNB (by unfold maxLen; omega) (by omega) (by first | omega | (simp; done) | (simp; omega)) ?_; intro A9 c9 w9 ho9 hg9 ha9)
                  go_roundw
                  case rel =>
                    refine ⟨k + 1, by go_num, by omega, ⟨ho9, Own.kept2 ((hc1.alloc _).alloc _) hg9 (fun g hg => (hap g hg).1), Own.kept2 ((hc2.alloc _).alloc _) hg9 (fun g hg => (hap g hg).2), fun g hg => ?_, ((hbel.alloc hzb _).alloc (by simp; omega) _).grown hg9 (by simp; omega) (fun g hg => (hbl g hg).1)⟩⟩
                    rcases ha9 with e | e
                    · rw [e] at hg
                      exact hap g hg
                    · rw [e] at hg
                      injection hg with hg
                      simp at hg
                      exact ⟨fun h => by have := (hc1.lt g h).2; omega, fun h => by have := (hc2.lt g h).2; omega⟩
                  case measure => simp [intOf]; omega
                · have HNB : bytes (F18 ++ Gif.table u k) ++ [.int .u8 0, .int .u8 0, .int .u8 0] = bytes (F18 ++ Gif.table u (k + 1)) := by
                    have e : u.getD k Px.zero = Px.zero := by rw [List.getD_eq_getElem?_getD, List.getElem?_eq_none (by omega)]; rfl
                    rw [Gif.table_succ, e, ← List.append_assoc, bytes_append (F18 ++ Gif.table u k)]
                    rfl
                  go_wp2_with (at_builtin; refine wpList_append_S rfl (.tmp 83) (.tmp 90) 56 56 rfl w.heap.size 5 i0 (.int .u8 0) 1 1 Tryd.underlying56 hi hz0 hz1 hz2 rfl (by decide) (.slice Ab (F18.length + 3 * k) cb) (F18.length + 3 * k) (bytes (F18 ++ Gif.table u k)) rfl ((hb.alloc _).alloc _) (bytes_one _) 3 [.int .u8 0, .int .u8 0, .int .u8 0] (Src.made Tryd.underlying56 (by first | rfl | simp) rfl (by intro v hv; simp only [List.mem_cons, List.not_mem_nil, or_false] at hv; rcases hv with rfl | rfl | rfl <;> rfl)) (F18.length + 3 * (k + 1)) (by omega) (bytes (F18 ++ Gif.table u (k + 1))) HNB (by unfold maxLen; omega) (by omega) (by first | omega | (simp; done) | (simp; omega)) ?_; intro A9 c9 w9 ho9 hg9 ha9)
                  go_roundw
                  case rel =>
                    refine ⟨k + 1, by go_num, by omega, ⟨ho9, Own.kept2 ((hc1.alloc _).alloc _) hg9 (fun g hg => (hap g hg).1), Own.kept2 ((hc2.alloc _).alloc _) hg9 (fun g hg => (hap g hg).2), fun g hg => ?_, ((hbel.alloc hzb _).alloc (by simp; omega) _).grown hg9 (by simp; omega) (fun g hg => (hbl g hg).1)⟩⟩
                    rcases ha9 with e | e
                    · rw [e] at hg
                      exact hap g hg
                    · rw [e] at hg
                      injection hg with hg
                      simp at hg
                      exact ⟨fun h => by have := (hc1.lt g h).2; omega, fun h => by have := (hc2.lt g h).2; omega⟩
                  case measure => simp [intOf]; omega
              · have ek : k = Y := by omega
                subst ek
                have hcv := conv_reads wr A2 m.n c2 _ _ hc2.reads.2
                have hszl : (⟨(Gif.nums ns).toArray⟩ : ByteArray).size ≤ 65536 := by rw [← lst_length]; show (Gif.nums ns).length ≤ _; rw [HNN.out]; exact hn
                obtain ⟨sL, hsL⟩ : ∃ sL : ByteArray, sL = ⟨(Gif.nums ns).toArray⟩ := ⟨_, rfl⟩
                rw [← hsL] at hcv hszl
                have HSL := Lib.hid hsL
                clear hsL
                go_wp2_with fail
                refine (pack_any sL wd _ hwd3 hwd2 (fun b hb => ?_) (by omega)).mono ?_
                · rw [HSL.out] at hb
                  have h1 := HNL.out b hb hul
                  have h3 : (2 : Nat) ^ (z + 1) ≤ 2 ^ wd := Nat.pow_le_pow_right (by omega) hwd4
                  omega
                rintro e wP ⟨tP, rfl, htP, hbP⟩
                have hlz : (Lz.lzw wd (lst sL)).length ≤ 24 * 65536 + 30 := by
                  unfold Lz.lzw
                  rw [List.length_append, Bit.low_length]
                  have h1 := Lz.enc_most wd (lst sL).length (lst sL) [] (wd + 1) (Nat.le_refl _) (by omega) (by omega)
                  rw [lst_length] at h1 ⊢
                  omega
                have htPl : tP.size ≤ 300000 := by
                  rw [← lst_length, htP, Bit.pack_length]
                  omega
                have HTP := Lib.hid htP
                have hbP1 := hb.below hbP (Nat.le_refl _)
                have hwP := hbel.trans (hbP.mono hzb)
                have hzP := hwP.size
                obtain ⟨F9, hF9⟩ : ∃ F9, F9 = F18 ++ Gif.table u k ++ [UInt8.ofNat wd] := ⟨_, rfl⟩
                have HF9e : bytes (F18 ++ Gif.table u k) ++ [.int .u8 (IntKind.u8.wrap wd)] = bytes F9 := by
                  rw [hF9, bytes_append _ [UInt8.ofNat wd], IntKind.wrap_u8]
                  congr 1
                have hF9l : F9.length = F18.length + 3 * k + 1 := by rw [hF9, List.length_append, List.length_append, Gif.table_length]; rfl
                have HF9 := Lib.hid hF9
                have HF9l := Lib.hid hF9l
                clear hF9 hF9l htP hlz hcv
                go_wp2_with fail
                go_region_law
                  (first
                    | (refine step_append_Own _ rfl (.tmp 100) (.tmp 103) 56 56 rfl w.heap.size 5 i0 (.int .u8 0) 1 1 Tryd.underlying56 hi hz0 hz1 hz2 rfl (by decide) (.slice Ab (F18.length + 3 * k) cb) (F18.length + 3 * k) (bytes (F18 ++ Gif.table u k)) rfl ((hbP1.alloc _).drew) (bytes_one _) 1 [.int .u8 (IntKind.u8.wrap wd)] (Src.blk Tryd.underlying56 ((Blk.new _ _ _ rfl).drew) rfl (by intro v hv; cases List.mem_singleton.1 hv; rfl)) (by unfold maxLen; omega) (by omega) (by simp; omega) ?_; intro v9 w9 ho9 hg9 ha9; obtain ⟨A9, c9, rfl, hc9, _⟩ := ho9.form; rw [HF9e] at ho9; have hcv9 := conv_reads w9 A9 (F18.length + 3 * k + 1) c9 _ _ ho9.reads.2)
                    | (go_simp; go_at_call 42; with_reducible refine (blocks_any tP (by omega) _).mono ?_; rintro e wB ⟨tB, rfl, htB, hbB⟩; have hoB := ho9.below hbB (Nat.le_refl _); have hcvB := conv_reads wB A9 (F18.length + 3 * k + 1) c9 _ _ hoB.reads.2; have hzB := hbB.size; have htBl : tB.size ≤ 600001 := (by rw [← lst_length, htB]; have h1 := Blo.blocksF_length (lst tP).length (lst tP) (Nat.le_refl _); rw [lst_length] at h1; exact Nat.le_trans h1 (by omega)); have hsum : ¬ 9223372036854775807 < F9.length + tB.size := (by have := HF9l.out; omega); have HTB := Lib.hid htB; clear htB))
                all_goals
                  go_wp2
                  go_ret2
                  refine ⟨_, rfl, ?_, (((hwP.alloc hzP _).drew).grown hg9 (by simp; omega) (fun g hg => (hbP1.lt g hg).1)).trans (hbB.mono (by have := hg9.size; simp at this; omega))⟩
                  rw [lst_append, HTB.out, HTP.out, HSL.out, HFR.out]
                  have e1 : Gif.size u.length = z := HS.out.symm
                  have e2 : Gif.width z = wd := HWD.out.symm
                  rw [e1, e2, ← HY.out]
                  have hfront : F18 = Gif.front m.f u := by
                    rw [HF18.out, HF17.out, HF.out]
                    unfold Gif.front
                    have d1 : m.f.delay.toNat = D := by rw [HD.out]; rfl
                    have d2 : m.f.wide.toNat = Wn := by rw [HWN.out]; rfl
                    have d3 : m.f.high.toNat = Hn := by rw [HHN.out]; rfl
                    rw [d1, d2, d3, e1, HFL.out, HNU.out, HCR.out]
                    simp
                  rw [← hfront]
                  show F9 ++ Blo.blocks (Bit.pack (Lz.lzw wd (Gif.nums ns))) = _
                  rw [HF9.out]
end Go.Proofs.YtncedhhgclofbaaDoor
