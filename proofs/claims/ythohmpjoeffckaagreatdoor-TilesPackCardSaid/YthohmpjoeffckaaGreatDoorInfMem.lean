/- inflate.reader in memory; must, get, next, tree: the walks; what is thrown. -/
import Derived.Test.YthohmpjoeffckaaGreatDoorRdBytes
import Derived.Test.YthohmpjoeffckaaGreatDoorHufCodes
import Derived.Deep.RegionWith
import Derived.Deep.RegionLaw
namespace Go.Proofs.YthohmpjoeffckaaGreatDoor
open Go Go.RowKit

theorem bodyPost_pan {P : Program} {fn : Func} {R : Ending → World → Prop} {ch : List PanicEntry} {a : Act} {w : World} (hd : a.defers = []) (h : R (.panicked ch) w) : bodyPost P fn R (.panic ch) a w := ⟨hd, h⟩
/-- What is thrown: an error. -/
def thrownI (E : Nat → Addr) (k : Nat) : List PanicEntry := [{ v := .iface 137 (.agg #[errV (E k)]), recovered := false }]
/-- What a reading leaves. -/
def ReadI (w : World) (gb : Nat) (s : ByteArray) (E : Nat → Addr) (R : Option (Nat × List Bool)) (e : Ending) (w' : World) : Prop :=
  Keeps (fun x => x = gb) w w' ∧ match R with
  | none => e = .panicked (thrownI E 0)
  | some q => e = .returned (.int .i64 q.1) ∧ RdB w' gb s q.2
theorem Er4.below2 {w w' : World} {E : Nat → Addr} {B : Nat} (h : Er4 w E) (hb : Below B w w') (hB : 15 ≤ B) : Er4 w' E :=
  ⟨bcell_ hb (show _ < B by simp only; omega) h.text, bcell_ hb (show _ < B by simp only; omega) h.bound, bcell_ hb (show _ < B by simp only; omega) h.shape, bcell_ hb (show _ < B by simp only; omega) h.colors⟩
theorem RdB.drew {w : World} {g : Nat} {s : ByteArray} {bs : List Bool} (h : RdB w g s bs) : RdB w.drew g s bs := ⟨h.ex⟩
section
variable (g gb : Nat) (s : ByteArray) (E : Nat → Addr) (w : World)
theorem must_yes (ev : Value) : Calls Tryz.prog 113 #[.pointer (some ⟨g, 0, none⟩), .bool true, ev] w fun e w' => e = .returned (.tuple #[]) ∧ w' = w := by
  go_enter Tryz.func113, Tryz.ntmps113
  go_wp2_with fail
  go_end0
  exact ⟨rfl, rfl⟩
theorem must_no (k : Nat) : Calls Tryz.prog 113 #[.pointer (some ⟨g, 0, none⟩), .bool false, errV (E k)] w fun e w' => e = .panicked (thrownI E k) ∧ w' = w := by
  go_enter Tryz.func113, Tryz.ntmps113
  unfold errV
  go_wp2_with fail
  exact ⟨rfl, rfl, rfl⟩
theorem iget_any (k : Nat) (bs : List Bool) (c1 c2 : Value) (hE : Er4 w E) (hb : Blk w g 142 #[.pointer (some ⟨gb, 0, none⟩), c1, c2]) (hR : RdB w gb s bs) (hG : 15 ≤ gb) (hs : s.size ≤ 1099511627776) (hk : k ≤ 32) :
    Calls Tryz.prog 95 #[.pointer (some ⟨g, 0, none⟩), .int .i64 k] w fun e w' => ReadI w gb s E (Inf.get k bs) e w' := by
  have d0 : w.cell? ⟨g, 0, none⟩ = some (.pointer (some ⟨gb, 0, none⟩)) := by rw [hb.cell]; rfl
  obtain ⟨R, hRe⟩ : ∃ R, R = Inf.get k bs := ⟨_, rfl⟩
  rw [← hRe]
  unfold Inf.get at hRe
  have dE := hE.text
  go_enter Tryz.func95, Tryz.ntmps95
  go_wp2_with fail
  by_cases hl : bs.length < k
  · rw [if_pos hl] at hRe
    subst hRe
    refine (rget_no gb k s bs E w hE hR hs hk hl).mono ?_
    rintro e w1 ⟨rfl, q, rfl⟩
    have hve : errV (E 0) = .iface 230 (.pointer (some (E 0))) := rfl
    rw [hve]
    have dE : (w.drewN q).cell? ⟨2, 0, none⟩ = some (.iface 230 (.pointer (some (E 0)))) := dE
    go_wp2_with fail
    refine wp_region_held_drew (S := (fun w' => w'.cell? ⟨2, 0, none⟩ = some (.iface 230 (.pointer (some (E 0)))))) (by kernel_rfl) ?_ (fun hHeld => ?_)
    · exact dE
    refine opT 0 rfl ?_; refine opT 1 rfl ?_; refine opT 2 rfl ?_; refine opT 3 rfl ?_
    refine opD 4 rfl (fun K hK => ?_)
    go_simp
    (go_at_call 113; refine (must_no g E _ 0).mono ?_; rintro e w2 ⟨rfl, rfl⟩; exact bodyPost_pan rfl ⟨(Keeps.refl _ _).drewN _, rfl⟩)
  · rw [if_neg hl] at hRe
    subst hRe
    refine (rget_yes gb k s bs w hR hs hk (by omega)).mono ?_
    rintro e w1 ⟨rfl, hR1, hk1⟩
    have dE : w1.cell? ⟨2, 0, none⟩ = some (.iface 230 (.pointer (some (E 0)))) := (hE.keeps hk1 hG (by obtain ⟨p, h1, _⟩ := hR.ex; exact h1.lt)).text
    obtain ⟨x, hx⟩ : ∃ x, x = Bit.val (bs.take k) := ⟨_, rfl⟩
    have hxl : x < 4294967296 := by
      rw [hx]
      have h1 := Bit.val_lt (bs.take k)
      rw [List.length_take, Nat.min_eq_left (by omega)] at h1
      exact Nat.lt_of_lt_of_le h1 (Nat.pow_le_pow_right (by omega) hk)
    rw [← hx]
    have HX := Lib.hid hx
    clear hx
    have hxw : IntKind.i64.wrap (x : Int) = x := IntWalk.i64_in _ (by omega)
    go_wp2_with fail
    go_region_with ((go_at_call 113; refine (must_yes g _ _).mono ?_; rintro e w2 ⟨rfl, rfl⟩))
    go_wp2_with fail
    go_ret
    refine ⟨hk1.drew, ?_, hR1.drew⟩
    rw [HX.out]
    rfl
theorem inext_any (gt B : Nat) (l : List Nat) (v : Value) (bs : List Bool) (c1 c2 : Value) (hE : Er4 w E) (hb : Blk w g 142 #[.pointer (some ⟨gb, 0, none⟩), c1, c2]) (hT : TreeAt w B gt l (Huf.syms l) v) (hR : RdB w gb s bs) (hG : 15 ≤ gb) (hgt : gb ≠ gt) (hvg : v.ownBlock ≠ some gb) (hs : s.size ≤ 1099511627776) (hk : Huf.K l 15 ≤ 2 ^ 15) (hm : l.length ≤ 300) :
    Calls Tryz.prog 102 #[.pointer (some ⟨g, 0, none⟩), .pointer (some ⟨gt, 0, none⟩)] w fun e w' => ReadI w gb s E (Huf.next l 15 0 0 bs) e w' := by
  have d0 : w.cell? ⟨g, 0, none⟩ = some (.pointer (some ⟨gb, 0, none⟩)) := by rw [hb.cell]; rfl
  obtain ⟨R, hRe⟩ : ∃ R, R = Huf.next l 15 0 0 bs := ⟨_, rfl⟩
  have hN := next_any B gb gt l v s bs E w hE hT hR hG hgt hvg hs hk hm
  rw [← hRe] at hN ⊢
  clear hRe
  have hgl : gb < w.heap.size := by obtain ⟨p, h1, _⟩ := hR.ex; exact h1.lt
  go_enter Tryz.func102, Tryz.ntmps102
  go_wp2_with fail
  refine hN.mono ?_
  rintro e w1 ⟨hk1, he⟩
  have dE : w1.cell? ⟨2, 0, none⟩ = some (.iface 230 (.pointer (some (E 0)))) := (hE.keeps hk1 hG hgl).text
  cases R with
  | none =>
    replace he : e = .returned (.tuple #[.int .i64 0, errV (E 0)]) := he
    subst he
    unfold errV
    go_wp2_with fail
    refine wp_region_held_drew (S := (fun w' => w'.cell? ⟨2, 0, none⟩ = some (.iface 230 (.pointer (some (E 0)))))) (by kernel_rfl) ?_ (fun hHeld => ?_)
    · exact dE
    refine opT 0 rfl ?_; refine opT 1 rfl ?_; refine opT 2 rfl ?_; refine opT 3 rfl ?_
    refine opD 4 rfl (fun K hK => ?_)
    go_simp
    (go_at_call 113; refine (must_no g E _ 0).mono ?_; rintro e w2 ⟨rfl, rfl⟩; exact bodyPost_pan rfl ⟨hk1.drew, rfl⟩)
  | some r =>
    obtain ⟨x, b1⟩ := r
    replace he : e = .returned (.tuple #[.int .i64 x, .nilIface]) ∧ RdB w1 gb s b1 := he
    obtain ⟨rfl, hR1⟩ := he
    go_wp2_with fail
    go_region_with ((go_at_call 113; refine (must_yes g _ _).mono ?_; rintro e w2 ⟨rfl, rfl⟩))
    go_wp2_with fail
    go_ret
    exact ⟨hk1.drew, rfl, hR1.drew⟩
theorem itree_good (B n c : Nat) (A : Option Addr) (l : List Nat) (hE : Er4 w E) (hr : Reads w B 1 A n (nats l)) (hB : B ≤ w.heap.size) (hg : Huf.Good l) (hm : l.length ≤ 300) :
    Calls Tryz.prog 98 #[.pointer (some ⟨g, 0, none⟩), .slice A n c] w fun e w' => ∃ gt v, e = .returned (.pointer (some ⟨gt, 0, none⟩)) ∧ TreeAt w' w.heap.size gt l (Huf.syms l) v ∧ Below w.heap.size w w' := by
  go_enter Tryz.func98, Tryz.ntmps98
  go_wp2_with fail
  refine (hread_good B n c A l E w hE hr hB hg hm).mono ?_
  rintro e w1 ⟨gt, v, rfl, hT, hb1⟩
  have dE := (hE.below hb1).text
  go_wp2_with fail
  go_region_with ((go_at_call 113; refine (must_yes g _ _).mono ?_; rintro e w2 ⟨rfl, rfl⟩))
  go_wp2_with fail
  go_ret
  exact ⟨gt, v, rfl, ⟨hT.blk, hT.own, hT.ne, hT.bg⟩, hb1.drew⟩
theorem itree_bad (B n c : Nat) (A : Option Addr) (l : List Nat) (hE : Er4 w E) (hr : Reads w B 1 A n (nats l)) (hB : B ≤ w.heap.size) (h15 : ∀ x ∈ l, x ≤ 15) (hg : ¬ Huf.Good l) (hm : l.length ≤ 300) :
    Calls Tryz.prog 98 #[.pointer (some ⟨g, 0, none⟩), .slice A n c] w fun e w' => e = .panicked (thrownI E 0) ∧ Below w.heap.size w w' := by
  go_enter Tryz.func98, Tryz.ntmps98
  go_wp2_with fail
  refine (hread_bad B n c A l E w hE hr hB h15 hg hm).mono ?_
  rintro e w1 ⟨rfl, hb1⟩
  have dE := (hE.below hb1).text
  unfold errV
  go_wp2_with fail
  refine wp_region_held_drew (S := (fun w' => w'.cell? ⟨2, 0, none⟩ = some (.iface 230 (.pointer (some (E 0)))))) (by kernel_rfl) ?_ (fun hHeld => ?_)
  · exact dE
  refine opT 0 rfl ?_; refine opT 1 rfl ?_; refine opT 2 rfl ?_; refine opT 3 rfl ?_
  refine opD 4 rfl (fun K hK => ?_)
  go_simp
  (go_at_call 113; refine (must_no g E _ 0).mono ?_; rintro e w2 ⟨rfl, rfl⟩; exact bodyPost_pan rfl ⟨rfl, hb1.drew⟩)
end
end Go.Proofs.YthohmpjoeffckaaGreatDoor
