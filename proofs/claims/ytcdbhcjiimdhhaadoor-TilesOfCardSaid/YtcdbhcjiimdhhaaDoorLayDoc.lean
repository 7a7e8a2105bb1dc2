/- A document of layers: names, what is right, the first fault: plain. -/
import Derived.Test.YtcdbhcjiimdhhaaDoorLayLaw
namespace Go.Proofs.YtcdbhcjiimdhhaaDoor
namespace Lay
def sideP (n : Int) : Bool := decide (1 ≤ n) && decide (n ≤ 256)
def nearP (n : Int) : Bool := decide (-10000 ≤ n) && decide (n ≤ 10000)
def modeP (m : Int) : Bool := decide (0 ≤ m) && decide (m < 6)
def opacP (n : Int) : Bool := decide (0 ≤ n) && decide (n ≤ 255)
def lowB (c : UInt8) : Bool := decide (97 ≤ (c.toNat : Int)) && decide ((c.toNat : Int) ≤ 122)
def isName (s : ByteArray) : Bool := decide (1 ≤ s.size) && decide (s.size ≤ 12) && s.data.toList.all lowB
/-- The number of the first layer of that name, or -1. -/
def find : List Layer → ByteArray → Int
  | [], _ => -1
  | l :: r, s => if l.name = s then 0 else if find r s < 0 then -1 else find r s + 1
def rightL (l : Layer) : Bool := sideP l.wide && sideP l.high && decide ((l.ps.length : Int) = l.wide * l.high)
/-- What is wrong with a layer that stands at a place: 0 nothing. -/
def faultAt (ls : List Layer) (i : Nat) (l : Layer) : Nat :=
  if !isName l.name || decide (find ls l.name < i) then 5
  else if !nearP l.x || !nearP l.y || !opacP l.opacity || !modeP l.mode then 2
  else if !rightL l then 3 else 0
def checkFrom (ls : List Layer) : List Layer → Nat → Nat × Int
  | [], _ => (0, -1)
  | l :: r, i => if faultAt ls i l = 0 then checkFrom ls r (i + 1) else (faultAt ls i l, i)
/-- The first fault of a document: its number, its place. -/
def check (W H : Int) (ls : List Layer) : Nat × Int := if !sideP W || !sideP H || decide (8 < ls.length) then (2, -1) else checkFrom ls ls 0

theorem find_lt : ∀ (ls : List Layer) (s : ByteArray), -1 ≤ find ls s ∧ find ls s < ls.length
  | [], s => by simp [find]
  | l :: r, s => by
    have := find_lt r s
    simp only [find, List.length_cons]
    split
    · omega
    · split <;> omega
/-- No layer below k has the name, the k-th has it. -/
theorem find_of : ∀ (ls : List Layer) (s : ByteArray) (k : Nat) (hk : k < ls.length), (∀ j, (hj : j < k) → ls[j].name ≠ s) → ls[k].name = s → find ls s = k
  | [], s, k, hk, _, _ => by simp at hk
  | l :: r, s, 0, hk, _, h => by simp [find, show l.name = s from h]
  | l :: r, s, k + 1, hk, hn, h => by
    have h0 : l.name ≠ s := hn 0 (by omega)
    have ih := find_of r s k (Nat.lt_of_succ_lt_succ hk) (fun j hj => hn (j + 1) (by omega)) h
    rw [find, if_neg h0, ih]
    rw [if_neg (by omega)]
    omega
theorem find_none : ∀ (ls : List Layer) (s : ByteArray), (∀ j, (hj : j < ls.length) → ls[j].name ≠ s) → find ls s = -1
  | [], s, _ => rfl
  | l :: r, s, h => by
    have h0 : l.name ≠ s := h 0 (by simp)
    have ih := find_none r s fun j hj => h (j + 1) (Nat.succ_lt_succ hj)
    rw [find, if_neg h0, ih]
    rfl
theorem find_at : ∀ (ls : List Layer) (s : ByteArray) (k : Nat), find ls s = k → ∃ hk : k < ls.length, ls[k].name = s ∧ ∀ j, (hj : j < k) → ls[j].name ≠ s
  | [], s, k, h => by simp [find] at h
  | l :: r, s, k, h => by
    rw [find] at h
    split at h
    · rename_i e
      have : k = 0 := by omega
      subst this
      exact ⟨by simp, e, fun j hj => by omega⟩
    · rename_i e
      split at h
      · omega
      · obtain ⟨k', rfl⟩ : ∃ k', k = k' + 1 := ⟨k - 1, by omega⟩
        obtain ⟨hk, h1, h2⟩ := find_at r s k' (by omega)
        refine ⟨Nat.succ_lt_succ hk, h1, fun j hj => ?_⟩
        cases j with
        | zero => exact e
        | succ j => exact h2 j (by omega)
/-- A name that stands at a place is found there or before it. -/
theorem find_le (ls : List Layer) (k : Nat) (hk : k < ls.length) : 0 ≤ find ls ls[k].name ∧ find ls ls[k].name ≤ k := by
  induction ls generalizing k with
  | nil => simp at hk
  | cons l r ih =>
    rw [find]
    split
    · omega
    · rename_i e
      cases k with
      | zero => exact absurd rfl e
      | succ k =>
        obtain ⟨h1, h2⟩ := ih k (by simpa using hk)
        have hk' : k < r.length := Nat.lt_of_succ_lt_succ hk
        have e2 : (l :: r)[k + 1].name = r[k].name := rfl
        rw [e2]
        rw [if_neg (by omega)]
        omega

theorem checkFrom_good (ls : List Layer) : ∀ (r : List Layer) (i : Nat), (∀ j, (hj : j < r.length) → faultAt ls (i + j) r[j] = 0) → checkFrom ls r i = (0, -1)
  | [], i, _ => rfl
  | l :: r, i, h => by
    have h0 : faultAt ls i l = 0 := h 0 (Nat.succ_pos _)
    rw [checkFrom, if_pos h0]
    refine checkFrom_good ls r (i + 1) fun j hj => ?_
    have := h (j + 1) (Nat.succ_lt_succ hj)
    rw [show i + 1 + j = i + (j + 1) by omega]
    exact this
theorem checkFrom_bad (ls : List Layer) : ∀ (r : List Layer) (i k : Nat) (hk : k < r.length), (∀ j, (hj : j < k) → faultAt ls (i + j) r[j] = 0) → faultAt ls (i + k) r[k] ≠ 0 → checkFrom ls r i = (faultAt ls (i + k) r[k], ((i + k : Nat) : Int))
  | [], i, k, hk, _, _ => by simp at hk
  | l :: r, i, 0, hk, _, h => by
    rw [checkFrom, if_neg (show ¬ faultAt ls i l = 0 from h)]
    rfl
  | l :: r, i, k + 1, hk, hj, h => by
    have h0 : faultAt ls i l = 0 := hj 0 (by omega)
    have e : i + (k + 1) = i + 1 + k := by omega
    rw [checkFrom, if_pos h0, checkFrom_bad ls r (i + 1) k (Nat.lt_of_succ_lt_succ hk) (fun j hj' => by
      have := hj (j + 1) (by omega)
      rw [show i + 1 + j = i + (j + 1) by omega]
      exact this) (by rw [← e]; exact h), e]
    rfl
theorem check_good {W H : Int} {ls : List Layer} (hW : sideP W = true) (hH : sideP H = true) (hn : ls.length ≤ 8) (h : ∀ j, (hj : j < ls.length) → faultAt ls j ls[j] = 0) : check W H ls = (0, -1) := by
  rw [check, hW, hH, if_neg (by simpa using hn)]
  exact checkFrom_good ls ls 0 fun j hj => by simpa using h j hj
theorem check_bad {W H : Int} {ls : List Layer} (hW : sideP W = true) (hH : sideP H = true) (hn : ls.length ≤ 8) (k : Nat) (hk : k < ls.length) (h : ∀ j, (hj : j < k) → faultAt ls j ls[j] = 0) (hb : faultAt ls k ls[k] ≠ 0) :
    check W H ls = (faultAt ls k ls[k], (k : Int)) := by
  rw [check, hW, hH, if_neg (by simpa using hn)]
  have := checkFrom_bad ls ls 0 k hk (fun j hj => by simpa using h j hj) (by simpa using hb)
  simpa using this
theorem check_bound {W H : Int} {ls : List Layer} (h : sideP W = false ∨ sideP H = false ∨ 8 < ls.length) : check W H ls = (2, -1) := by
  rw [check, if_pos]
  rcases h with h | h | h <;> simp [h]

/-- A document without a fault. -/
structure Good (W H : Int) (ls : List Layer) : Prop where
  wd : sideP W = true
  hg : sideP H = true
  n : ls.length ≤ 8
  at_ : ∀ j, (hj : j < ls.length) → faultAt ls j ls[j] = 0
theorem checkFrom_zero (ls : List Layer) : ∀ (r : List Layer) (i : Nat), (checkFrom ls r i).1 = 0 → ∀ j, (hj : j < r.length) → faultAt ls (i + j) r[j] = 0
  | [], _, _, j, hj => by simp at hj
  | l :: r, i, h, j, hj => by
    rw [checkFrom] at h
    split at h
    · rename_i h0
      cases j with
      | zero => exact h0
      | succ j =>
        have := checkFrom_zero ls r (i + 1) h j (Nat.lt_of_succ_lt_succ hj)
        rw [show i + (j + 1) = i + 1 + j by omega]
        exact this
    · rename_i h0
      exact absurd h h0
theorem good_of {W H : Int} {ls : List Layer} (h : (check W H ls).1 = 0) : Good W H ls := by
  rw [check] at h
  split at h
  · simp at h
  · rename_i h0
    simp at h0
    obtain ⟨⟨h1, h2⟩, h3⟩ := h0
    exact ⟨h1, h2, by omega, fun j hj => by simpa using checkFrom_zero ls ls 0 h j hj⟩
theorem Good.check {W H : Int} {ls : List Layer} (h : Good W H ls) : Lay.check W H ls = (0, -1) := check_good h.wd h.hg h.n h.at_

theorem fault_zero {ls : List Layer} {i : Nat} {l : Layer} (h : faultAt ls i l = 0) :
    isName l.name = true ∧ (i : Int) ≤ find ls l.name ∧ nearP l.x = true ∧ nearP l.y = true ∧ opacP l.opacity = true ∧ modeP l.mode = true ∧ rightL l = true := by
  unfold faultAt at h
  split at h
  · simp at h
  · rename_i h1
    split at h
    · simp at h
    · rename_i h2
      split at h
      · simp at h
      · rename_i h3
        simp at h1 h2 h3
        exact ⟨h1.1, by omega, h2.1.1.1, h2.1.1.2, h2.1.2, h2.2, h3⟩
theorem fault_mk {ls : List Layer} {i : Nat} {l : Layer} (h1 : isName l.name = true) (h2 : (i : Int) ≤ find ls l.name) (h3 : nearP l.x = true) (h4 : nearP l.y = true) (h5 : opacP l.opacity = true) (h6 : modeP l.mode = true) (h7 : rightL l = true) : faultAt ls i l = 0 := by
  unfold faultAt
  rw [if_neg (by simp [h1]; omega), if_neg (by simp [h3, h4, h5, h6]), if_neg (by simp [h7])]
/-- In a good document every name is found where it stands. -/
theorem Good.find {W H : Int} {ls : List Layer} (h : Good W H ls) (k : Nat) (hk : k < ls.length) : find ls ls[k].name = k := by
  have h1 := (fault_zero (h.at_ k hk)).2.1
  have h2 := find_le ls k hk
  omega
/-- No two names are the same: told by names alone. -/
theorem Good.ne {W H : Int} {ls : List Layer} (h : Good W H ls) (i j : Nat) (hi : i < ls.length) (hj : j < i) : ls[j].name ≠ ls[i].name := by
  intro e
  have h1 := h.find i hi
  have h2 := h.find j (by omega)
  rw [e, h1] at h2
  omega
theorem good_mk {W H : Int} {ls : List Layer} (hW : sideP W = true) (hH : sideP H = true) (hn : ls.length ≤ 8) (hne : ∀ i j, (hi : i < ls.length) → (hj : j < i) → ls[j].name ≠ ls[i].name)
    (h : ∀ l ∈ ls, isName l.name = true ∧ nearP l.x = true ∧ nearP l.y = true ∧ opacP l.opacity = true ∧ modeP l.mode = true ∧ rightL l = true) : Good W H ls := by
  refine ⟨hW, hH, hn, fun k hk => ?_⟩
  obtain ⟨h1, h3, h4, h5, h6, h7⟩ := h _ (List.getElem_mem hk)
  refine fault_mk h1 ?_ h3 h4 h5 h6 h7
  rw [find_of ls _ k hk (fun j hj => hne k j hk hj) rfl]
  omega
theorem Good.all {W H : Int} {ls : List Layer} (h : Good W H ls) : ∀ l ∈ ls, isName l.name = true ∧ nearP l.x = true ∧ nearP l.y = true ∧ opacP l.opacity = true ∧ modeP l.mode = true ∧ rightL l = true := by
  intro l hl
  obtain ⟨k, hk, rfl⟩ := List.getElem_of_mem hl
  obtain ⟨h1, _, h3⟩ := fault_zero (h.at_ k hk)
  exact ⟨h1, h3⟩
/-- Layers that differ in nothing that is asked: a good document stays good. -/
theorem Good.congr {W H : Int} {ls ms : List Layer} (h : Good W H ls) (hl : ms.length = ls.length) (e : ∀ k, (hk : k < ls.length) → (ms[k]'(by omega)).name = ls[k].name ∧
    (isName (ms[k]'(by omega)).name = true ∧ nearP (ms[k]'(by omega)).x = true ∧ nearP (ms[k]'(by omega)).y = true ∧ opacP (ms[k]'(by omega)).opacity = true ∧ modeP (ms[k]'(by omega)).mode = true ∧ rightL (ms[k]'(by omega)) = true)) : Good W H ms := by
  refine good_mk h.wd h.hg (by rw [hl]; exact h.n) (fun i j hi hj => ?_) (fun l hm => ?_)
  · rw [(e i (by omega)).1, (e j (by omega)).1]
    exact h.ne i j (by omega) hj
  · obtain ⟨k, hk, rfl⟩ := List.getElem_of_mem hm
    exact (e k (by omega)).2
theorem Good.erase {W H : Int} {ls : List Layer} (h : Good W H ls) (k : Nat) : Good W H (ls.eraseIdx k) := by
  have hlen : (ls.eraseIdx k).length ≤ ls.length := by rw [List.length_eraseIdx]; split <;> omega
  refine good_mk h.wd h.hg (by have := h.n; omega) (fun i j hi hj => ?_) (fun l hm => h.all l (List.mem_of_mem_eraseIdx hm))
  rw [List.getElem_eraseIdx, List.getElem_eraseIdx]
  have hi' : i < ls.length := by omega
  have hi2 : ¬ i < k → i + 1 < ls.length := by
    intro hik
    rw [List.length_eraseIdx] at hi
    split at hi <;> omega
  split
  · split
    · exact h.ne i j hi' hj
    · exact h.ne (i + 1) j (hi2 (by assumption)) (by omega)
  · split
    · rename_i h1 h2
      omega
    · exact h.ne (i + 1) (j + 1) (hi2 (by assumption)) (by omega)
end Lay
end Go.Proofs.YtcdbhcjiimdhhaaDoor
