/- Own text of this claim: an abstract machine over the given program form, and what follows from it. No condition. -/
import Derived.Test.YtekijepgmmemiaaGreatEvA
set_option linter.unusedVariables false
set_option linter.unusedSimpArgs false
set_option maxHeartbeats 1000000
namespace Go.EV

/-- a block that was made before becomes one of the machine's -/
theorem HRel.late {ρ : Rho} {h : AH} {w : World} (H : HRel ρ h w) {b : Nat} (hb : ρ b = none) (hlt : b < h.next) {o : Obj} {tot : Nat}
    (hblk : ∀ x, h.bs.get b = some x → blkR (ρ.put b ⟨w.heap.size, 0, tot, 0⟩) (some o) ⟨w.heap.size, 0, tot, 0⟩ x) :
    HRel (ρ.put b ⟨w.heap.size, 0, tot, 0⟩) h (w.alloc o) := by
  have hx := Rho.put_ext (ρ := ρ) (b := b) (cb := ⟨w.heap.size, 0, tot, 0⟩) hb
  refine ⟨?_, ?_, ?_, H.live, ?_, H.ro, H.low, ?_, ?_⟩
  · intro x o2 hg cx hcx
    by_cases e : x = b
    · subst e
      rw [Rho.put_same] at hcx; cases hcx
      rw [World.alloc_get_new]
      exact hblk _ hg
    · rw [Rho.put_other e] at hcx
      rw [World.alloc_get_old (H.bound x cx hcx)]
      exact (H.blk x o2 hg cx hcx).ext hx
  · intro x y cx cy g8 g g' hcx hcy hh
    by_cases e : x = b
    · by_cases e' : y = b
      · rw [e, e']
      · subst e
        rw [Rho.put_same] at hcx; cases hcx
        rw [Rho.put_other e'] at hcy
        have := H.bound y cy hcy
        simp at hh; omega
    · by_cases e' : y = b
      · subst e'
        rw [Rho.put_same] at hcy; cases hcy
        rw [Rho.put_other e] at hcx
        have := H.bound x cx hcx
        simp at hh; omega
      · rw [Rho.put_other e] at hcx; rw [Rho.put_other e'] at hcy
        exact H.inj x y cx cy g8 g g' hcx hcy hh
  · intro x hxn
    rw [Rho.put_other (by omega)]
    exact H.fresh x hxn
  · intro x cx hcx
    rw [World.size_alloc]
    by_cases e : x = b
    · subst e; rw [Rho.put_same] at hcx; cases hcx; simp
    · rw [Rho.put_other e] at hcx
      have := H.bound x cx hcx
      omega
  · intro k arr hk
    obtain ⟨elem, f, h1⟩ := H.frz k arr hk
    exact ⟨elem, f, by rw [World.alloc_get_old (Array.getElem?_eq_some_iff.mp h1).1]; exact h1⟩
  · intro x o2 cx hg g8 hcx
    show ρ.fz cx.blk = none
    by_cases e : x = b
    · subst e
      rw [Rho.put_same] at hcx; cases hcx
      cases hf : ρ.fz w.heap.size with
      | none => rfl
      | some arr =>
        obtain ⟨elem, f, h1⟩ := H.frz _ arr hf
        have := (Array.getElem?_eq_some_iff.mp h1).1
        omega
    · rw [Rho.put_other e] at hcx
      exact H.sep x o2 cx hg g8 hcx

/-! ### what a slot has, if some operations of a region are done -/
def lastW (dst : Nat → Option Tmp) (W : Nat → Bool) (t : Nat) : Nat → Option Nat
  | 0 => none
  | n + 1 => if W n = true ∧ dst n = some t then some n else lastW dst W t n

theorem lastW_congr {dst : Nat → Option Tmp} {W W' : Nat → Bool} {t : Nat} : ∀ {n : Nat}, (∀ j, j < n → dst j = some t → W j = W' j) → lastW dst W t n = lastW dst W' t n
  | 0, _ => rfl
  | n + 1, h => by
    simp only [lastW]
    rw [lastW_congr (n := n) (fun j hj => h j (by omega))]
    by_cases e : dst n = some t
    · rw [h n (by omega) e]
    · simp [e]

theorem lastW_some {dst : Nat → Option Tmp} {W : Nat → Bool} {t i : Nat} : ∀ {n : Nat}, lastW dst W t n = some i → i < n ∧ W i = true ∧ dst i = some t
  | 0, h => by simp [lastW] at h
  | n + 1, h => by
    simp only [lastW] at h
    split at h
    · rename_i hc; simp at h; subst h; exact ⟨by omega, hc.1, hc.2⟩
    · obtain ⟨h1, h2, h3⟩ := lastW_some h; exact ⟨by omega, h2, h3⟩

theorem lastW_is {dst : Nat → Option Tmp} {W : Nat → Bool} {t i : Nat} (hi : W i = true) (hd : dst i = some t) : ∀ {n : Nat}, i < n → (∀ j, i < j → j < n → dst j = some t → W j = false) → lastW dst W t n = some i
  | 0, h, _ => by omega
  | n + 1, h, hj => by
    simp only [lastW]
    by_cases e : i = n
    · subst e; rw [if_pos ⟨hi, hd⟩]
    · rw [if_neg, lastW_is hi hd (n := n) (by omega) (fun j h1 h2 h3 => hj j h1 (by omega) h3)]
      rintro ⟨h1, h2⟩
      rw [hj n (by omega) (by omega) h2] at h1; cases h1

def dstOf (ops : Array Oper) (i : Nat) : Option Tmp := (ops[i]?).bind (·.dst)

def cur (ops : Array Oper) (vals : Nat → AV) (g0 : Nat → Option AV) (W : Nat → Bool) (t : Nat) : Option AV :=
  match lastW (dstOf ops) W t ops.size with
  | some i => some (vals i)
  | none => g0 t

def upd {α : Type} (f : Nat → α) (i : Nat) (v : α) (j : Nat) : α := if j = i then v else f j

theorem cur_congr {ops : Array Oper} {vals : Nat → AV} {g0 : Nat → Option AV} {W W' : Nat → Bool} {t : Nat} (h : ∀ j, j < ops.size → dstOf ops j = some t → W j = W' j) : cur ops vals g0 W t = cur ops vals g0 W' t := by
  unfold cur; rw [lastW_congr h]

/-- a new value of an operation that is not done is nobody's -/
theorem cur_upd {ops : Array Oper} {vals : Nat → AV} {g0 : Nat → Option AV} {W : Nat → Bool} {t i : Nat} {v : AV} (h : W i = false) : cur ops (upd vals i v) g0 W t = cur ops vals g0 W t := by
  unfold cur
  cases hl : lastW (dstOf ops) W t ops.size with
  | none => rfl
  | some j =>
    obtain ⟨_, h2, _⟩ := lastW_some hl
    have : j ≠ i := by rintro rfl; rw [h] at h2; cases h2
    simp [upd, this]

/-- one more is done -/
theorem cur_add {ops : Array Oper} {vals : Nat → AV} {g0 : Nat → Option AV} {W W' : Nat → Bool} {t i : Nat} (hi : i < ops.size) (hW : W i = false) (hW' : ∀ j, W' j = (W j || decide (j = i)))
    (hlater : ∀ d, dstOf ops i = some d → ∀ j, i < j → j < ops.size → dstOf ops j = some d → W j = false) :
    cur ops vals g0 W' t = if dstOf ops i = some t then some (vals i) else cur ops vals g0 W t := by
  by_cases e : dstOf ops i = some t
  · rw [if_pos e]
    unfold cur
    rw [lastW_is (i := i) (by rw [hW']; simp) e hi (fun j h1 h2 h3 => by rw [hW', hlater t e j h1 h2 h3]; simp; omega)]
  · rw [if_neg e]
    refine cur_congr (fun j hj hd => ?_)
    rw [hW']
    have : j ≠ i := by rintro rfl; exact e hd
    simp [this]

theorem hasN_iff {l : List Nat} {x : Nat} : hasN l x = true ↔ x ∈ l := by
  induction l with
  | nil => simp [hasN]
  | cons y r ih => simp only [hasN, Bool.or_eq_true, Tr.beq_true, ih, List.mem_cons]; constructor <;> rintro (h | h) <;> first | exact .inl h.symm | exact .inr h

theorem dst_of {ops : Array Oper} {all : List RI} (I : Info ops all) {i : Nat} {x : RI} (hx : all[i]? = some x) : ops[i]? = some x.o ∧ x.i = i ∧ dstOf ops i = x.o.dst := by
  have hlt : i < ops.size := by rw [← I.len]; exact (List.getElem?_eq_some_iff.mp hx).1
  obtain ⟨y, y1, y2, y3, _⟩ := I.at_ i _ (Array.getElem?_eq_getElem hlt)
  rw [hx] at y1; cases y1
  have ho : ops[i]? = some x.o := by rw [y3]; exact Array.getElem?_eq_getElem hlt
  exact ⟨ho, y2, by simp [dstOf, ho]⟩

theorem info_at {ops : Array Oper} {all : List RI} (I : Info ops all) {i : Nat} (hi : i < ops.size) : ∃ x, all[i]? = some x := by
  obtain ⟨y, y1, _⟩ := I.at_ i _ (Array.getElem?_eq_getElem hi)
  exact ⟨y, y1⟩

/-- a set of operations with all that they must be behind -/
def Closed (ops : Array Oper) (W : Nat → Bool) : Prop := ∀ (i : Nat) (o : Oper), ops[i]? = some o → W i = true → ∀ j ∈ edgesOf o, W j = true

/-- which operations have written a slot that one names: those ahead of it in the text -/
theorem names_before {ops : Array Oper} {all : List RI} (I : Info ops all) {W : Nat → Bool} (hW : Closed ops W) {i : Nat} {x : RI} (hx : all[i]? = some x) (hi : W i = false)
    (he : ∀ j ∈ edgesOf x.o, W j = true) {t : Nat} (ht : hasN x.nm t = true) {j : Nat} (hj : j < ops.size) (hd : dstOf ops j = some t) : W j = decide (j < i) := by
  obtain ⟨y, hy⟩ := info_at I hj
  obtain ⟨hox, hxi, hdx⟩ := dst_of I hx
  obtain ⟨hoy, hyi, hdy⟩ := dst_of I hy
  rw [hd] at hdy
  rcases Nat.lt_trichotomy j i with h1 | h1 | h1
  · have hc : conf y x = true := by
      unfold conf; rw [← hdy]; simp [ht]
    have hm := I.pairs j i y x h1 hy hx hc
    have := I.mask (fun k => W k = true ∨ k = i) (fun k o ho hk l hl => by
      rcases hk with hk | rfl
      · exact .inl (hW k o ho hk l hl)
      · rw [hox] at ho; cases ho; exact .inl (he l hl)) i x hx (.inr rfl) j hm
    rcases this with h2 | h2
    · rw [h2]; simp [h1]
    · omega
  · subst h1; rw [hi]; simp
  · have hc : conf x y = true := by
      unfold conf; rw [← hdy]; simp [ht]
    have hm := I.pairs i j x y h1 hx hy hc
    have : W j = false := by
      cases hwj : W j with
      | false => rfl
      | true =>
        have := I.mask (fun k => W k = true) (fun k o ho hk l hl => hW k o ho hk l hl) j y hy hwj i hm
        rw [hi] at this; cases this
    rw [this]; simp; omega

/-- nobody behind it in the text has written its slot -/
theorem dst_after {ops : Array Oper} {all : List RI} (I : Info ops all) {W : Nat → Bool} (hW : Closed ops W) {i : Nat} (hil : i < ops.size) (hi : W i = false) {d : Nat} (hd : dstOf ops i = some d) {j : Nat} (hij : i < j) (hj : j < ops.size) (hdj : dstOf ops j = some d) : W j = false := by
  obtain ⟨x, hx⟩ := info_at I hil
  obtain ⟨y, hy⟩ := info_at I hj
  obtain ⟨hox, hxi, hdx⟩ := dst_of I hx
  obtain ⟨hoy, hyi, hdy⟩ := dst_of I hy
  rw [hd] at hdx; rw [hdj] at hdy
  have hc : conf x y = true := by
    unfold conf; rw [← hdx, ← hdy]; simp
  have hm := I.pairs i j x y hij hx hy hc
  cases hwj : W j with
  | false => rfl
  | true =>
    have := I.mask (fun k => W k = true) (fun k o ho hk l hl => hW k o ho hk l hl) j y hy hwj i hm
    rw [hi] at this; cases this
end Go.EV
