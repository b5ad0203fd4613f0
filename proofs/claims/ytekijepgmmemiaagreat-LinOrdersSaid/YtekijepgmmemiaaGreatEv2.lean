/- Own text of this claim: an abstract machine over the given program form, and what follows from it. No condition. -/
import Derived.Test.YtekijepgmmemiaaGreatEv1
import Derived.Calls
import Derived.Laws.World
import Derived.Laws.Cells
import Derived.Laws.CopyRow
import Derived.Orders
set_option linter.unusedVariables false
set_option linter.unusedSimpArgs false
namespace Go.EV
def LogOk (l : Log) : Prop := ∀ e ∈ l, e.1 = e.2

/-! ### trees -/
namespace Tr
variable {α : Type}
theorem beq_true {a b : Nat} : Nat.beq a b = true ↔ a = b := ⟨Nat.eq_of_beq_eq_true, fun h => by subst h; exact Nat.beq_refl a⟩

theorem beq_even (i : Nat) : (Nat.beq (i % 2) 0 = true ∧ i % 2 = 0) ∨ (Nat.beq (i % 2) 0 = false ∧ i % 2 = 1) := by
  rcases Nat.mod_two_eq_zero_or_one i with h | h
  · exact .inl ⟨by rw [h]; rfl, h⟩
  · exact .inr ⟨by rw [h]; rfl, h⟩

theorem get_nil (i : Nat) : (Tr.nil : Tr α).get i = none := rfl
theorem get_zero (v : Option α) (l r : Tr α) : (Tr.node v l r).get 0 = v := rfl
theorem get_succ (v : Option α) (l r : Tr α) (i : Nat) : (Tr.node v l r).get (i + 1) = match Nat.beq (i % 2) 0 with | true => l.get (i / 2) | false => r.get (i / 2) := by
  show Bool.rec (motive := fun _ => Option α) (r.get (i / 2)) (l.get (i / 2)) (Nat.beq (i % 2) 0) = _
  cases Nat.beq (i % 2) 0 <;> rfl
theorem set_nil (v : α) (i : Nat) : set v (Tr.nil : Tr α) i = sing v i i := rfl
theorem set_zero (v : α) (u : Option α) (l r : Tr α) : set v (.node u l r) 0 = .node (some v) l r := rfl
theorem set_succ (v : α) (u : Option α) (l r : Tr α) (i : Nat) : set v (.node u l r) (i + 1) = match Nat.beq (i % 2) 0 with | true => .node u (set v l (i / 2)) r | false => .node u l (set v r (i / 2)) := by
  show Bool.rec (motive := fun _ => Tr α) ((set v r (i / 2)).force fun t => .node u l t) ((set v l (i / 2)).force fun t => .node u t r) (Nat.beq (i % 2) 0) = _
  cases Nat.beq (i % 2) 0 <;> simp only [force_eq]

theorem get_sing (v : α) : ∀ (f i : Nat), i ≤ f → ∀ j, (sing v f i).get j = if j = i then some v else none := by
  intro f
  induction f with
  | zero => intro i hi j; obtain rfl : i = 0 := by omega
            cases j with
            | zero => simp [sing, get_zero]
            | succ j => simp [sing, get_succ, get_nil]; try (split <;> rfl)
  | succ f ih =>
    intro i hi j
    cases i with
    | zero => cases j with
      | zero => simp [sing, get_zero]
      | succ j => simp [sing, get_succ, get_nil]; try (split <;> rfl)
    | succ i =>
      cases j with
      | zero => rcases beq_even i with ⟨h, _⟩ | ⟨h, _⟩ <;> simp [sing, force_eq, get_zero, h]
      | succ j =>
        rcases beq_even i with ⟨h, h'⟩ | ⟨h, h'⟩ <;> rcases beq_even j with ⟨g, g'⟩ | ⟨g, g'⟩ <;> simp only [sing, force_eq, get_succ, get_nil, h, g]
        · rw [ih _ (by omega)]
          by_cases e : j = i
          · subst e; simp
          · rw [if_neg (by omega), if_neg (by omega)]
        · rw [if_neg (by omega)]
        · rw [if_neg (by omega)]
        · rw [ih _ (by omega)]
          by_cases e : j = i
          · subst e; simp
          · rw [if_neg (by omega), if_neg (by omega)]

theorem get_set (v : α) : ∀ (t : Tr α) (i j : Nat), (set v t i).get j = if j = i then some v else t.get j := by
  intro t
  induction t with
  | nil => intro i j; simp only [set_nil]; rw [get_sing v i i (Nat.le_refl i)]; simp [get_nil]
  | fn f => intro i j; rfl
  | node u l r ihl ihr =>
    intro i j
    cases i with
    | zero => cases j <;> simp [set_zero, get_zero, get_succ]
    | succ i =>
      cases j with
      | zero => rcases beq_even i with ⟨h, _⟩ | ⟨h, _⟩ <;> simp [set_succ, get_zero, h]
      | succ j =>
        rcases beq_even i with ⟨h, h'⟩ | ⟨h, h'⟩ <;> rcases beq_even j with ⟨g, g'⟩ | ⟨g, g'⟩ <;> simp only [set_succ, get_succ, h, g]
        · rw [ihl]
          by_cases e : j = i
          · subst e; simp
          · rw [if_neg (by omega), if_neg (by omega)]
        · rw [if_neg (by omega)]
        · rw [if_neg (by omega)]
        · rw [ihr]
          by_cases e : j = i
          · subst e; simp
          · rw [if_neg (by omega), if_neg (by omega)]

theorem get_del : ∀ (t : Tr α) (i j : Nat), (del t i).get j = if j = i then none else t.get j := by
  intro t
  induction t with
  | nil => intro i j; simp [del, get_nil]
  | fn f => intro i j; simp only [del]; rfl
  | node u l r ihl ihr =>
    intro i j
    cases i with
    | zero => cases j <;> simp [del, get_zero, get_succ]
    | succ i =>
      cases j with
      | zero => rcases beq_even i with ⟨h, _⟩ | ⟨h, _⟩ <;> simp [del, force_eq, get_zero, h]
      | succ j =>
        rcases beq_even i with ⟨h, h'⟩ | ⟨h, h'⟩ <;> rcases beq_even j with ⟨g, g'⟩ | ⟨g, g'⟩ <;> simp only [del, force_eq, get_succ, h, g]
        · rw [ihl]
          by_cases e : j = i
          · subst e; simp
          · rw [if_neg (by omega), if_neg (by omega)]
        · rw [if_neg (by omega)]
        · rw [if_neg (by omega)]
        · rw [ihr]
          by_cases e : j = i
          · subst e; simp
          · rw [if_neg (by omega), if_neg (by omega)]

theorem get_setL : ∀ (vs : List α) (t : Tr α) (i j : Nat), (setL t i vs).get j = if i ≤ j ∧ j < i + vs.length then vs[j - i]? else t.get j := by
  intro vs
  induction vs with
  | nil => intro t i j; simp only [setL]; rw [if_neg (by simp)]
  | cons v vs ih =>
    intro t i j
    simp only [setL]
    rw [ih, get_set]
    by_cases e : j = i
    · subst e
      rw [if_neg (by omega), if_pos rfl, if_pos (by simp)]; simp
    · rw [if_neg e]
      by_cases h : i + 1 ≤ j ∧ j < i + 1 + vs.length
      · rw [if_pos h, if_pos (by simp; omega)]
        obtain ⟨k, rfl⟩ : ∃ k, j = i + 1 + k := ⟨j - (i + 1), by omega⟩
        rw [show i + 1 + k - (i + 1) = k by omega, show i + 1 + k - i = k + 1 by omega]; simp
      · rw [if_neg h, if_neg (by simp; omega)]
theorem setLF_eq : ∀ (vs : List α) (t : Tr α) (i : Nat), setLF vs t i = setL t i vs
  | [], t, i => rfl
  | v :: vs, t, i => by
    show (Tr.set v t i).force (fun t => forceN (Nat.succ i) (setLF vs t)) = _
    rw [force_eq]
    show _ = setL (set v t i) (i + 1) vs
    rw [← setLF_eq vs]
    rfl
end Tr
theorem lenF_eq' {α : Type} : ∀ (l : List α) (k : Nat), lenF l k = l.length + k
  | [], k => by show k = 0 + k; omega
  | a :: l, k => by
    show forceN (Nat.succ k) (lenF l) = _
    have : forceN (Nat.succ k) (lenF l) = lenF l (k + 1) := rfl
    rw [this, lenF_eq' l]
    simp only [List.length_cons]; omega
theorem lenF_eq {α : Type} (l : List α) : lenF l 0 = l.length := lenF_eq' l 0
theorem cells_snoc (h : AH) (b off : Nat) : ∀ n, h.cells b off (n + 1) = match h.cells b off n with | some vs => (match h.cell b (off + n) with | some v => some (vs ++ [v]) | none => none) | none => none
  | 0 => by
    simp only [AH.cells, Nat.add_zero]
    cases h.cell b off <;> rfl
  | n + 1 => by
    have ih := cells_snoc h b (off + 1) n
    rw [AH.cells, ih, AH.cells]
    cases h.cell b off with
    | none => rfl
    | some u =>
      simp only
      cases h.cells b (off + 1) n with
      | none => rfl
      | some vs =>
        simp only
        rw [show off + 1 + n = off + (n + 1) by omega]
        cases h.cell b (off + (n + 1)) <;> rfl
theorem cellsF_acc (h : AH) (b off : Nat) : ∀ (n : Nat) (acc : List AV), h.cellsF b off n acc = match h.cells b off n with | some vs => some (vs ++ acc) | none => none
  | 0, acc => rfl
  | n + 1, acc => by
    show (match h.cell b (off + n) with | some v => h.cellsF b off n (v :: acc) | none => none) = _
    rw [cells_snoc]
    cases hc : h.cell b (off + n) with
    | none => cases h.cells b off n <;> rfl
    | some v =>
      simp only
      rw [cellsF_acc h b off n]
      cases h.cells b off n with
      | none => rfl
      | some vs => simp
theorem cellsF_eq (h : AH) (b off n : Nat) : h.cellsF b off n [] = h.cells b off n := by
  rw [cellsF_acc]
  cases h.cells b off n <;> simp

/-! ### which concrete block an abstract one is -/
structure Cb where
  blk : Nat
  base : Nat
  tot : Nat
  kn : Nat

/-- which concrete block an abstract one is; of which blocks it is known what they have, for ever -/
structure Rho where
  m : Nat → Option Cb
  fz : Nat → Option (Array Value)
instance : CoeFun Rho (fun _ => Nat → Option Cb) := ⟨Rho.m⟩
/-- of it, what is frozen alone -/
def Rho.cold (ρ : Rho) : Rho := ⟨fun _ => none, ρ.fz⟩

def cellsAt (arr : Array Value) (o n : Nat) : List Value := (arr.toList.drop o).take n
def ones (l : List Value) : Prop := ∀ c ∈ l, c.oneCell' = true
/-- a slice of no length -/
def emptyS (full : Bool) (c : Value) : Prop := c = .slice none 0 0 ∨ ∃ a k, c = .slice (some a) 0 k ∧ (full = true → k = 0)

mutual
def VR : Rho → AV → Value → Prop
  | ρ, .int k n, c => c = .int k n
  | ρ, .bool b, c => c = .bool b
  | ρ, .str s, c => c = .string s
  | ρ, .ptr b o, c => ∃ cb, ρ b = some cb ∧ c = .pointer (some ⟨cb.blk, cb.base + o, none⟩)
  | ρ, .nilptr, c => c = .pointer none
  | ρ, .sl b o l cap e, c => ∃ cb k, ρ b = some cb ∧ c = .slice (some ⟨cb.blk, cb.base + o, none⟩) l k ∧ l ≤ k ∧ cb.base + o + k * e ≤ cb.tot ∧ ∀ n, cap = some n → k = n
  | ρ, .nilsl, c => c = .slice none 0 0
  | ρ, .slz f, c => ∃ a k, c = .slice (some a) 0 k ∧ (f = true → k = 0)
  | ρ, .mp b, c => ∃ cb, ρ b = some cb ∧ c = .map (some cb.blk)
  | ρ, .nilmap, c => c = .map none
  | ρ, .fn f a cp, c => ∃ as cs, c = .func f as cs ∧ VRs ρ a as.toList ∧ VRs ρ cp cs.toList
  | ρ, .nilfn, c => c = .nilFunc
  | ρ, .yld b, c => ∃ cb, ρ b = some cb ∧ c = .func (.yield cb.blk) #[] #[]
  | ρ, .agg cs, c => ∃ as, c = .agg as ∧ VRs ρ cs as.toList
  | ρ, .tup vs, c => ∃ as, c = .tuple as ∧ VRs ρ vs as.toList
  | ρ, .ls n f e full, c => (n = 0 ∧ emptyS full c) ∨ (0 < n ∧ ∃ blk off k arr, c = .slice (some ⟨blk, off, none⟩) n k ∧ n ≤ k ∧ (full = true → k = n) ∧ ρ.fz blk = some arr ∧ off + n * e ≤ arr.size ∧
      ∀ j, j < n → VRs ρ.cold (f j) (cellsAt arr (off + j * e) e) ∧ ones (cellsAt arr (off + j * e) e))
  | ρ, .lp cs k, c => ∃ blk off arr, c = .pointer (some ⟨blk, off + k, none⟩) ∧ ρ.fz blk = some arr ∧ off + cs.length ≤ arr.size ∧ VRs ρ.cold cs (cellsAt arr off cs.length)
  | ρ, .ep b j k e, c => ∃ cb, ρ.m b = some cb ∧ c = .pointer (some ⟨cb.blk, cb.base + j * e + k, none⟩) ∧ cb.base + (j + 1) * e ≤ cb.kn
  | ρ, .es b j n cap e, c => (n = 0 ∧ cap = none ∧ emptyS true c) ∨ ∃ cb k, ρ.m b = some cb ∧ c = .slice (some ⟨cb.blk, cb.base + j * e, none⟩) n k ∧ n ≤ k ∧ cb.base + (j + n) * e ≤ cb.kn ∧ cb.base + (j + k) * e ≤ cb.tot ∧
      ∀ m, cap = some m → k = m ∧ cb.base + (j + m) * e ≤ cb.kn
def VRs : Rho → List AV → List Value → Prop
  | ρ, [], l => l = []
  | ρ, v :: vs, l => ∃ c cs, l = c :: cs ∧ VR ρ v c ∧ VRs ρ vs cs
end

structure Ext (ρ ρ' : Rho) : Prop where
  m : ∀ b cb, ρ.m b = some cb → ρ'.m b = some cb
  fz : ∀ k arr, ρ.fz k = some arr → ρ'.fz k = some arr
instance {ρ ρ' : Rho} : CoeFun (Ext ρ ρ') (fun _ => ∀ b cb, ρ.m b = some cb → ρ'.m b = some cb) := ⟨Ext.m⟩
theorem Ext.refl (ρ : Rho) : Ext ρ ρ := ⟨fun _ _ h => h, fun _ _ h => h⟩
theorem Ext.trans {a b c : Rho} (h : Ext a b) (g : Ext b c) : Ext a c := ⟨fun _ _ e => g _ _ (h _ _ e), fun _ _ e => g.fz _ _ (h.fz _ _ e)⟩

theorem Ext.cold {ρ ρ' : Rho} (h : Ext ρ ρ') : Ext ρ.cold ρ'.cold := ⟨fun _ _ q => (by cases q), h.fz⟩
theorem cold_ext (ρ : Rho) : Ext ρ.cold ρ := ⟨fun _ _ q => (by cases q), fun _ _ q => q⟩
/-- more blocks are known; of those below n all is as it was -/
def Ext2 (n : Nat) (ρ ρ' : Rho) : Prop := Ext ρ ρ' ∧ ∀ b, b < n → ρ' b = ρ b
theorem Ext2.refl (n : Nat) (ρ : Rho) : Ext2 n ρ ρ := ⟨Ext.refl ρ, fun _ _ => rfl⟩
theorem Ext2.mono {n m : Nat} {ρ ρ' : Rho} (h : Ext2 n ρ ρ') (hm : m ≤ n) : Ext2 m ρ ρ' := ⟨h.1, fun b hb => h.2 b (Nat.lt_of_lt_of_le hb hm)⟩

mutual
theorem VR.ext {ρ ρ' : Rho} (h : Ext ρ ρ') : ∀ {v : AV} {c : Value}, VR ρ v c → VR ρ' v c
  | .int _ _, _, e => by simpa only [VR] using e
  | .bool _, _, e => by simpa only [VR] using e
  | .str _, _, e => by simpa only [VR] using e
  | .ptr _ _, _, e => by
    simp only [VR] at e ⊢
    obtain ⟨cb, h1, h2⟩ := e
    exact ⟨cb, h _ _ h1, h2⟩
  | .nilptr, _, e => by simpa only [VR] using e
  | .sl _ _ _ _ _, _, e => by
    simp only [VR] at e ⊢
    obtain ⟨cb, k, h1, h2⟩ := e
    exact ⟨cb, k, h _ _ h1, h2⟩
  | .nilsl, _, e => by simpa only [VR] using e
  | .slz _, _, e => by simpa only [VR] using e
  | .mp _, _, e => by
    simp only [VR] at e ⊢
    obtain ⟨cb, h1, h2⟩ := e
    exact ⟨cb, h _ _ h1, h2⟩
  | .nilmap, _, e => by simpa only [VR] using e
  | .fn _ a cp, _, e => by
    simp only [VR] at e ⊢
    obtain ⟨as, cs, h1, h2, h3⟩ := e
    exact ⟨as, cs, h1, VRs.ext h h2, VRs.ext h h3⟩
  | .nilfn, _, e => by simpa only [VR] using e
  | .yld _, _, e => by
    simp only [VR] at e ⊢
    obtain ⟨cb, h1, h2⟩ := e
    exact ⟨cb, h _ _ h1, h2⟩
  | .agg _, _, e => by
    simp only [VR] at e ⊢
    obtain ⟨as, h1, h2⟩ := e
    exact ⟨as, h1, VRs.ext h h2⟩
  | .tup _, _, e => by
    simp only [VR] at e ⊢
    obtain ⟨as, h1, h2⟩ := e
    exact ⟨as, h1, VRs.ext h h2⟩
  | .ls _ _ _ _, _, q => by
    simp only [VR] at q ⊢
    rcases q with q | ⟨h0, b, o, k, arr, h1, h2, h3, h4, h5, h6⟩
    · exact .inl q
    · exact .inr ⟨h0, b, o, k, arr, h1, h2, h3, h.fz _ _ h4, h5, fun j hj => ⟨VRs.ext h.cold (h6 j hj).1, (h6 j hj).2⟩⟩
  | .lp _ _, _, q => by
    simp only [VR] at q ⊢
    obtain ⟨b, o, arr, h1, h2, h3, h4⟩ := q
    exact ⟨b, o, arr, h1, h.fz _ _ h2, h3, VRs.ext h.cold h4⟩
  | .ep _ _ _ _, _, q => by
    simp only [VR] at q ⊢
    obtain ⟨cb, h1, h2⟩ := q
    exact ⟨cb, h _ _ h1, h2⟩
  | .es _ _ _ _ _, _, q => by
    simp only [VR] at q ⊢
    rcases q with q | ⟨cb, k, h1, h2⟩
    · exact .inl q
    · exact .inr ⟨cb, k, h _ _ h1, h2⟩
theorem VRs.ext {ρ ρ' : Rho} (h : Ext ρ ρ') : ∀ {vs : List AV} {l : List Value}, VRs ρ vs l → VRs ρ' vs l
  | [], _, e => by simpa only [VRs] using e
  | v :: vs, _, e => by
    simp only [VRs] at e ⊢
    obtain ⟨c, cs, h1, h2, h3⟩ := e
    exact ⟨c, cs, h1, VR.ext h h2, VRs.ext h h3⟩
end

theorem VRs.length {ρ : Rho} : ∀ {vs : List AV} {l : List Value}, VRs ρ vs l → l.length = vs.length
  | [], _, e => by simp only [VRs] at e; subst e; rfl
  | v :: vs, _, e => by
    simp only [VRs] at e
    obtain ⟨c, cs, rfl, _, h3⟩ := e
    simp [VRs.length h3]

theorem VRs.get {ρ : Rho} : ∀ {vs : List AV} {l : List Value}, VRs ρ vs l → ∀ {i : Nat} {v : AV}, vs[i]? = some v → ∃ c, l[i]? = some c ∧ VR ρ v c
  | [], _, _, i, v, h => by simp at h
  | x :: xs, _, e, i, v, h => by
    simp only [VRs] at e
    obtain ⟨c, cs, rfl, h2, h3⟩ := e
    cases i with
    | zero => simp at h; subst h; exact ⟨c, rfl, h2⟩
    | succ i => simp at h; obtain ⟨c', hc, hv⟩ := VRs.get h3 h; exact ⟨c', by simpa using hc, hv⟩

theorem VRs.of {ρ : Rho} : ∀ {vs : List AV} {l : List Value}, l.length = vs.length → (∀ (i : Nat) (v : AV), vs[i]? = some v → ∃ c : Value, l[i]? = some c ∧ VR ρ v c) → VRs ρ vs l
  | [], l, hl, _ => by simp only [VRs]; exact List.length_eq_zero_iff.mp (by simpa using hl)
  | v :: vs, [], hl, _ => by simp at hl
  | v :: vs, c :: cs, hl, h => by
    simp only [VRs]
    obtain ⟨c', hc, hv⟩ := h 0 v rfl
    simp at hc; subst hc
    exact ⟨c, cs, rfl, hv, VRs.of (by simpa using hl) (fun i u hi => by simpa using h (i + 1) u (by simpa using hi))⟩

theorem VRs.append {ρ : Rho} : ∀ {a b : List AV} {x y : List Value}, VRs ρ a x → VRs ρ b y → VRs ρ (a ++ b) (x ++ y)
  | [], b, x, y, h, g => by simp only [VRs] at h; subst h; simpa using g
  | v :: vs, b, x, y, h, g => by
    simp only [VRs] at h
    obtain ⟨c, cs, rfl, h2, h3⟩ := h
    simp only [List.cons_append, VRs]
    exact ⟨c, cs ++ y, rfl, h2, VRs.append h3 g⟩

theorem VRs.take {ρ : Rho} {a : List AV} {x : List Value} (n : Nat) (h : VRs ρ a x) : VRs ρ (a.take n) (x.take n) := by
  refine VRs.of (by simp [VRs.length h]) (fun i v hi => ?_)
  rw [List.getElem?_take] at hi
  split at hi
  · obtain ⟨c, hc, hv⟩ := VRs.get h hi
    exact ⟨c, by rw [List.getElem?_take]; simp [*], hv⟩
  · simp at hi

theorem VRs.drop {ρ : Rho} {a : List AV} {x : List Value} (n : Nat) (h : VRs ρ a x) : VRs ρ (a.drop n) (x.drop n) := by
  refine VRs.of (by simp [VRs.length h]) (fun i v hi => ?_)
  rw [List.getElem?_drop] at hi
  obtain ⟨c, hc, hv⟩ := VRs.get h hi
  exact ⟨c, by rw [List.getElem?_drop]; exact hc, hv⟩

theorem addZ_eq (a i : Nat) : addZ a i = a + i := by cases a <;> simp [addZ]
theorem cellsAt_len {arr : Array Value} {o n : Nat} (h : o + n ≤ arr.size) : (cellsAt arr o n).length = n := by
  unfold cellsAt; simp; omega
theorem cellsAt_get {arr : Array Value} {o n : Nat} {i : Nat} (hi : i < n) : (cellsAt arr o n)[i]? = arr[o + i]? := by
  unfold cellsAt
  rw [List.getElem?_take, if_pos hi, List.getElem?_drop]; simp
theorem cellsAt_sub {arr : Array Value} {o n k m : Nat} (h : k + m ≤ n) : ((cellsAt arr o n).drop k).take m = cellsAt arr (o + k) m := by
  apply List.ext_getElem?
  intro i
  rw [List.getElem?_take]
  split
  · rename_i hi
    rw [List.getElem?_drop, cellsAt_get (by omega), cellsAt_get hi]; congr 1; omega
  · unfold cellsAt
    rw [List.getElem?_take, if_neg (by assumption)]
theorem row_in {o n e i t : Nat} (h : o + n * e ≤ t) (hi : i < n) : o + i * e + e ≤ t := by
  have : (i + 1) * e ≤ n * e := Nat.mul_le_mul_right _ hi
  rw [Nat.add_mul] at this; omega
theorem emptyS.sl {full : Bool} {c : Value} (h : emptyS full c) : ∃ a k, c = .slice a 0 k := by
  rcases h with rfl | ⟨a, k, rfl, _⟩
  · exact ⟨_, _, rfl⟩
  · exact ⟨_, _, rfl⟩
theorem VR.ls_sl {ρ : Rho} {n : Nat} {f : Nat → List AV} {e : Nat} {full : Bool} {c : Value} (h : VR ρ (.ls n f e full) c) : ∃ a k, c = .slice a n k := by
  simp only [VR] at h
  rcases h with ⟨rfl, h⟩ | ⟨_, b, o, k, arr, rfl, _⟩
  · exact h.sl
  · exact ⟨_, _, rfl⟩
theorem VR.es_sl {ρ : Rho} {b j n : Nat} {cap : Option Nat} {e : Nat} {c : Value} (h : VR ρ (.es b j n cap e) c) : ∃ a k, c = .slice a n k := by
  simp only [VR] at h
  rcases h with ⟨rfl, _, h⟩ | ⟨cb, k, _, rfl, _⟩
  · exact h.sl
  · exact ⟨_, _, rfl⟩
theorem VR.lp_pt {ρ : Rho} {cs : List AV} {k : Nat} {c : Value} (h : VR ρ (.lp cs k) c) : ∃ a, c = .pointer (some a) := by
  simp only [VR] at h
  obtain ⟨b, o, arr, rfl, _⟩ := h
  exact ⟨_, rfl⟩
theorem VR.ep_pt {ρ : Rho} {b j k e : Nat} {c : Value} (h : VR ρ (.ep b j k e) c) : ∃ a, c = .pointer (some a) := by
  simp only [VR] at h
  obtain ⟨cb, _, rfl, _⟩ := h
  exact ⟨_, rfl⟩
theorem VR.notAgg {ρ : Rho} {v : AV} {c : Value} (h : VR ρ v c) (hn : notAgg v = true) : c.oneCell' = true := by
  cases v <;> first
    | (obtain ⟨_, _, rfl⟩ := h.ls_sl; rfl)
    | (obtain ⟨_, _, rfl⟩ := h.es_sl; rfl)
    | simp only [VR] at h
  all_goals first
    | done
    | (subst h; rfl)
    | (obtain ⟨_, _, rfl⟩ := h; rfl)
    | (obtain ⟨_, _, _, rfl, _⟩ := h; rfl)
    | (obtain ⟨_, _, rfl, _⟩ := h; rfl)
    | (simp [EV.notAgg] at hn)

theorem VR.cells {ρ : Rho} {v : AV} {c : Value} (h : VR ρ v c) : VRs ρ v.cells c.cells.toList := by
  cases v <;> simp only [AV.cells] <;> first
    | (obtain ⟨_, _, rfl⟩ := h.ls_sl; simp only [Value.cells, VRs]; exact ⟨_, _, rfl, h, rfl⟩)
    | (obtain ⟨_, _, rfl⟩ := h.es_sl; simp only [Value.cells, VRs]; exact ⟨_, _, rfl, h, rfl⟩)
    | simp only [VR] at h
  all_goals first
    | done
    | (obtain ⟨as, rfl, hv⟩ := h; simpa [Value.cells] using hv)
    | (subst h; simp only [Value.cells, VRs]; exact ⟨_, _, rfl, by simp only [VR], rfl⟩)
    | (obtain ⟨_, _, rfl⟩ := id h; simp only [Value.cells, VRs]; exact ⟨_, _, rfl, by simpa only [VR] using h, rfl⟩)
    | (obtain ⟨_, _, _, rfl, _⟩ := id h; simp only [Value.cells, VRs]; exact ⟨_, _, rfl, by simpa only [VR] using h, rfl⟩)
    | (obtain ⟨_, _, rfl, _⟩ := id h; simp only [Value.cells, VRs]; exact ⟨_, _, rfl, by simpa only [VR] using h, rfl⟩)
    | (obtain ⟨_, rfl, _⟩ := id h; simp only [Value.cells, VRs]; exact ⟨_, _, rfl, by simpa only [VR] using h, rfl⟩)

theorem VRs.of_all {ρ : Rho} {vs : List AV} {l : List Value} (h : VRs ρ vs l) (hn : vs.all EV.notAgg = true) : ∀ c ∈ l, c.oneCell' = true := by
  intro c hc
  obtain ⟨i, hi⟩ := List.mem_iff_getElem?.mp hc
  have hlt : i < vs.length := by
    rw [← VRs.length h]; exact (List.getElem?_eq_some_iff.mp hi).1
  obtain ⟨c', hc', hv⟩ := VRs.get h (List.getElem?_eq_getElem hlt)
  rw [hi] at hc'; cases hc'
  exact hv.notAgg (by rw [List.all_eq_true] at hn; exact hn _ (List.getElem_mem hlt))

/-! ### memory -/
def mapR (ρ : Rho) : List (AV × AV × Nat) → List MapEntry → Prop
  | [], l => l = []
  | (k, v, n) :: es, l => ∃ e r, l = e :: r ∧ VR ρ k e.key ∧ VR ρ v e.val ∧ e.born = n ∧ mapR ρ es r

theorem mapR.ext {ρ ρ' : Rho} (h : Ext ρ ρ') : ∀ {es : List (AV × AV × Nat)} {l : List MapEntry}, mapR ρ es l → mapR ρ' es l
  | [], _, e => e
  | (k, v, n) :: es, _, ⟨e, r, h1, h2, h3, h4, h5⟩ => ⟨e, r, h1, VR.ext h h2, VR.ext h h3, h4, mapR.ext h h5⟩

def rowR (ρ : Rho) (w : World) (cb : Cb) (n : Nat) (z : List AV) (t : Tr AV) : Prop :=
  ∃ arr elem, w.heap[cb.blk]? = some (.cells arr elem (0, 0)) ∧ arr.size = cb.tot ∧ cb.base + n ≤ cb.tot ∧
    ∀ i v, rowGet n z t i = some v → ∃ c, arr[cb.base + i]? = some c ∧ VR ρ v c

structure LoopR (ρ : Rho) (x : ALoop) (r : Loop) : Prop where
  state : r.state = x.state
  pending : r.pending = x.pending
  fn : r.fn = x.fn
  size : r.tmps.size = x.n
  tmps : ∀ t v, x.tmps.get t = some v → ∃ c, r.tmps[t]? = some c ∧ VR ρ v c
  params : r.params = x.params
  assign : r.assign = x.assign
  body : r.body = x.body

/-- a map whose keys are numbers: what was put in last, and what was there -/
def imV (u : List (Int × AV)) (x : Int → AV) (n : Int) : AV := match u with
  | [] => x n
  | (k, v) :: r => bif n == k then v else imV r x n
def imH (u : List (Int × AV)) (has : Int → Bool) (n : Int) : Bool := match u with
  | [] => has n
  | (k, _) :: r => n == k || imH r has n
def imapR (ρ : Rho) (kk : IntKind) (H : Int → Bool) (V : Int → AV) (ces : List MapEntry) : Prop :=
  (∀ e ∈ ces, ∃ n, e.key = .int kk n ∧ H n = true ∧ VR ρ.cold (V n) e.val) ∧ (∀ n, H n = true → ∃ e ∈ ces, e.key = .int kk n) ∧ (ces.map (·.key)).Nodup
/-- a block of memory above, and the object below -/
def blkR (ρ : Rho) (o : Option Obj) (cb : Cb) : ABlk → Prop
  | .row n z t => ∃ arr elem, o = some (.cells arr elem (0, 0)) ∧ arr.size = cb.tot ∧ cb.base + n ≤ cb.tot ∧
    ∀ i v, rowGet n z t i = some v → ∃ c, arr[cb.base + i]? = some c ∧ VR ρ v c
  | .ro n f => ∃ arr elem fz, o = some (.cells arr elem fz) ∧ arr.size = cb.tot ∧ cb.base + n ≤ cb.tot ∧
    ∀ i, i < n → ∃ c, arr[cb.base + i]? = some c ∧ VR ρ (f i) c
  | .map es k => ∃ ces, o = some (.map ces k) ∧ mapR ρ es ces.toList
  | .loop x => ∃ r, o = some (.loop r) ∧ LoopR ρ x r
  | .dfr t => o = some (.deferred (match t with | true => some [] | false => none))
  | .els e n f => ∃ arr elem, o = some (.cells arr elem (0, 0)) ∧ arr.size = cb.tot ∧ cb.kn ≤ cb.tot ∧ cb.kn ≤ cb.base + n * e ∧ ∀ i, cb.base + (i + 1) * e ≤ cb.kn → VRs ρ (f i) (cellsAt arr (cb.base + i * e) e) ∧ ones (cellsAt arr (cb.base + i * e) e)
  | .imap kk u hs x => ∃ ces k, o = some (.map ces k) ∧ imapR ρ kk (imH u hs) (imV u x) ces.toList

theorem blkR.ext {ρ ρ' : Rho} (h : Ext ρ ρ') {o : Option Obj} {cb : Cb} : ∀ {x : ABlk}, blkR ρ o cb x → blkR ρ' o cb x
  | .row _ _ _, ⟨arr, elem, h1, h2, h3, h4⟩ => ⟨arr, elem, h1, h2, h3, fun i v hi => by
      obtain ⟨c, h5, h6⟩ := h4 i v hi
      exact ⟨c, h5, h6.ext h⟩⟩
  | .ro _ _, ⟨arr, elem, fz, h1, h2, h3, h4⟩ => ⟨arr, elem, fz, h1, h2, h3, fun i hi => by
      obtain ⟨c, h5, h6⟩ := h4 i hi
      exact ⟨c, h5, h6.ext h⟩⟩
  | .map _ _, ⟨ces, h1, h2⟩ => ⟨ces, h1, h2.ext h⟩
  | .loop _, ⟨r, h1, L⟩ => ⟨r, h1, L.state, L.pending, L.fn, L.size, fun t v ht => by
      obtain ⟨c, h5, h6⟩ := L.tmps t v ht
      exact ⟨c, h5, h6.ext h⟩, L.params, L.assign, L.body⟩
  | .dfr _, h1 => h1
  | .els _ _ _, ⟨arr, elem, h1, h2, h2', h2'', h3⟩ => ⟨arr, elem, h1, h2, h2', h2'', fun i hi => ⟨(h3 i hi).1.ext h, (h3 i hi).2⟩⟩
  | .imap _ _ _ _, ⟨ces, k, h1, h2, h3⟩ => ⟨ces, k, h1, fun e he => by
      obtain ⟨n, g1, g2, g3⟩ := h2 e he
      exact ⟨n, g1, g2, g3.ext h.cold⟩, h3⟩

structure HRel (ρ : Rho) (h : AH) (w : World) : Prop where
  blk : ∀ b o, h.bs.get b = some o → ∀ cb, ρ b = some cb → blkR ρ w.heap[cb.blk]? cb o
  inj : ∀ b b' cb cb', 8 ≤ b' → h.bs.get b ≠ none → h.bs.get b' ≠ none → ρ b = some cb → ρ b' = some cb' → cb.blk = cb'.blk → b = b'
  fresh : ∀ b, h.next ≤ b → ρ b = none
  live : ∀ b, h.next ≤ b → h.bs.get b = none
  bound : ∀ b cb, ρ b = some cb → cb.blk < w.heap.size
  ro : ∀ b o, h.bs.get b = some o → (∀ n f, o ≠ .ro n f) → 8 ≤ b
  low : 8 ≤ h.next
  frz : ∀ k arr, ρ.fz k = some arr → ∃ elem f, w.heap[k]? = some (.cells arr elem f)
  sep : ∀ b o cb, h.bs.get b = some o → 8 ≤ b → ρ b = some cb → ρ.fz cb.blk = none

theorem HRel.rows {ρ : Rho} {h : AH} {w : World} (H : HRel ρ h w) (b : Nat) (n : Nat) (z : List AV) (t : Tr AV) (hg : h.bs.get b = some (.row n z t)) (cb : Cb) (hb : ρ b = some cb) : rowR ρ w cb n z t := H.blk b _ hg cb hb
theorem HRel.maps {ρ : Rho} {h : AH} {w : World} (H : HRel ρ h w) (b : Nat) (es : List (AV × AV × Nat)) (k : Nat) (hg : h.bs.get b = some (.map es k)) (cb : Cb) (hb : ρ b = some cb) :
    ∃ ces, w.heap[cb.blk]? = some (.map ces k) ∧ mapR ρ es ces.toList := H.blk b _ hg cb hb

/-- blocks that were before: those that a run was given as its own; those that it may know for ever -/
structure Own where
  m : Nat → Prop
  f : Nat → Prop
instance : CoeFun Own (fun _ => Nat → Prop) := ⟨Own.m⟩
def Own.no : Own := ⟨fun _ => False, fun _ => False⟩
/-- what a run leaves: the world outside is as it was; only the run's own blocks (from N on, or of those that it was given) have changed -/
structure Keep (N : Nat) (own : Own) (w w' : World) : Prop where
  os : w'.os = w.os
  tape : w'.tape = w.tape
  output : w'.output = w.output
  size : w.heap.size ≤ w'.heap.size
  block : ∀ k, k < N → ¬ own k → w'.heap[k]? = w.heap[k]?

theorem Keep.refl (N : Nat) (own : Own) (w : World) : Keep N own w w := ⟨rfl, rfl, rfl, Nat.le_refl _, fun _ _ _ => rfl⟩
theorem Keep.trans {N : Nat} {own : Own} {a b c : World} (h : Keep N own a b) (g : Keep N own b c) : Keep N own a c :=
  ⟨g.os.trans h.os, g.tape.trans h.tape, g.output.trans h.output, Nat.le_trans h.size g.size, fun k hk ho => (g.block k hk ho).trans (h.block k hk ho)⟩

/-- each block of the run's is from N on, or one of those that it was given -/
structure Owned (N : Nat) (own : Own) (ρ : Rho) : Prop where
  m : ∀ b cb, 8 ≤ b → ρ.m b = some cb → N ≤ cb.blk ∨ own.m cb.blk
  f : ∀ k arr, ρ.fz k = some arr → N ≤ k ∨ own.f k ∨ own.m k
instance {N : Nat} {own : Own} {ρ : Rho} : CoeFun (Owned N own ρ) (fun _ => ∀ b cb, 8 ≤ b → ρ.m b = some cb → N ≤ cb.blk ∨ own.m cb.blk) := ⟨Owned.m⟩


theorem rowGet_lt {n : Nat} {z : List AV} {t : Tr AV} {i : Nat} {v : AV} (h : rowGet n z t i = some v) : i < n := by
  unfold rowGet at h
  split at h
  · rename_i hb; simp [Nat.blt] at hb; omega
  · simp at h

theorem AH.cell_row {h : AH} {b off : Nat} {v : AV} (hc : h.cell b off = some v) : (∃ n z t, h.bs.get b = some (.row n z t) ∧ rowGet n z t off = some v) ∨ (∃ n f, h.bs.get b = some (.ro n f) ∧ off < n ∧ f off = v) := by
  unfold AH.cell at hc
  split at hc
  · rename_i n z t hg; exact .inl ⟨n, z, t, hg, hc⟩
  · rename_i n f hg
    split at hc
    · rename_i hb
      cases hc
      exact .inr ⟨n, f, hg, by simp [Nat.blt] at hb; omega, rfl⟩
    · cases hc
  · cases hc

/-- a cell that the abstract memory has is there, with what it has -/
theorem HRel.cell {ρ : Rho} {h : AH} {w : World} (H : HRel ρ h w) {b off : Nat} {v : AV} (hc : h.cell b off = some v) {cb : Cb} (hb : ρ b = some cb) :
    ∃ c, w.cell? ⟨cb.blk, cb.base + off, none⟩ = some c ∧ VR ρ v c := by
  rcases AH.cell_row hc with ⟨n, z, t, hg, hr⟩ | ⟨n, f, hg, hlt, rfl⟩
  · obtain ⟨arr, elem, h1, h2, h3, h4⟩ := H.rows b n z t hg cb hb
    obtain ⟨c, hc', hv⟩ := h4 off v hr
    exact ⟨c, by simp [World.cell?, h1, hc'], hv⟩
  · obtain ⟨arr, elem, fz, h1, h2, h3, h4⟩ := H.blk b _ hg cb hb
    obtain ⟨c, hc', hv⟩ := h4 off hlt
    exact ⟨c, by simp [World.cell?, h1, hc'], hv⟩

theorem HRel.cells {ρ : Rho} {h : AH} {w : World} (H : HRel ρ h w) {b : Nat} {cb : Cb} (hb : ρ b = some cb) :
    ∀ (n off : Nat) (vs : List AV), h.cells b off n = some vs → ∃ cs, VRs ρ vs cs ∧ cs.length = n ∧ ∀ (j : Nat) (v : Value), cs[j]? = some v → w.cell? ⟨cb.blk, cb.base + off + j, none⟩ = some v := by
  intro n
  induction n with
  | zero => intro off vs hv; simp [AH.cells] at hv; subst hv; exact ⟨[], by simp [VRs], rfl, by simp⟩
  | succ n ih =>
    intro off vs hv
    simp only [AH.cells] at hv
    split at hv
    · rename_i v hc
      split at hv
      · rename_i us hu
        simp at hv; subst hv
        obtain ⟨c, h1, h2⟩ := H.cell hc hb
        obtain ⟨cs, h3, h4, h5⟩ := ih (off + 1) us hu
        refine ⟨c :: cs, by simp only [VRs]; exact ⟨c, cs, rfl, h2, h3⟩, by simp [h4], fun j v hj => ?_⟩
        cases j with
        | zero => simp at hj; subst hj; exact h1
        | succ j => simp at hj; rw [← h5 j v hj]; congr 2; omega
      · simp at hv
    · simp at hv

theorem add_addr (g o i : Nat) : (⟨g, o, none⟩ : Addr).add i = ⟨g, o + i, none⟩ := by unfold Addr.add; split <;> simp_all

theorem HRel.loadCells {P : Program} {ρ : Rho} {h : AH} {w : World} (H : HRel ρ h w) {b off n : Nat} {vs : List AV} (hv : h.cells b off n = some vs) {cb : Cb} (hb : ρ b = some cb) :
    ∃ cs : List Value, (Go.loadCells ⟨cb.blk, cb.base + off, none⟩ n).run P w = .ok cs.toArray w ∧ VRs ρ vs cs := by
  obtain ⟨cs, h1, h2, h3⟩ := H.cells hb n off vs hv
  refine ⟨cs, ?_, h1⟩
  subst h2
  refine run_loadCells_list w _ cs (fun j v hj => ?_)
  rw [add_addr]
  exact h3 j v hj

theorem World.setRow_get_same {w : World} {g : Nat} {cur : Array Value} {t : TypeId} {arr : Array Value} (hg : w.heap[g]? = some (.cells cur t (0, 0))) :
    (w.setRow g arr).heap[g]? = some (.cells arr t (0, 0)) := setRow_heap w g cur arr t (0, 0) hg

theorem World.setRow_get_other {w : World} {g k : Nat} {arr : Array Value} (h : k ≠ g) : (w.setRow g arr).heap[k]? = w.heap[k]? := by
  simp only [World.setRow, Array.getElem?_modify]
  rw [if_neg (by omega)]

theorem World.setRow_size {w : World} {g : Nat} {arr : Array Value} : (w.setRow g arr).heap.size = w.heap.size := by simp [World.setRow]

theorem Keep.setRow {N : Nat} {own : Own} (w : World) {g : Nat} (arr : Array Value) (hg : N ≤ g ∨ own g) : Keep N own w (w.setRow g arr) := by
  refine ⟨rfl, rfl, rfl, by rw [World.setRow_size]; exact Nat.le_refl _, fun k hk ho => World.setRow_get_other ?_⟩
  rintro rfl
  rcases hg with h | h
  · omega
  · exact ho h

theorem seg_get {l : List Value} {o : Nat} {vs : List Value} (ho : o + vs.length ≤ l.length) (i : Nat) :
    (l.take o ++ vs ++ l.drop (o + vs.length))[i]? = if o ≤ i ∧ i < o + vs.length then vs[i - o]? else l[i]? := by
  have hl : (l.take o).length = o := by simp; omega
  by_cases h1 : i < o
  · rw [if_neg (by omega), List.append_assoc, List.getElem?_append_left (by omega), List.getElem?_take, if_pos h1]
  · by_cases h2 : i < o + vs.length
    · rw [if_pos ⟨by omega, h2⟩, List.append_assoc, List.getElem?_append_right (by omega), hl, List.getElem?_append_left (by omega)]
    · rw [if_neg (by omega), List.getElem?_append_right (by simp; omega), List.getElem?_drop]
      congr 1; simp; omega

/-- a block has turned -/
theorem HRel.upd {ρ : Rho} {h : AH} {w w' : World} (H : HRel ρ h w) {b : Nat} {cb : Cb} (hb : ρ b = some cb) {o o' : ABlk} (hg : h.bs.get b = some o) (h8 : 8 ≤ b) (hs : w.heap.size ≤ w'.heap.size)
    (ho : ∀ k, k ≠ cb.blk → w'.heap[k]? = w.heap[k]?) (hR : blkR ρ w'.heap[cb.blk]? cb o') : HRel ρ ⟨Tr.set o' h.bs b, h.next⟩ w' := by
  refine ⟨?_, ?_, H.fresh, ?_, ?_, ?_, H.low, ?_, ?_⟩
  · intro b2 o2 hg2 cb2 hb2
    rw [Tr.get_set] at hg2
    by_cases e : b2 = b
    · subst e
      rw [if_pos rfl] at hg2
      cases hg2
      rw [hb] at hb2; cases hb2
      exact hR
    · rw [if_neg e] at hg2
      have hne : cb2.blk ≠ cb.blk := fun hh => e (H.inj b2 b cb2 cb h8 (by rw [hg2]; simp) (by rw [hg]; simp) hb2 hb hh)
      rw [ho _ hne]
      exact H.blk b2 o2 hg2 cb2 hb2
  · intro b1 b2 c1 c2 g8 g1 g2 q1 q2 hh
    refine H.inj b1 b2 c1 c2 g8 ?_ ?_ q1 q2 hh
    · rw [Tr.get_set] at g1; split at g1
      · subst b1; rw [hg]; simp
      · exact g1
    · rw [Tr.get_set] at g2; split at g2
      · subst b2; rw [hg]; simp
      · exact g2
  · intro b2 hb2
    simp only [Tr.get_set] at *
    have hne : b2 ≠ b := by rintro rfl; have := H.fresh b2 hb2; rw [hb] at this; cases this
    rw [if_neg hne]
    exact H.live b2 hb2
  · intro b2 cb2 hb2
    exact Nat.lt_of_lt_of_le (H.bound b2 cb2 hb2) hs
  · intro b2 o2 hg2 hw
    rw [Tr.get_set] at hg2
    split at hg2
    · subst b2; exact h8
    · exact H.ro b2 o2 hg2 hw
  · intro k arr hk
    have hne : k ≠ cb.blk := by
      rintro rfl
      have := H.sep b o cb hg h8 hb
      rw [this] at hk; cases hk
    rw [ho _ hne]
    exact H.frz k arr hk
  · intro b2 o2 cb2 hg2 g8 hb2
    rw [Tr.get_set] at hg2
    split at hg2
    · subst b2; exact H.sep b o cb2 hg g8 hb2
    · exact H.sep b2 o2 cb2 hg2 g8 hb2

/-- a store of cells -/
theorem HRel.put {P : Program} {ρ : Rho} {h h' : AH} {w : World} {N : Nat} {own : Own} (H : HRel ρ h w) (ho : Owned N own ρ) {b off : Nat} {vs : List AV} (hp : h.put b off vs = some h') {cb : Cb} (hb : ρ b = some cb)
    {cs : List Value} (hv : VRs ρ vs cs) (h1 : ∀ c ∈ cs, c.oneCell' = true) :
    ∃ w', (storeCells ⟨cb.blk, cb.base + off, none⟩ cs).run P w = .ok () w' ∧ HRel ρ h' w' ∧ Keep N own w w' := by
  unfold AH.put at hp
  split at hp
  · rename_i n z t hg
    split at hp
    · rename_i hle
      simp at hp; subst hp
      obtain ⟨arr, elem, e1, e2, e3, e4⟩ := H.rows b n z t hg cb hb
      have hlen := VRs.length hv
      have hle' : off + vs.length ≤ n := by simpa using hle
      have hrun := run_storeCells_at P cb.blk (cb.base + off) elem cs 0 arr w e1 (by omega) h1
      refine ⟨_, hrun, ?_, Keep.setRow w _ (ho b cb (H.ro b _ hg (by intro n f hh; cases hh)) hb)⟩
      have hget : ∀ i, (arr.toList.take (cb.base + off + 0) ++ cs ++ arr.toList.drop (cb.base + off + 0 + cs.length)).toArray[i]? = if cb.base + off ≤ i ∧ i < cb.base + off + cs.length then cs[i - (cb.base + off)]? else arr[i]? := by
        intro i
        rw [List.getElem?_toArray, Nat.add_zero, seg_get (by simp; omega)]
        simp
      refine H.upd hb hg (H.ro b _ hg (by intro n f hh; cases hh)) (by rw [World.setRow_size]; exact Nat.le_refl _) (fun k hk => World.setRow_get_other hk) ⟨_, elem, World.setRow_get_same e1, ?_, e3, fun i v hi => ?_⟩
      · simp; omega
      · have hilt := rowGet_lt hi
        unfold rowGet at hi
        rw [show Nat.blt i n = true by simp [Nat.blt]; omega] at hi
        simp only [Tr.get_setL] at hi
        rw [hget]
        by_cases hin : off ≤ i ∧ i < off + vs.length
        · rw [if_pos hin] at hi
          rw [if_pos (by omega)]
          have : ∃ u, vs[i - off]? = some u := ⟨vs[i - off], List.getElem?_eq_getElem (by omega)⟩
          obtain ⟨u, hu⟩ := this
          rw [hu] at hi; simp at hi; subst hi
          obtain ⟨c, hc, hvc⟩ := VRs.get hv hu
          exact ⟨c, by rw [show cb.base + i - (cb.base + off) = i - off by omega]; exact hc, hvc⟩
        · rw [if_neg hin] at hi
          rw [if_neg (by omega)]
          exact e4 i v (by unfold rowGet; rw [show Nat.blt i n = true by simp [Nat.blt]; omega]; exact hi)
    · simp at hp
  · simp at hp

/-- a new block: which one it becomes -/
def Rho.put (ρ : Rho) (b : Nat) (cb : Cb) : Rho := ⟨fun x => if x = b then some cb else ρ x, ρ.fz⟩

theorem Rho.put_ext {ρ : Rho} {b : Nat} {cb : Cb} (h : ρ b = none) : Ext ρ (ρ.put b cb) := by
  refine ⟨fun x cx hx => ?_, fun _ _ h => h⟩
  show (if x = b then some cb else ρ x) = some cx
  by_cases e : x = b
  · subst e; rw [h] at hx; cases hx
  · rw [if_neg e]; exact hx

theorem Rho.put_ext2 {ρ : Rho} {b : Nat} {cb : Cb} (h : ρ b = none) : Ext2 b ρ (ρ.put b cb) := ⟨Rho.put_ext h, fun x hx => if_neg (by omega)⟩

theorem Rho.put_same {ρ : Rho} {b : Nat} {cb : Cb} : (ρ.put b cb) b = some cb := by simp [Rho.put]
theorem Rho.put_other {ρ : Rho} {b x : Nat} {cb : Cb} (h : x ≠ b) : (ρ.put b cb) x = ρ x := by simp [Rho.put, h]

theorem Owned.put {N : Nat} {own : Own} {ρ : Rho} (h : Owned N own ρ) {b : Nat} {cb : Cb} (hb : N ≤ cb.blk ∨ own cb.blk) : Owned N own (ρ.put b cb) := by
  refine ⟨fun x cx h8 hx => ?_, h.f⟩
  have hx : (if x = b then some cb else ρ x) = some cx := hx
  split at hx
  · cases hx; exact hb
  · exact h x cx h8 hx

theorem World.alloc_get_old {w : World} {o : Obj} {k : Nat} (h : k < w.heap.size) : (w.alloc o).heap[k]? = w.heap[k]? := by
  show (w.heap.push o)[k]? = _
  rw [Array.getElem?_push, if_neg (by omega)]
theorem World.alloc_get_new {w : World} {o : Obj} : (w.alloc o).heap[w.heap.size]? = some o := by
  show (w.heap.push o)[w.heap.size]? = _
  simp

theorem Keep.alloc {N : Nat} {own : Own} (w : World) (o : Obj) (hN : N ≤ w.heap.size) : Keep N own w (w.alloc o) :=
  ⟨rfl, rfl, rfl, by simp, fun k hk _ => World.alloc_get_old (by omega)⟩

theorem Keep.drew {N : Nat} {own : Own} (w : World) : Keep N own w w.drew := ⟨rfl, rfl, rfl, Nat.le_refl _, fun _ _ _ => rfl⟩

theorem HRel.drew {ρ : Rho} {h : AH} {w : World} (H : HRel ρ h w) : HRel ρ h w.drew :=
  ⟨H.blk, H.inj, H.fresh, H.live, H.bound, H.ro, H.low, H.frz, H.sep⟩

theorem mapR.nil {ρ : Rho} : mapR ρ [] ([] : List MapEntry) := rfl

/-- a new block -/
theorem HRel.alloc {ρ : Rho} {h : AH} {w : World} (H : HRel ρ h w) {o : ABlk} {obj : Obj} {tot kn : Nat} (hR : blkR (ρ.put h.next ⟨w.heap.size, 0, tot, kn⟩) (some obj) ⟨w.heap.size, 0, tot, kn⟩ o) :
    HRel (ρ.put h.next ⟨w.heap.size, 0, tot, kn⟩) (h.new o) (w.alloc obj) := by
  have hx := Rho.put_ext (ρ := ρ) (b := h.next) (cb := ⟨w.heap.size, 0, tot, kn⟩) (H.fresh _ (Nat.le_refl _))
  refine ⟨?_, ?_, ?_, ?_, ?_, ?_, Nat.le_trans H.low (Nat.le_succ _), ?_, ?_⟩
  · intro b o2 hg cb hb
    simp only [AH.new, Tr.get_set] at hg
    by_cases e : b = h.next
    · subst e
      rw [if_pos rfl] at hg; cases hg
      rw [Rho.put_same] at hb; cases hb
      rw [World.alloc_get_new]
      exact hR
    · rw [if_neg e] at hg
      rw [Rho.put_other e] at hb
      rw [World.alloc_get_old (H.bound b cb hb)]
      exact (H.blk b o2 hg cb hb).ext hx
  · intro b b' cb cb' g8 g g' hb hb' hh
    simp only [AH.new, Tr.get_set] at g g'
    by_cases e : b = h.next
    · by_cases e' : b' = h.next
      · rw [e, e']
      · subst e
        rw [Rho.put_same] at hb; cases hb
        rw [Rho.put_other e'] at hb'
        have := H.bound b' cb' hb'
        simp at hh; omega
    · by_cases e' : b' = h.next
      · subst e'
        rw [Rho.put_same] at hb'; cases hb'
        rw [Rho.put_other e] at hb
        have := H.bound b cb hb
        simp at hh; omega
      · rw [if_neg e] at g; rw [if_neg e'] at g'
        rw [Rho.put_other e] at hb; rw [Rho.put_other e'] at hb'
        exact H.inj b b' cb cb' g8 g g' hb hb' hh
  · intro b hb
    simp only [AH.new] at hb
    rw [Rho.put_other (by omega)]
    exact H.fresh b (by omega)
  · intro b hb
    simp only [AH.new] at hb ⊢
    rw [Tr.get_set, if_neg (by omega)]
    exact H.live b (by omega)
  · intro b cb hb
    rw [World.size_alloc]
    by_cases e : b = h.next
    · subst e; rw [Rho.put_same] at hb; cases hb; simp
    · rw [Rho.put_other e] at hb
      have := H.bound b cb hb
      omega
  · intro b o2 hg hw
    simp only [AH.new, Tr.get_set] at hg
    split at hg
    · subst b; exact H.low
    · exact H.ro b o2 hg hw
  · intro k arr hk
    obtain ⟨elem, f, h1⟩ := H.frz k arr hk
    exact ⟨elem, f, by rw [World.alloc_get_old (Array.getElem?_eq_some_iff.mp h1).1]; exact h1⟩
  · intro b o2 cb hg g8 hb
    simp only [AH.new, Tr.get_set] at hg
    by_cases e : b = h.next
    · subst e
      rw [Rho.put_same] at hb; cases hb
      cases hf : ρ.fz w.heap.size with
      | none => exact hf
      | some arr =>
        obtain ⟨elem, f, h1⟩ := H.frz _ arr hf
        have := (Array.getElem?_eq_some_iff.mp h1).1
        omega
    · rw [if_neg e] at hg
      rw [Rho.put_other e] at hb
      exact H.sep b o2 cb hg g8 hb

/-- a new row of cells: n of them are known, of tot that there are -/
theorem HRel.newRow {ρ : Rho} {h : AH} {w : World} (H : HRel ρ h w) (n : Nat) (z : List AV) (t : Tr AV) (arr : Array Value) (elem : TypeId)
    (hn : n ≤ arr.size) (hz : ∀ i v, rowGet n z t i = some v → ∃ c, arr[i]? = some c ∧ VR ρ v c) :
    HRel (ρ.put h.next ⟨w.heap.size, 0, arr.size, 0⟩) (h.new (.row n z t)) (w.alloc (.cells arr elem)) := by
  have hx := Rho.put_ext (ρ := ρ) (b := h.next) (cb := ⟨w.heap.size, 0, arr.size, 0⟩) (H.fresh _ (Nat.le_refl _))
  exact H.alloc ⟨arr, elem, rfl, rfl, by simpa using hn, fun i v hi => by
        obtain ⟨c, hc, hv⟩ := hz i v hi
        exact ⟨c, by simpa using hc, hv.ext hx⟩⟩

/-- a new map -/
theorem HRel.newMap {ρ : Rho} {h : AH} {w : World} (H : HRel ρ h w) :
    HRel (ρ.put h.next ⟨w.heap.size, 0, 0, 0⟩) (h.new (.map [] 0)) (w.alloc (.map #[] 0)) := H.alloc ⟨#[], rfl, rfl⟩

end Go.EV
