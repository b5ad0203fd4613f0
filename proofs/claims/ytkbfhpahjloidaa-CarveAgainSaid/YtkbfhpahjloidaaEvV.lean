/- Own text of this claim: an abstract machine over the given program form, and what follows from it. No condition. -/
import Derived.Test.YtkbfhpahjloidaaEvU
set_option linter.unusedVariables false
set_option linter.unusedSimpArgs false
namespace Go.EV

/-! blocks that are forgotten, and others that get their numbers -/
mutual
/-- all blocks that a value names are below n -/
def idsB (n : Nat) : AV → Bool
  | .ptr b _ => Nat.blt b n
  | .sl b _ _ _ _ => Nat.blt b n
  | .mp b => Nat.blt b n
  | .yld b => Nat.blt b n
  | .fn _ f c => idsBs n f && idsBs n c
  | .agg cs => idsBs n cs
  | .tup vs => idsBs n vs
  | _ => true
def idsBs (n : Nat) : List AV → Bool
  | [] => true
  | v :: vs => idsB n v && idsBs n vs
end
mutual
/-- other numbers for blocks -/
def ren (g : Nat → Nat) : AV → AV
  | .ptr b o => .ptr (g b) o
  | .sl b o l c e => .sl (g b) o l c e
  | .mp b => .mp (g b)
  | .yld b => .yld (g b)
  | .fn f a c => .fn f (rens g a) (rens g c)
  | .agg cs => .agg (rens g cs)
  | .tup vs => .tup (rens g vs)
  | v => v
def rens (g : Nat → Nat) : List AV → List AV
  | [] => []
  | v :: vs => ren g v :: rens g vs
end

theorem blt_lt {a b : Nat} (h : Nat.blt a b = true) : a < b := by simp [Nat.blt] at h; omega

mutual
theorem VR.ren {g : Nat → Nat} {n : Nat} {ρ ρ' : Rho} (h : ∀ b, b < n → ρ' b = ρ (g b)) : ∀ {v : AV} {c : Value}, idsB n v = true → VR ρ (EV.ren g v) c → VR ρ' v c
  | .int _ _, _, _, e => by simpa only [VR, EV.ren] using e
  | .bool _, _, _, e => by simpa only [VR, EV.ren] using e
  | .str _, _, _, e => by simpa only [VR, EV.ren] using e
  | .ptr _ _, _, i, e => by
    simp only [VR, EV.ren, idsB] at e i ⊢
    obtain ⟨cb, h1, h2⟩ := e
    exact ⟨cb, by rw [h _ (blt_lt i)]; exact h1, h2⟩
  | .nilptr, _, _, e => by simpa only [VR, EV.ren] using e
  | .sl _ _ _ _ _, _, i, e => by
    simp only [VR, EV.ren, idsB] at e i ⊢
    obtain ⟨cb, k, h1, h2⟩ := e
    exact ⟨cb, k, by rw [h _ (blt_lt i)]; exact h1, h2⟩
  | .nilsl, _, _, e => by simpa only [VR, EV.ren] using e
  | .slz _, _, _, e => by simpa only [VR, EV.ren] using e
  | .mp _, _, i, e => by
    simp only [VR, EV.ren, idsB] at e i ⊢
    obtain ⟨cb, h1, h2⟩ := e
    exact ⟨cb, by rw [h _ (blt_lt i)]; exact h1, h2⟩
  | .nilmap, _, _, e => by simpa only [VR, EV.ren] using e
  | .fn _ a cp, _, i, e => by
    simp only [VR, EV.ren, idsB, Bool.and_eq_true] at e i ⊢
    obtain ⟨as, cs, h1, h2, h3⟩ := e
    exact ⟨as, cs, h1, VRs.ren h i.1 h2, VRs.ren h i.2 h3⟩
  | .nilfn, _, _, e => by simpa only [VR, EV.ren] using e
  | .yld _, _, i, e => by
    simp only [VR, EV.ren, idsB] at e i ⊢
    obtain ⟨cb, h1, h2⟩ := e
    exact ⟨cb, by rw [h _ (blt_lt i)]; exact h1, h2⟩
  | .agg _, _, i, e => by
    simp only [VR, EV.ren, idsB] at e i ⊢
    obtain ⟨as, h1, h2⟩ := e
    exact ⟨as, h1, VRs.ren h i h2⟩
  | .tup _, _, i, e => by
    simp only [VR, EV.ren, idsB] at e i ⊢
    obtain ⟨as, h1, h2⟩ := e
    exact ⟨as, h1, VRs.ren h i h2⟩
theorem VRs.ren {g : Nat → Nat} {n : Nat} {ρ ρ' : Rho} (h : ∀ b, b < n → ρ' b = ρ (g b)) : ∀ {vs : List AV} {l : List Value}, idsBs n vs = true → VRs ρ (rens g vs) l → VRs ρ' vs l
  | [], _, _, e => by simpa only [VRs, rens] using e
  | v :: vs, _, i, e => by
    simp only [VRs, rens, idsBs, Bool.and_eq_true] at e i ⊢
    obtain ⟨c, cs, h1, h2, h3⟩ := e
    exact ⟨c, cs, h1, VR.ren h i.1 h2, VRs.ren h i.2 h3⟩
end

/-- a block, and what it was -/
def RB (g : Nat → Nat) (n : Nat) : ABlk → ABlk → Prop
  | .row m z t, .row m' z' t' => m' = m ∧ ∀ i v, rowGet m z' t' i = some v → idsB n v = true ∧ rowGet m z t i = some (ren g v)
  | .ro m f, .ro m' f' => m' = m ∧ ∀ i, i < m → idsB n (f' i) = true ∧ f i = ren g (f' i)
  | .map es k, .map es' k' => k' = k ∧ es' = es ∧ ∀ e ∈ es, idsB n e.1 = true ∧ idsB n e.2.1 = true ∧ ren g e.1 = e.1 ∧ ren g e.2.1 = e.2.1
  | _, _ => False

/-- what is to be done names no block -/
def plainI : AItem → Bool
  | .inRF _ => false
  | .endRF _ => false
  | .dreg _ _ _ _ _ _ => false
  | _ => true
def plainL : List AItem → Bool
  | [] => true
  | x :: l => plainI x && plainL l

/-- a frame, and what it was -/
structure RF' (g : Nat → Nat) (n : Nat) (a a' : AFr) : Prop where
  fn : a'.fn = a.fn
  ctl : a'.ctl = a.ctl
  rnd : a.ctl.rnd = none
  marks : a.ctl.marks = []
  size : a'.n = a.n
  todo : a'.todo = a.todo
  plain : plainL a.todo = true
  tmps : ∀ t v, a'.tmps.get t = some v → idsB n v = true ∧ a.tmps.get t = some (ren g v)

theorem plain_ir {ρ ρ' : Rho} : ∀ {k : List AItem} {l : List Item}, plainL k = true → All2 (IR ρ) k l → All2 (IR ρ') k l
  | [], _, _, h => by cases h; exact .nil
  | x :: k, _, hp, h => by
    obtain ⟨y, r, rfl, hxy, hr⟩ := h.get
    simp only [plainL, Bool.and_eq_true] at hp
    refine .cons ?_ (plain_ir hp.2 hr)
    revert hxy
    have hx := hp.1
    cases x <;> cases y <;> simp only [IR] <;> first
      | exact fun h => h
      | (simp [plainI] at hx)

theorem RF'.rel {g : Nat → Nat} {n : Nat} {a a' : AFr} (R : RF' g n a a') {ρ ρ' : Rho} (h : ∀ b, b < n → ρ' b = ρ (g b)) {f : Frame} (F : FRp ρ a f) : FRp ρ' a' f := by
  refine ⟨by rw [R.fn]; exact F.fn, F.mode, F.kind, ?_, ?_, by rw [R.size]; exact F.size, fun t v ht => ?_, by rw [R.todo]; exact plain_ir R.plain F.todo⟩
  · have := F.defers
    rw [R.marks] at this
    rw [R.ctl, R.marks]; exact this
  · have := F.round
    rw [R.rnd] at this
    rw [R.ctl, R.rnd]; exact this
  · obtain ⟨h1, h2⟩ := R.tmps t v ht
    obtain ⟨c, h3, h4⟩ := F.tmps t _ h2
    exact ⟨c, h3, VR.ren h h1 h4⟩
theorem plain_nd {k : List AItem} (h : plainL k = true) : ∀ ops all done floats rest wait r, k ≠ .dreg ops all done floats rest wait :: r := by
  rintro ops all done floats rest wait r rfl
  simp [plainL, plainI] at h

theorem below_rel {P : Program} {g : Nat → Nat} {n : Nat} {ρ ρ' : Rho} {n0 : Nat} (h : ∀ b, b < n → ρ' b = ρ (g b)) (hn : n0 ≤ n) : ∀ {as as' : List AFr} {l : List Frame} {B : Nat}, All2 (RF' g n) as as' → SR P ρ n0 B as l → SR P ρ' n0 n as' l
  | [], _, _, _, hA, H => by cases hA; exact ⟨H.1, hn⟩
  | a :: as, _, _, _, hA, H => by
    obtain ⟨a', r, rfl, R, hr⟩ := hA.get
    obtain ⟨f, fs, B', rfl, h1, F, S⟩ := H
    have F : FRp ρ a f := plain_frame F (plain_nd R.plain)
    exact ⟨f, fs, n, rfl, Nat.le_refl _, .inl (R.rel h F), below_rel h hn hr S⟩

theorem bot_eq : ∀ {as as' : List AFr} {g : Nat → Nat} {n : Nat} {a a' : AFr}, a'.fn = a.fn → All2 (RF' g n) as as' → EV.bot a' as' = EV.bot a as
  | [], _, g, n, a, a', h, hA => by cases hA; exact h
  | b :: as, _, g, n, a, a', h, hA => by
    obtain ⟨b', r, rfl, R, hr⟩ := hA.get
    have := bot_eq (a := b) (a' := b') R.fn hr
    exact this

/-- the same state, with other numbers for blocks, and fewer of them -/
theorem lead_ren {P : Program} {g : Nat → Nat} {m m' : AM} (h8 : 8 ≤ m'.heap.next) (g1 : ∀ b, b < 8 → g b = b) (g2 : ∀ b, 8 ≤ b → b < m'.heap.next → 8 ≤ g b) (g3 : ∀ b b', 8 ≤ b → 8 ≤ b' → b < m'.heap.next → b' < m'.heap.next → g b = g b' → b = b')
    (ht : RF' g m'.heap.next m.top m'.top) (hb : All2 (RF' g m'.heap.next) m.below m'.below) (hlive : ∀ b, m'.heap.next ≤ b → m'.heap.bs.get b = none)
    (hh : ∀ b o, m'.heap.bs.get b = some o → ∃ o0, m.heap.bs.get (g b) = some o0 ∧ RB g m'.heap.next o0 o) : Lead P m m' := by
  intro N own w0 cs0 f0 ρ0 n0 fr cs w l1 l2 M
  obtain ⟨ρ, cfs, B, hB, H, F, SS, hcs, O, X⟩ := M.ex
  have F : FRp ρ m.top fr := plain_frame F (plain_nd ht.plain)
  let ρ' : Rho := fun b => if b < m'.heap.next then ρ (g b) else none
  have hρ : ∀ b, b < m'.heap.next → ρ' b = ρ (g b) := fun b hb => if_pos hb
  have hlt : ∀ {b cb}, ρ' b = some cb → b < m'.heap.next ∧ ρ (g b) = some cb := by
    intro b cb hcb
    by_cases e : b < m'.heap.next
    · rw [hρ b e] at hcb; exact ⟨e, hcb⟩
    · have : ρ' b = none := if_neg e
      rw [this] at hcb; cases hcb
  have hbl : ∀ {b o}, m'.heap.bs.get b = some o → b < m'.heap.next := by
    intro b o hg
    rcases Nat.lt_or_ge b m'.heap.next with h1 | h1
    · exact h1
    · rw [hlive b h1] at hg; cases hg
  have H' : HRel ρ' m'.heap w := by
    refine ⟨?_, ?_, fun b hb => if_neg (by omega), hlive, ?_, ?_, h8⟩
    · intro b o hg cb hcb
      obtain ⟨e1, e2⟩ := hlt hcb
      obtain ⟨o0, q1, q2⟩ := hh b o hg
      have q3 := H.blk (g b) o0 q1 cb e2
      cases o0 with
      | row n z t => cases o with
        | row n' z' t' =>
          obtain ⟨rfl, q4⟩ := q2
          obtain ⟨arr, elem, k1, k2, k3, k4⟩ := q3
          refine ⟨arr, elem, k1, k2, k3, fun i v hi => ?_⟩
          obtain ⟨r1, r2⟩ := q4 i v hi
          obtain ⟨c, r3, r4⟩ := k4 i _ r2
          exact ⟨c, r3, VR.ren hρ r1 r4⟩
        | _ => cases q2
      | ro n f => cases o with
        | ro n' f' =>
          obtain ⟨rfl, q4⟩ := q2
          obtain ⟨arr, elem, fz, k1, k2, k3, k4⟩ := q3
          refine ⟨arr, elem, fz, k1, k2, k3, fun i hi => ?_⟩
          obtain ⟨r1, r2⟩ := q4 i hi
          obtain ⟨c, r3, r4⟩ := k4 i hi
          rw [r2] at r4
          exact ⟨c, r3, VR.ren hρ r1 r4⟩
        | _ => cases q2
      | map es k => cases o with
        | map es' k' =>
          obtain ⟨rfl, rfl, q4⟩ := q2
          obtain ⟨ces, k1, k2⟩ := q3
          refine ⟨ces, k1, ?_⟩
          have : ∀ (es : List (AV × AV × Nat)) (l : List MapEntry), (∀ e ∈ es, idsB m'.heap.next e.1 = true ∧ idsB m'.heap.next e.2.1 = true ∧ ren g e.1 = e.1 ∧ ren g e.2.1 = e.2.1) → mapR ρ es l → mapR ρ' es l := by
            intro es
            induction es with
            | nil => exact fun l _ h => h
            | cons e es ih =>
              intro l he h
              obtain ⟨a, b, c⟩ := e
              obtain ⟨x, r, r1, r2, r3, r4, r5⟩ := h
              obtain ⟨i1, i2, i3, i4⟩ := he (a, b, c) (by simp)
              simp only at i1 i2 i3 i4
              exact ⟨x, r, r1, VR.ren hρ i1 (by rw [i3]; exact r2), VR.ren hρ i2 (by rw [i4]; exact r3), r4, ih r (fun e he' => he e (by simp [he'])) r5⟩
          exact this _ _ q4 k2
        | _ => cases q2
      | _ => cases q2
    · intro b b' cb cb' g8 gx gy qx qy hhb
      obtain ⟨e1, e2⟩ := hlt qx
      obtain ⟨e3, e4⟩ := hlt qy
      obtain ⟨o, ho⟩ : ∃ o, m'.heap.bs.get b = some o := by
        cases hq : m'.heap.bs.get b with
        | none => exact absurd hq gx
        | some o => exact ⟨o, rfl⟩
      obtain ⟨o', ho'⟩ : ∃ o, m'.heap.bs.get b' = some o := by
        cases hq : m'.heap.bs.get b' with
        | none => exact absurd hq gy
        | some o => exact ⟨o, rfl⟩
      obtain ⟨o0, q1, _⟩ := hh b o ho
      obtain ⟨o0', q1', _⟩ := hh b' o' ho'
      have hgg := H.inj (g b) (g b') cb cb' (g2 b' g8 e3) (by rw [q1]; simp) (by rw [q1']; simp) e2 e4 hhb
      rcases Nat.lt_or_ge b 8 with hb8 | hb8
      · have := g1 b hb8
        have := g2 b' g8 e3
        omega
      · exact g3 b b' hb8 g8 e1 e3 hgg
    · intro b cb hcb
      exact H.bound _ _ (hlt hcb).2
    · intro b o hg hw
      rcases Nat.lt_or_ge b 8 with hb8 | hb8
      · exfalso
        obtain ⟨o0, q1, q2⟩ := hh b o hg
        rw [g1 b hb8] at q1
        have hr : ∀ n f, o0 ≠ .ro n f := by
          rintro n f rfl
          cases o with
          | ro n' f' => exact hw n' f' rfl
          | _ => cases q2
        have := H.ro b o0 q1 hr
        omega
      · exact hb8
  have X' : Ext2 n0 ρ0 ρ' := by
    refine ⟨fun b cb hcb => ?_, fun b hb => ?_⟩
    · have hb : b < 8 := by
        rcases Nat.lt_or_ge b 8 with h1 | h1
        · exact h1
        · rw [l2 b h1] at hcb; cases hcb
      rw [hρ b (by omega), g1 b hb]
      exact X.1 b cb hcb
    · rw [hρ b (by omega), g1 b (by omega)]
      exact X.2 b hb
  have O' : Owned N own ρ' := by
    intro b cb hb8 hcb
    obtain ⟨e1, e2⟩ := hlt hcb
    exact O (g b) cb (g2 b hb8 e1) e2
  have F' := ht.rel hρ F
  refine ⟨fr, cs, w, Steps.refl _ _, ⟨⟨ρ', cfs, m'.heap.next, Nat.le_refl _, H', .inl F', below_rel hρ (by omega) hb SS, hcs, O', X'⟩, topok_plain F' _, M.keep, M.size, ?_⟩⟩
  rw [bot_eq ht.fn hb]
  exact M.bot
end Go.EV
