/- Own text of this claim: an abstract machine over the given program form, and what follows from it. No condition. -/
import Derived.Test.YtkbfhpahjloidaaEvW
set_option linter.unusedVariables false
set_option linter.unusedSimpArgs false
namespace Go.EV

/-- what a contract of a call must say of it, in any memory -/
def CallOk (P : Program) (f : FuncId) (args : List AV) (h : AH) (v : AV) (g : Option AH) : Prop := h.next ≤ (behind h g).next ∧
  ∀ (N : Nat) (own : Nat → Prop) (ρ : Rho) (w : World) (cargs : List Value), HRel ρ h w → VRs ρ args cargs → Owned N own ρ → N ≤ w.heap.size →
    Calls P f cargs.toArray w fun e w' => ∃ ρ' c, e = .returned c ∧ VR ρ' v c ∧ HRel ρ' (behind h g) w' ∧ Keep N own w w' ∧ Owned N own ρ' ∧ Ext2 h.next ρ ρ'

/-- one function more, by a contract with a check -/
noncomputable def addT (S : Sum) (f : FuncId) (F : List AV → AH → Option (AV × Option AH × Option Bool)) : TSum := fun g a h => match Nat.beq g f with
  | true => F a h
  | false => toT S g a h

theorem Good.addT {P : Program} {S : Sum} (G : Good P S) {f : FuncId} {F : List AV → AH → Option (AV × Option AH × Option Bool)} (hb : hasBody P f = true)
    (h1 : ∀ a h v g, F a h = some (v, g, none) → CallOk P f a h v g) (h2 : ∀ a h v g, F a h = some (v, g, some true) → CallOk P f a h v g) : Good P (cutT (EV.addT S f F)) where
  sum g a h v k e := by
    unfold cutT EV.addT at e
    cases hg : Nat.beq g f with
    | true =>
      have hg := Nat.eq_of_beq_eq_true hg
      subst hg
      simp only [Nat.beq_refl] at e
      split at e
      · rename_i hF
        simp only [Option.some.injEq, Prod.mk.injEq] at e
        obtain ⟨rfl, rfl⟩ := e
        exact h1 _ _ _ _ hF
      · rename_i hF
        simp only [Option.some.injEq, Prod.mk.injEq] at e
        obtain ⟨rfl, rfl⟩ := e
        exact h2 _ _ _ _ hF
      · cases e
    | false =>
      simp only [hg] at e
      have e : cutT (toT S) g a h = some (v, k) := e
      rw [cutT_toT] at e
      exact G.sum _ _ _ _ _ e
  body g a h v k e := by
    unfold cutT EV.addT at e
    cases hg : Nat.beq g f with
    | true =>
      have hg := Nat.eq_of_beq_eq_true hg
      subst hg
      unfold hasBody at hb
      split at hb
      · rename_i fn hfn; exact ⟨fn, hfn, hb⟩
      · cases hb
    | false =>
      simp only [hg] at e
      have e : cutT (toT S) g a h = some (v, k) := e
      rw [cutT_toT] at e
      exact G.body _ _ _ _ _ e
  num := G.num
  mix := G.mix

theorem VRs.split {ρ : Rho} {a : AV} : ∀ {pre : List AV} {l : List Value}, VRs ρ (pre ++ [a]) l → ∃ l1 cl, l = l1 ++ [cl] ∧ VRs ρ pre l1 ∧ VR ρ a cl
  | [], l, hl => by
    simp only [List.nil_append, VRs] at hl
    obtain ⟨c, cs, rfl, q, rfl⟩ := hl
    exact ⟨[], c, rfl, by simp only [VRs], q⟩
  | x :: pre, l, hl => by
    simp only [List.cons_append, VRs] at hl
    obtain ⟨c, cs, rfl, q, q2⟩ := hl
    obtain ⟨l1, cl, rfl, q3, q4⟩ := VRs.split q2
    exact ⟨c :: l1, cl, rfl, by simp only [VRs]; exact ⟨c, l1, rfl, q, q3⟩, q4⟩
theorem VRs.join {ρ : Rho} {a : AV} {cl : Value} : ∀ {pre : List AV} {l1 : List Value}, VRs ρ pre l1 → VR ρ a cl → VRs ρ (pre ++ [a]) (l1 ++ [cl])
  | [], l1, q1, q2 => by
    simp only [VRs] at q1
    subst q1
    simp only [List.nil_append, VRs]
    exact ⟨cl, [], rfl, q2, rfl⟩
  | x :: pre, l1, q1, q2 => by
    simp only [VRs] at q1
    obtain ⟨c, cs, rfl, q3, q4⟩ := q1
    simp only [List.cons_append, VRs]
    exact ⟨c, _, rfl, q3, VRs.join q4 q2⟩

/-- a contract over one row, in any memory that has such a row -/
theorem make_ok {P : Program} {f : FuncId} {pre : List AV} {b off n len : Nat} {cap : Option Nat} {esz : Nat} {fr : Nat → AV} {v v' : AV} {h h2 h' : AH}
    (hpre : scalars pre = true) (hC : MakeCall P f [(n, fr)] (pre ++ [.sl 0 0 len none esz]) v h2) (hh : Holds h b off n fr) (hs : ∀ j, j < n → scalar (fr j) = true)
    (hnx : h'.next = h.next + (h2.next - 8)) (hold : ∀ x, x < h.next → h'.bs.get x = h.bs.get x) (hlive : (∀ x, h.next ≤ x → h.bs.get x = none) → ∀ x, h'.next ≤ x → h'.bs.get x = none)
    (hnew : (∀ x, h.next ≤ x → h.bs.get x = none) → ∀ x o, h.next ≤ x → h'.bs.get x = some o → h2.bs.get (x - h.next + 8) = some o ∧ ∃ n z t, o = .row n z t ∧ ∀ i v, rowGet n z t i = some v → scalar v = true)
    (hv : v = ren (fun x => x - h.next + 8) v') (hi : idsP (fun x => Nat.ble h.next x && Nat.blt x h'.next) v' = true) : CallOk P f (pre ++ [.sl b off len cap esz]) h v' (some h') := by
  refine ⟨by show h.next ≤ h'.next; omega, fun N own ρ w cargs H hargs O hN => ?_⟩
  obtain ⟨la, cl, rfl, ha, hsl⟩ := VRs.split hargs
  simp only [VR] at hsl
  obtain ⟨cb, kk, hbb, rfl, s1, s2, s3⟩ := hsl
  have H1 := one_row H hh hs hbb
  have hargs2 := VRs.join (ρ := fun i => if i = 0 then some ⟨cb.blk, cb.base + off, cb.tot⟩ else none) (a := .sl 0 0 len none esz) (VRs.scalars hpre ha) (by
    simp only [VR]
    exact ⟨⟨cb.blk, cb.base + off, cb.tot⟩, kk, by simp, rfl, s1, by simpa using s2, by simp⟩)
  refine (hC _ w _ H1 hargs2).mono ?_
  rintro e w' ⟨ρs, cv, rfl, v1, v2, v3, v4, v5⟩
  have hG := glue H v2 v3 v4 hnx hold (hlive H.live) (hnew H.live)
  have hext : Ext ρ (fun b => if b < h.next then ρ b else if b < h'.next then ρs (b - h.next + 8) else none) := by
    intro x cx hx
    have : x < h.next := by
      rcases Nat.lt_or_ge x h.next with h1 | h1
      · exact h1
      · rw [H.fresh x h1] at hx; cases hx
    simp only [if_pos this]; exact hx
  refine ⟨_, cv, rfl, ?_, hG, v3.all N own hN, ?_, hext, fun x hx => if_pos hx⟩
  · rw [hv] at v1
    refine VR.renP (p := fun x => Nat.ble h.next x && Nat.blt x h'.next) (fun x hx => ?_) hi v1
    simp only [Bool.and_eq_true, Nat.ble_eq] at hx
    have := blt_lt hx.2
    simp only [if_neg (show ¬ x < h.next by omega), if_pos this]
  · intro x cx h8 hx
    by_cases e : x < h.next
    · simp only [if_pos e] at hx
      exact O x cx h8 hx
    · simp only [if_neg e] at hx
      split at hx
      · rcases v4 _ cx (by omega) hx with q | q
        · exact .inl (Nat.le_trans hN q)
        · exact q.elim
      · cases hx

/-- a contract of a call that only reads one row -/
theorem read_ok {P : Program} {f : FuncId} {pre : List AV} {b off n len : Nat} {cap : Option Nat} {esz : Nat} {fr : Nat → AV} {v : AV} {h : AH}
    (hpre : scalars pre = true) (hC : ReadCall P f [(n, fr)] (pre ++ [.sl 0 0 len none esz]) v) (hh : Holds h b off n fr) (hs : ∀ j, j < n → scalar (fr j) = true) (hv : scalar v = true) : CallOk P f (pre ++ [.sl b off len cap esz]) h v none := by
  refine ⟨Nat.le_refl _, fun N own ρ w cargs H hargs O hN => ?_⟩
  obtain ⟨la, cl, rfl, ha, hsl⟩ := VRs.split hargs
  simp only [VR] at hsl
  obtain ⟨cb, kk, hbb, rfl, s1, s2, s3⟩ := hsl
  have H1 := one_row H hh hs hbb
  have hargs2 := VRs.join (ρ := fun i => if i = 0 then some ⟨cb.blk, cb.base + off, cb.tot⟩ else none) (a := .sl 0 0 len none esz) (VRs.scalars hpre ha) (by
    simp only [VR]
    exact ⟨⟨cb.blk, cb.base + off, cb.tot⟩, kk, by simp, rfl, s1, by simpa using s2, by simp⟩)
  refine (hC w.heap.size (fun _ => False) _ w _ H1 hargs2 (Nat.le_refl _)).mono ?_
  rintro e w' ⟨c, rfl, h1, h2⟩
  exact ⟨ρ, c, rfl, VR.scalar hv h1, H.kept h2, h2.all N own hN, O, Ext2.refl _ _⟩
end Go.EV
