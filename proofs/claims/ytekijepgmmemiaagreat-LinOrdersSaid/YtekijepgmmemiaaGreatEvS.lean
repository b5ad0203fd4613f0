/- Own text of this claim: an abstract machine over the given program form, and what follows from it. No condition. -/
import Derived.Test.YtekijepgmmemiaaGreatEvH
set_option linter.unusedVariables false
set_option linter.unusedSimpArgs false
namespace Go.EV

mutual
/-- a value without memory -/
def scalar : AV → Bool
  | .int _ _ | .bool _ | .str _ | .nilptr | .nilsl | .slz _ | .nilmap | .nilfn => true
  | .agg cs => scalars cs
  | .tup vs => scalars vs
  | _ => false
def scalars : List AV → Bool
  | [] => true
  | v :: vs => scalar v && scalars vs
end

mutual
theorem VR.scalar {ρ ρ' : Rho} : ∀ {v : AV} {c : Value}, scalar v = true → VR ρ v c → VR ρ' v c
  | .int _ _, _, _, e => by simpa only [VR] using e
  | .bool _, _, _, e => by simpa only [VR] using e
  | .str _, _, _, e => by simpa only [VR] using e
  | .nilptr, _, _, e => by simpa only [VR] using e
  | .nilsl, _, _, e => by simpa only [VR] using e
  | .slz _, _, _, e => by simpa only [VR] using e
  | .nilmap, _, _, e => by simpa only [VR] using e
  | .nilfn, _, _, e => by simpa only [VR] using e
  | .agg _, _, h, e => by
    simp only [VR] at e ⊢
    obtain ⟨as, h1, h2⟩ := e
    exact ⟨as, h1, VRs.scalars (by simpa only [EV.scalar] using h) h2⟩
  | .tup _, _, h, e => by
    simp only [VR] at e ⊢
    obtain ⟨as, h1, h2⟩ := e
    exact ⟨as, h1, VRs.scalars (by simpa only [EV.scalar] using h) h2⟩
  | .ptr _ _, _, h, _ => by simp [EV.scalar] at h
  | .sl _ _ _ _ _, _, h, _ => by simp [EV.scalar] at h
  | .mp _, _, h, _ => by simp [EV.scalar] at h
  | .fn _ _ _, _, h, _ => by simp [EV.scalar] at h
  | .yld _, _, h, _ => by simp [EV.scalar] at h
  | .ls _ _ _ _, _, h, _ => by simp [EV.scalar] at h
  | .lp _ _, _, h, _ => by simp [EV.scalar] at h
  | .ep _ _ _ _, _, h, _ => by simp [EV.scalar] at h
  | .es _ _ _ _ _, _, h, _ => by simp [EV.scalar] at h
theorem VRs.scalars {ρ ρ' : Rho} : ∀ {vs : List AV} {cs : List Value}, scalars vs = true → VRs ρ vs cs → VRs ρ' vs cs
  | [], _, _, e => by simpa only [VRs] using e
  | v :: vs, _, h, e => by
    simp only [VRs] at e ⊢
    simp only [EV.scalars, Bool.and_eq_true] at h
    obtain ⟨c, cs, h1, h2, h3⟩ := e
    exact ⟨c, cs, h1, VR.scalar h.1 h2, VRs.scalars h.2 h3⟩
end

theorem HRel.kept {ρ : Rho} {h : AH} {w w' : World} (H : HRel ρ h w) (k : Keep w.heap.size Own.no w w') : HRel ρ h w' where
  blk b o hg cb hb := by
    rw [k.block _ (H.bound b cb hb) (fun x => x)]
    exact H.blk b o hg cb hb
  inj := H.inj
  fresh := H.fresh
  live := H.live
  bound b cb hb := Nat.lt_of_lt_of_le (H.bound b cb hb) k.size
  ro := H.ro
  low := H.low
  frz b arr hb := by
    obtain ⟨elem, f, h1⟩ := H.frz b arr hb
    exact ⟨elem, f, by rw [k.block _ (Array.getElem?_eq_some_iff.mp h1).1 (fun x => x)]; exact h1⟩
  sep := H.sep

theorem Keep.all {w w' : World} (k : Keep w.heap.size Own.no w w') (N : Nat) (own : Own) (hN : N ≤ w.heap.size) : Keep N own w w' :=
  ⟨k.os, k.tape, k.output, k.size, fun i hi _ => k.block i (Nat.lt_of_lt_of_le hi hN) (fun x => x)⟩

/-- a call of scalars that answers a scalar, whatever memory there is -/
def PureCall (P : Program) (f : FuncId) (args : List AV) (v : AV) : Prop :=
  ∀ (N : Nat) (own : Own) (ρ : Rho) (w : World) (cargs : List Value), VRs ρ args cargs → N ≤ w.heap.size →
    Calls P f cargs.toArray w fun e w' => ∃ c, e = .returned c ∧ VR ρ v c ∧ Keep w.heap.size Own.no w w'

theorem pure_of_run {P : Program} {S : Sum} (G : Good P S) {f : FuncId} {args : List AV} {hs : Hints} {k : Nat} {v : AV} {h : AH} {l : Log} (hr : runF P S f args .empty hs k = some (v, h, l)) (hl : LogOk l)
    (ha : scalars args = true) (hv : scalar v = true) : PureCall P f args v := by
  intro N own ρ w cargs hc hN
  unfold runF at hr
  split at hr
  · rename_i m hm
    split at hr
    · rename_i v' h' l' hrun
      simp only [Option.some.injEq, Prod.mk.injEq] at hr
      obtain ⟨rfl, rfl, rfl⟩ := hr
      have := calls_of_run G hm hrun hl w.heap.size Own.no rho0 w cargs (HRel.empty w) (VRs.scalars ha hc) Owned.rho0 (Nat.le_refl _)
      refine this.mono ?_
      rintro e w' ⟨ρ', c, rfl, h1, _, h3, _⟩
      exact ⟨c, rfl, VR.scalar hv h1, h3⟩
    · cases hr
  · cases hr

/-- one more function whose answers are known -/
def Sum.add (S : Sum) (g : Nat) (F : List AV → Option AV) : Sum := fun f args h =>
  match Nat.beq f g with
  | true => match F args with
    | some v => some (v, none)
    | none => none
  | false => S f args h

def hasBody (P : Program) (g : FuncId) : Bool := match P.funcs[g]? with | some fn => fn.body.isSome | none => false

theorem Good.add {P : Program} {S : Sum} (G : Good P S) {g : Nat} {F : List AV → Option AV} (hF : ∀ args v, F args = some v → PureCall P g args v) (hb : hasBody P g = true) : Good P (S.add g F) where
  sum f args h v h' e := by
    unfold Sum.add at e
    split at e
    · rename_i hfg
      have hfg : f = g := Nat.eq_of_beq_eq_true hfg
      subst hfg
      split at e
      · rename_i v' hv'
        simp only [Option.some.injEq, Prod.mk.injEq] at e
        obtain ⟨rfl, rfl⟩ := e
        refine ⟨Nat.le_refl _, fun N own ρ w cargs H hc O hN => ?_⟩
        refine (hF _ _ hv' N own ρ w cargs hc hN).mono ?_
        rintro e w' ⟨c, rfl, h1, h2⟩
        exact ⟨ρ, c, rfl, h1, H.kept h2, h2.all N own hN, O, Ext2.refl _ _⟩
      · cases e
    · exact G.sum f args h v h' e
  body f args h v h' e := by
    unfold Sum.add at e
    split at e
    · rename_i hfg
      have hfg : f = g := Nat.eq_of_beq_eq_true hfg
      subst hfg
      unfold hasBody at hb
      split at hb
      · rename_i fn hfn
        exact ⟨fn, hfn, hb⟩
      · cases hb
    · exact G.body f args h v h' e
  num := G.num
  mix := G.mix
end Go.EV
namespace Go.EV
/-- a run's answer, and what was told; its memory is dropped -/
noncomputable def runV (P : Program) (S : Sum) (f : FuncId) (args : List AV) (hs : Hints) (k : Nat) : Option (AV × Log) :=
  match runF P S f args .empty hs k with
  | some (v, _, l) => some (v, l)
  | none => none

/-- truth values told of one function's slots -/
def tell (f : Nat) (l : List (Nat × Bool)) : Hints := fun g s => match Nat.beq g f with
  | true => match tellIn s l with
    | some b => some fun _ => b
    | none => none
  | false => none
where tellIn (s : Nat) : List (Nat × Bool) → Option Bool
  | [] => none
  | (t, b) :: r => match Nat.beq s t with | true => some b | false => tellIn s r

/-- truth values told of one function's slots, each by how much has been told before -/
def tellF (f : Nat) (l : List (Nat × (Nat → Bool))) : Hints := fun g s => match Nat.beq g f with
  | true => find s l
  | false => none
where find (s : Nat) : List (Nat × (Nat → Bool)) → Option (Nat → Bool)
  | [] => none
  | (t, b) :: r => match Nat.beq s t with | true => some b | false => find s r

/-- the log of those that are reached: (reached, what is computed, what is told), in the order in which they are done -/
def logOf : List (Bool × Bool × Bool) → Log → Log
  | [], l => l
  | (true, c, b) :: r, l => logOf r ((c, b) :: l)
  | (false, _, _) :: r, l => logOf r l

theorem logOf_ok : ∀ {r : List (Bool × Bool × Bool)} {l : Log}, (∀ e ∈ r, e.2.1 = e.2.2) → LogOk l → LogOk (logOf r l)
  | [], _, _, hl => hl
  | (true, c, b) :: r, l, h, hl => logOf_ok (r := r) (fun e he => h e (by simp [he])) (fun e he => by
      simp only [List.mem_cons] at he
      rcases he with rfl | he
      · exact h (true, c, b) (by simp)
      · exact hl e he)
  | (false, _, _) :: r, _, h, hl => logOf_ok (r := r) (fun e he => h e (by simp [he])) hl

theorem pure_of_runV {P : Program} {S : Sum} (G : Good P S) {f : FuncId} {args : List AV} {hs : Hints} {k : Nat} {v : AV} {r : List (Bool × Bool × Bool)} (hr : runV P S f args hs k = some (v, logOf r [])) (hl : ∀ e ∈ r, e.1 = true → e.2.1 = e.2.2)
    (ha : scalars args = true) (hv : scalar v = true) : PureCall P f args v := by
  unfold runV at hr
  split at hr
  · rename_i v' h' l' he
    simp only [Option.some.injEq, Prod.mk.injEq] at hr
    obtain ⟨rfl, rfl⟩ := hr
    refine pure_of_run G he ?_ ha hv
    have : ∀ (r : List (Bool × Bool × Bool)) (l : Log), (∀ e ∈ r, e.1 = true → e.2.1 = e.2.2) → LogOk l → LogOk (logOf r l) := by
      intro r
      induction r with
      | nil => intro l _ hl; exact hl
      | cons e r ih =>
        intro l h hl
        obtain ⟨a, c, b⟩ := e
        cases a
        · exact ih l (fun e he => h e (by simp [he])) hl
        · refine ih ((c, b) :: l) (fun e he => h e (by simp [he])) (fun e he => ?_)
          simp only [List.mem_cons] at he
          rcases he with rfl | he
          · exact h (true, c, b) (by simp) rfl
          · exact hl e he
    exact this r [] hl (fun e he => by cases he)
  · cases hr

theorem pure_of_true {P : Program} {S : Sum} (G : Good P S) {f : FuncId} {k : Nat} (hr : liveT P S f k = true) : PureCall P f [] (.bool true) := by
  intro N own ρ w cargs hc hN
  have hc : cargs = [] := by cases cargs with
    | nil => rfl
    | cons a l => simp [VRs] at hc
  subst hc
  refine (true_calls G hr w.heap.size Own.no w (Nat.le_refl _)).mono ?_
  rintro e w' ⟨rfl, h⟩
  exact ⟨_, rfl, by simp only [VR], h⟩
end Go.EV
