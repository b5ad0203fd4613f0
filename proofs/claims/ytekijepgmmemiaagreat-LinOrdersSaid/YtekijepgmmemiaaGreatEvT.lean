/- Own text of this claim: an abstract machine over the given program form, and what follows from it. No condition. -/
import Derived.Test.YtekijepgmmemiaaGreatEvU

set_option linter.unusedVariables false
set_option linter.unusedSimpArgs false
set_option maxHeartbeats 1000000
namespace Go.EV
noncomputable section

/-- what a contract of a call must say of it -/
def CallOk (P : Program) (f : FuncId) (args : List AV) (h : AH) (v : AV) (g : Option AH) : Prop := h.next ≤ (behind h g).next ∧
  ∀ (N : Nat) (own : Own) (ρ : Rho) (w : World) (cargs : List Value), HRel ρ h w → VRs ρ args cargs → Owned N own ρ → N ≤ w.heap.size →
    Calls P f cargs.toArray w fun e w' => ∃ ρ' c, e = .returned c ∧ VR ρ' v c ∧ HRel ρ' (behind h g) w' ∧ Keep N own w w' ∧ Owned N own ρ' ∧ Ext2 h.next ρ ρ'

/-! trees: what comes of truth values that are not known -/
inductive T (α : Type) where
  | leaf (a : α)
  | br (c : Bool) (t e : T α)
  | ck (p : Prop) (t : T α)
  | cd (p : Prop) (d : Decidable p) (t : T α)
namespace T
variable {α β : Type}
def bind (t : T α) (f : α → T β) : T β := T.rec (motive := fun _ => T β) f (fun c _ _ t e => .br c t e) (fun p _ t => .ck p t) (fun p d _ t => .cd p d t) t
/-- what can be decided must be so -/
abbrev cki (p : Prop) [d : Decidable p] (t : T α) : T α := .cd p d t
/-- the leaf that is come to, if all that must be so is so -/
def Sel : T α → α → Prop
  | .leaf b, a => b = a
  | .br c t e, a => (c = true ∧ t.Sel a) ∨ (c = false ∧ e.Sel a)
  | .ck p t, a => p ∧ t.Sel a
  | .cd p _ t, a => p ∧ t.Sel a
def Wp (Q : α → Prop) : T α → Prop
  | .leaf a => Q a
  | .br c t e => (c = true → t.Wp Q) ∧ (c = false → e.Wp Q)
  | .ck p t => p ∧ t.Wp Q
  | .cd p _ t => p ∧ t.Wp Q
theorem wp_sel {Q : α → Prop} : ∀ {t : T α}, t.Wp Q → ∃ a, t.Sel a ∧ Q a
  | .leaf a, h => ⟨a, rfl, h⟩
  | .br c t e, h => by
    cases c with
    | true =>
      obtain ⟨a, h1, h2⟩ := wp_sel (h.1 rfl)
      exact ⟨a, .inl ⟨rfl, h1⟩, h2⟩
    | false =>
      obtain ⟨a, h1, h2⟩ := wp_sel (h.2 rfl)
      exact ⟨a, .inr ⟨rfl, h1⟩, h2⟩
  | .ck p t, h => by
    obtain ⟨a, h1, h2⟩ := wp_sel h.2
    exact ⟨a, ⟨h.1, h1⟩, h2⟩
  | .cd p _ t, h => by
    obtain ⟨a, h1, h2⟩ := wp_sel h.2
    exact ⟨a, ⟨h.1, h1⟩, h2⟩
theorem sel_bind {f : α → T β} {b : β} : ∀ {t : T α}, (t.bind f).Sel b → ∃ a, t.Sel a ∧ (f a).Sel b
  | .leaf a, h => ⟨a, rfl, h⟩
  | .br c t e, h => by
    have h : (c = true ∧ (t.bind f).Sel b) ∨ (c = false ∧ (e.bind f).Sel b) := h
    rcases h with ⟨hc, h⟩ | ⟨hc, h⟩
    · obtain ⟨a, h1, h2⟩ := sel_bind h
      exact ⟨a, .inl ⟨hc, h1⟩, h2⟩
    · obtain ⟨a, h1, h2⟩ := sel_bind h
      exact ⟨a, .inr ⟨hc, h1⟩, h2⟩
  | .ck p t, h => by
    have h : p ∧ (t.bind f).Sel b := h
    obtain ⟨a, h1, h2⟩ := sel_bind h.2
    exact ⟨a, ⟨h.1, h1⟩, h2⟩
  | .cd p _ t, h => by
    have h : p ∧ (t.bind f).Sel b := h
    obtain ⟨a, h1, h2⟩ := sel_bind h.2
    exact ⟨a, ⟨h.1, h1⟩, h2⟩
theorem Wp.mono {Q R : α → Prop} (h : ∀ a, Q a → R a) : ∀ {t : T α}, t.Wp Q → t.Wp R
  | .leaf a, q => h a q
  | .br c t e, q => ⟨fun hc => Wp.mono h (q.1 hc), fun hc => Wp.mono h (q.2 hc)⟩
  | .ck p t, q => ⟨q.1, Wp.mono h q.2⟩
  | .cd p _ t, q => ⟨q.1, Wp.mono h q.2⟩
end T

inductive Lf where
  | to (m : AM)
  | done (v : AV) (h : AH)
  | bad (n : Nat)
def lfOf : ARes → Lf
  | .run m => .to m
  | .done v h _ => .done v h
  | .bad n => .bad n

/-- what is told: slots of truth values that are followed both ways; values, as they are to stand in slots; slots of rows that are made element by element; where a run is halted, and the slots that are kept there -/
structure Hy where
  sp : FuncId → Nat → Bool
  nz : FuncId → Nat → Option AV
  ek : FuncId → Nat → Bool
  st : FuncId → Nat → Option (List Nat)
  pn : Nat := 0

/-- values that are alike are found to be so, if no function is in them -/
instance decV (a b : AV) : Decidable (a = b) := if h : AV.beq a b = true then isTrue (AV.beq_eq h) else Classical.propDecidable _
def valT (y : Hy) (f : FuncId) (d : Option Tmp) (v : AV) : T AV :=
  match d with
  | none => .leaf v
  | some d => match y.nz f d with
    | some u => T.cki (v = u) (.leaf u)
    | none => match y.sp f d with
      | true => match v with
        | .bool c => .br c (.leaf (.bool true)) (.leaf (.bool false))
        | v => .leaf v
      | false => .leaf v
theorem valT_ok {y : Hy} {f : FuncId} {d : Option Tmp} {v u : AV} (h : (valT y f d v).Sel u) : u = v := by
  unfold valT at h
  split at h
  · exact h.symm
  · split at h
    · exact h.2.symm.trans h.1.symm
    · split at h
      · split at h
        · rename_i c
          rcases h with ⟨hc, h⟩ | ⟨hc, h⟩
          · subst hc; exact h.symm
          · subst hc; exact h.symm
        · exact h.symm
      · exact h.symm

/-! operations -/
def idxT (P : Program) (t : TypeId) (x ix : AV) : T (Option AV) :=
  match ix with
  | .int _ i => match P.underlying t, x with
    | some (.slice elem), .ls n f e _ => match sizeOf P elem with
      | some sz => match Nat.beq sz e with
        | true => T.cki (0 ≤ i ∧ i < (n : Int)) (.leaf (some (.lp (f i.toNat) 0)))
        | false => .leaf none
      | none => .leaf none
    | some (.slice elem), .es b j n _ e => match sizeOf P elem with
      | some sz => match Nat.beq sz e with
        | true => T.cki (0 ≤ i ∧ i < (n : Int)) (.leaf (some (.ep b (addZ j i.toNat) 0 e)))
        | false => .leaf none
      | none => .leaf none
    | _, _ => .leaf (idx P t x ix)
  | _ => .leaf none
theorem idxT_ok {P : Program} {t : TypeId} {x ix : AV} {r : Option AV} (h : (idxT P t x ix).Sel r) (hr : r ≠ none) : idx P t x ix = r := by
  unfold idxT at h
  split at h
  · split at h
    · rename_i elem n f e full hu
      split at h
      · rename_i sz hs
        split at h
        · rename_i he
          obtain ⟨⟨h1, h2⟩, h3⟩ := h
          unfold idx
          simp only [hu, hs, he, decide_eq_true h1, decide_eq_true h2, Bool.and_self]
          exact h3
        · exact absurd h.symm hr
      · exact absurd h.symm hr
    · rename_i elem b j n cap e hu
      split at h
      · rename_i sz hs
        split at h
        · rename_i he
          obtain ⟨⟨h1, h2⟩, h3⟩ := h
          unfold idx
          simp only [hu, hs, he, decide_eq_true h1, decide_eq_true h2, Bool.and_self]
          exact h3
        · exact absurd h.symm hr
      · exact absurd h.symm hr
    · exact h
  · exact absurd h.symm hr

def boundT (x : AV) (y : Nat) : T (Option Nat) :=
  match x with
  | .int _ i => T.cki (0 ≤ i ∧ i ≤ (y : Int)) (.leaf (some i.toNat))
  | _ => .leaf none
theorem boundT_ok {x : AV} {y : Nat} {r : Option Nat} (h : (boundT x y).Sel r) (hr : r ≠ none) : bound x y = r := by
  unfold boundT at h
  split at h
  · obtain ⟨⟨h1, h2⟩, h3⟩ := h
    unfold bound
    simp only [decide_eq_true h1, decide_eq_true h2, Bool.and_self]
    exact h3
  · exact absurd h.symm hr
/-- bounds of a slice of elements -/
def cutST (len : Nat) (cap : Option Nat) (lo hi mx : Option AV) : T (Option (Nat × Nat × Option Nat)) :=
  match mx with
  | some mv => (boundT mv (capOr cap len)).bind fun r => match r with
    | some m => match hi with
      | some hv => (boundT hv m).bind fun r => match r with
        | some h => match lo with
          | some lv => (boundT lv h).bind fun r => match r with
            | some l => .leaf (some (l, h, some (m - l)))
            | none => .leaf none
          | none => .leaf (some (0, h, some m))
        | none => .leaf none
      | none => .leaf none
    | none => .leaf none
  | none => match hi with
    | some hv => (boundT hv (capOr cap len)).bind fun r => match r with
      | some h => match lo with
        | some lv => (boundT lv h).bind fun r => match r with
          | some l => .leaf (some (l, h, capLess cap l))
          | none => .leaf none
        | none => .leaf (some (0, h, cap))
      | none => .leaf none
    | none => match lo with
      | some lv => (boundT lv len).bind fun r => match r with
        | some l => .leaf (some (l, len, capLess cap l))
        | none => .leaf none
      | none => .leaf (some (0, len, cap))
theorem cutST_ok {len : Nat} {cap : Option Nat} {lo hi mx : Option AV} {r : Option (Nat × Nat × Option Nat)} (h : (cutST len cap lo hi mx).Sel r) (hr : r ≠ none) : cutS len cap lo hi mx = r := by
  unfold cutST at h
  unfold cutS
  split at h
  · rename_i mv
    obtain ⟨q, h1, h2⟩ := T.sel_bind h
    split at h2
    · rename_i m
      simp only [boundT_ok h1 (by simp)]
      split at h2
      · rename_i hv
        obtain ⟨q, h3, h4⟩ := T.sel_bind h2
        split at h4
        · simp only [boundT_ok h3 (by simp)]
          split at h4
          · obtain ⟨q, h5, h6⟩ := T.sel_bind h4
            split at h6
            · simp only [boundT_ok h5 (by simp)]; exact h6
            · exact absurd h6.symm hr
          · exact h4
        · exact absurd h4.symm hr
      · exact absurd h2.symm hr
    · exact absurd h2.symm hr
  · split at h
    · rename_i hv
      obtain ⟨q, h3, h4⟩ := T.sel_bind h
      split at h4
      · simp only [boundT_ok h3 (by simp)]
        split at h4
        · obtain ⟨q, h5, h6⟩ := T.sel_bind h4
          split at h6
          · simp only [boundT_ok h5 (by simp)]; exact h6
          · exact absurd h6.symm hr
        · exact h4
      · exact absurd h4.symm hr
    · simp only
      split at h
      · obtain ⟨q, h5, h6⟩ := T.sel_bind h
        split at h6
        · simp only [boundT_ok h5 (by simp)]; exact h6
        · exact absurd h6.symm hr
      · exact h
def sliceT (P : Program) (t : TypeId) (x : AV) (lo hi mx : Option AV) : T (Option AV) :=
  match P.underlying t, x with
  | some (.slice elem), .ls n f e full => match sizeOf P elem with
    | some sz => match Nat.beq sz e with
      | true => (cutST n none lo hi mx).bind fun r => match r with
        | some (l, h, c) => .leaf (some (.ls (h - l) (fun i => f (addZ l i)) e (fullS n full l h c)))
        | none => .leaf none
      | false => .leaf none
    | none => .leaf none
  | some (.slice elem), .es b j n cap e => match sizeOf P elem with
    | some sz => match Nat.beq sz e with
      | true => (cutST n cap lo hi mx).bind fun r => match r with
        | some (l, h, _) => .leaf (some (.es b (addZ j l) (h - l) none e))
        | none => .leaf none
      | false => .leaf none
    | none => .leaf none
  | _, _ => .leaf (sliceV P t x lo hi mx)
theorem sliceT_ok {P : Program} {t : TypeId} {x : AV} {lo hi mx : Option AV} {r : Option AV} (h : (sliceT P t x lo hi mx).Sel r) (hr : r ≠ none) : sliceV P t x lo hi mx = r := by
  unfold sliceT at h
  split at h
  · rename_i elem n f e full hu
    split at h
    · rename_i sz hs
      split at h
      · rename_i he
        obtain ⟨q, h1, h2⟩ := T.sel_bind h
        split at h2
        · unfold sliceV
          simp only [hu, cutST_ok h1 (by simp), hs, he]
          exact h2
        · exact absurd h2.symm hr
      · exact absurd h.symm hr
    · exact absurd h.symm hr
  · rename_i elem b j n cap e hu
    split at h
    · rename_i sz hs
      split at h
      · rename_i he
        obtain ⟨q, h1, h2⟩ := T.sel_bind h
        split at h2
        · unfold sliceV
          simp only [hu, cutST_ok h1 (by simp), hs, he]
          exact h2
        · exact absurd h2.symm hr
      · exact absurd h.symm hr
    · exact absurd h.symm hr
  · exact h

def remT (op : BinOp) (P : Program) (t : TypeId) (x y : AV) : T (Option AV) :=
  match x, y with
  | .int k a, .int k' b => match decide (k = k') with
    | true => T.cki (b ≠ 0) (.leaf (some (.int k (match op with | .rem => a.tmod b | _ => k.wrap (a.tdiv b)))))
    | false => .leaf none
  | _, _ => .leaf none
theorem remT_ok {op : BinOp} (ho : op = .rem ∨ op = .quo) {P : Program} {t : TypeId} {x y : AV} {r : Option AV} (h : (remT op P t x y).Sel r) (hr : r ≠ none) : bin P op t x y = r := by
  unfold remT at h
  split at h
  · split at h
    · rename_i hk
      simp only [decide_eq_true_eq] at hk; subst hk
      obtain ⟨h1, h2⟩ := h
      rcases ho with rfl | rfl
      · simp only [bin, arith, if_neg h1, decide_true]; exact h2
      · simp only [bin, arith, if_neg h1, decide_true]; exact h2
    · exact absurd h.symm hr
  · exact absurd h.symm hr

def shT (op : BinOp) (x y : AV) : T (Option AV) :=
  match x, y with
  | .int k a, .int _ b => T.cki (0 ≤ b) (.leaf (some (.int k (match op with | .shl => k.wrap (a * 2 ^ (min b.toNat k.bits)) | _ => a.fdiv (2 ^ (min b.toNat k.bits))))))
  | _, _ => .leaf none
theorem shT_ok {op : BinOp} (ho : op = .shl ∨ op = .shr) {P : Program} {t : TypeId} {x y : AV} {r : Option AV} (h : (shT op x y).Sel r) (hr : r ≠ none) : bin P op t x y = r := by
  unfold shT at h
  split at h
  · obtain ⟨h1, h2⟩ := h
    rename_i b
    rcases ho with rfl | rfl
    · simp only [bin, shiftI, decide_eq_false (show ¬ b < 0 by omega)]; exact h2
    · simp only [bin, shiftI, decide_eq_false (show ¬ b < 0 by omega)]; exact h2
  · exact absurd h.symm hr

def pureT (P : Program) (ev : Operand → Option AV) (op : Op) : T (Option AV) :=
  match op with
  | .binOp .shl t x y _ => match ev x, ev y with
    | some a, some b => shT .shl a b
    | _, _ => .leaf none
  | .binOp .shr t x y _ => match ev x, ev y with
    | some a, some b => shT .shr a b
    | _, _ => .leaf none
  | .indexAddr t x ix => match ev x, ev ix with
    | some a, some i => idxT P t a i
    | _, _ => .leaf none
  | .slice t x lo hi mx => match ev x, optA ev lo, optA ev hi, optA ev mx with
    | some v, some l, some h, some m => sliceT P t v l h m
    | _, _, _, _ => .leaf none
  | .binOp .rem t x y _ => match ev x, ev y with
    | some a, some b => remT .rem P t a b
    | _, _ => .leaf none
  | .binOp .quo t x y _ => match ev x, ev y with
    | some a, some b => remT .quo P t a b
    | _, _ => .leaf none
  | op => .leaf (pureOp P ev op)
theorem pureT_ok {P : Program} {ev : Operand → Option AV} {op : Op} {r : Option AV} (h : (pureT P ev op).Sel r) (hr : r ≠ none) : pureOp P ev op = r := by
  unfold pureT at h
  split at h
  · split at h
    · rename_i hx hy
      simp only [pureOp, hx, hy]
      exact shT_ok (.inl rfl) h hr
    · exact absurd h.symm hr
  · split at h
    · rename_i hx hy
      simp only [pureOp, hx, hy]
      exact shT_ok (.inr rfl) h hr
    · exact absurd h.symm hr
  · split at h
    · rename_i hx hi
      simp only [pureOp, hx, hi]
      exact idxT_ok h hr
    · exact absurd h.symm hr
  · split at h
    · rename_i h1 h2 h3 h4
      simp only [pureOp, h1, h2, h3, h4]
      exact sliceT_ok h hr
    · exact absurd h.symm hr
  · split at h
    · rename_i hx hy
      simp only [pureOp, hx, hy]
      exact remT_ok (.inl rfl) h hr
    · exact absurd h.symm hr
  · split at h
    · rename_i hx hy
      simp only [pureOp, hx, hy]
      exact remT_ok (.inr rfl) h hr
    · exact absurd h.symm hr
  · exact h
end
end Go.EV
