/- Own text of this claim: an abstract machine over the given program form, and what follows from it. No condition. -/
import Derived.Test.YtekijepgmmemiaaGreatEvFin
set_option linter.unusedVariables false
set_option linter.unusedSimpArgs false
namespace Go.EV
noncomputable section
variable {P : Program}
/-! calls with values that are all known: one check -/
mutual
/-- is a value as good as another one -/
def likeB : AV → AV → Bool
  | .int k n, v => match v with | .int k' n' => decide (k = k') && decide (n = n') | _ => false
  | .bool b, v => match v with | .bool b' => b == b' | _ => false
  | .str s, v => match v with | .str s' => decide (s = s') | _ => false
  | .nilptr, v => match v with | .nilptr => true | _ => false
  | .nilsl, v => match v with | .nilsl => true | .ls n _ _ _ => Nat.beq n 0 | _ => false
  | .nilmap, v => match v with | .nilmap => true | _ => false
  | .nilfn, v => match v with | .nilfn => true | _ => false
  | .agg cs, v => match v with | .agg cs' => likeBs cs cs' | _ => false
  | .tup cs, v => match v with | .tup cs' => likeBs cs cs' | _ => false
  | .ls n f e full, v => match v with | .ls n' f' e' full' => Nat.beq n n' && Nat.beq e e' && (!full' || full) && allB (fun i => likeBs (f i) (f' i)) n | _ => false
  | .ptr _ _, _ => false
  | .sl _ _ _ _ _, _ => false
  | .slz _, _ => false
  | .mp _, _ => false
  | .fn _ _ _, _ => false
  | .yld _, _ => false
  | .lp _ _, _ => false
  | .ep _ _ _ _, _ => false
  | .es _ _ _ _ _, _ => false
def likeBs : List AV → List AV → Bool
  | [], l => match l with | [] => true | _ => false
  | v :: vs, l => match l with | u :: us => likeB v u && likeBs vs us | _ => false
end
mutual
theorem likeB_ok : ∀ {v v' : AV}, likeB v v' = true → Like v v'
  | .int k n, v', h => by
    unfold likeB at h
    split at h
    · simp only [Bool.and_eq_true, decide_eq_true_eq] at h
      obtain ⟨rfl, rfl⟩ := h
      exact Like.rfl
    · cases h
  | .bool b, v', h => by
    unfold likeB at h
    split at h
    · rw [eq_of_beq h]; exact Like.rfl
    · cases h
  | .str s, v', h => by
    unfold likeB at h
    split at h
    · rw [of_decide_eq_true h]; exact Like.rfl
    · cases h
  | .nilptr, v', h => by
    unfold likeB at h
    split at h
    · exact Like.rfl
    · cases h
  | .nilsl, v', h => by
    unfold likeB at h
    split at h
    · exact Like.rfl
    · rename_i n f e full
      have := Nat.eq_of_beq_eq_true h
      subst this
      exact Like.nilsl
    · cases h
  | .nilmap, v', h => by
    unfold likeB at h
    split at h
    · exact Like.rfl
    · cases h
  | .nilfn, v', h => by
    unfold likeB at h
    split at h
    · exact Like.rfl
    · cases h
  | .agg cs, v', h => by
    unfold likeB at h
    split at h
    · exact Like.agg (likeBs_ok h)
    · cases h
  | .tup cs, v', h => by
    unfold likeB at h
    split at h
    · exact Like.tup (likeBs_ok h)
    · cases h
  | .ls n f e full, v', h => by
    unfold likeB at h
    split at h
    · rename_i n' f' e' full'
      simp only [Bool.and_eq_true] at h
      obtain ⟨⟨⟨h1, h2⟩, h3⟩, h4⟩ := h
      have h1 := Nat.eq_of_beq_eq_true h1
      have h2 := Nat.eq_of_beq_eq_true h2
      subst h1 h2
      have hl : ∀ i, i < n → ∀ ρ cs, VRs ρ (f i) cs → VRs ρ (f' i) cs := fun i hi => likeBs_ok (allB_at h4 i hi)
      intro ρ c q
      simp only [VR] at q ⊢
      have hf : full' = true → full = true := by
        intro e; subst e; simpa using h3
      rcases q with ⟨h0, q⟩ | ⟨h0, blk, off, k, arr, q1, q2, q3, q4, q5, q6⟩
      · refine .inl ⟨h0, ?_⟩
        rcases q with q | ⟨a, k, q, hk⟩
        · exact .inl q
        · exact .inr ⟨a, k, q, fun h' => hk (hf h')⟩
      · exact .inr ⟨h0, blk, off, k, arr, q1, q2, fun h' => q3 (hf h'), q4, q5, fun j hj => ⟨hl j hj _ _ (q6 j hj).1, (q6 j hj).2⟩⟩
    · cases h
  | .ptr _ _, _, h => by cases h
  | .sl _ _ _ _ _, _, h => by cases h
  | .slz _, _, h => by cases h
  | .mp _, _, h => by cases h
  | .fn _ _ _, _, h => by cases h
  | .yld _, _, h => by cases h
  | .lp _ _, _, h => by cases h
  | .ep _ _ _ _, _, h => by cases h
  | .es _ _ _ _ _, _, h => by cases h
theorem likeBs_ok : ∀ {vs vs' : List AV}, likeBs vs vs' = true → ∀ ρ cs, VRs ρ vs cs → VRs ρ vs' cs
  | [], l, h => by
    unfold likeBs at h
    split at h
    · exact fun _ _ h => h
    · cases h
  | v :: vs, l, h => by
    unfold likeBs at h
    split at h
    · rw [Bool.and_eq_true] at h
      exact likes_cons (likeB_ok h.1) (likeBs_ok h.2)
    · cases h
end
/-- a tree of which one way is gone, to a value -/
def chkT (v : AV) (t : T Lv) : Bool := T.rec (motive := fun _ => Bool) (fun l => match l with | .fin u => likeB u v | _ => false) (fun c _ _ a b => bif c then a else b) (fun _ _ _ => false) (fun _ d _ a => match d with | .isTrue _ => a | .isFalse _ => false) t
theorem chkT_wp {v : AV} : ∀ {t : T Lv}, chkT v t = true → t.Wp (EndLv P (fun u => Like u v))
  | .leaf l, h => by
    cases l with
    | fin u => exact likeB_ok h
    | to m => cases h
    | bad n => cases h
  | .br c a b, h => by
    have h : (bif c then chkT v a else chkT v b) = true := h
    cases c with
    | true => exact ⟨fun _ => chkT_wp h, fun h => by cases h⟩
    | false => exact ⟨fun h => (by cases h), fun _ => chkT_wp h⟩
  | .ck p t, h => by cases h
  | .cd p d t, h => by
    cases d with
    | isTrue hp => exact ⟨hp, chkT_wp h⟩
    | isFalse _ => cases h
theorem fn_of_chk {U : USum} (G : GoodU P U) {y : Hy} {n : Nat} {f : FuncId} {args : List AV} {v : AV} (hs : isSt P f args = true) (h : chkT v (symF P U y n (stt P f args)) = true) (hy : y.pn = 0 := by rfl) : FnCall P f args v := by
  obtain ⟨u, h1, h2⟩ := fn_of_endsF (Q := fun u => Like u v) hs (endsF_of G rfl (chkT_wp h) hy)
  exact h2.like h1
/-! small helps -/
theorem fnSpec_br {g : FuncId} {a : List AV} {t : T AV} (h : t.Wp (fun v => FnCall P g a v)) : ∀ v, t.Sel v → FnCall P g a v := by
  intro v hs
  induction t with
  | leaf b =>
    have hs : b = v := hs
    subst hs; exact h
  | br c x y ihx ihy =>
    rcases hs with ⟨hc, hs⟩ | ⟨hc, hs⟩
    · exact ihx (h.1 hc) hs
    · exact ihy (h.2 hc) hs
  | ck p x ih => exact ih h.2 hs.2
  | cd p d x ih => exact ih h.2 hs.2
theorem FnCall_args {f : FuncId} {args args' : List AV} {v : AV} (hl : ∀ ρ cs, VRs ρ args cs → VRs ρ args' cs) (h : FnCall P f args' v) : FnCall P f args v :=
  fun fz w cargs hf hv => h fz w cargs hf (hl _ _ hv)
theorem likes_ls {n e : Nat} {f f' : Nat → List AV} {full full' : Bool} {vs : List AV} (hf : ∀ k, k < n → f k = f' k) (hfull : full' = true → full = true) : ∀ ρ cs, VRs ρ (.ls n f e full :: vs) cs → VRs ρ (.ls n f' e full' :: vs) cs :=
  likes_cons (Like.ls hf hfull) (fun _ _ h => h)
def chainT (l : List Bool) (a b : T Lv) : T Lv := l.foldr (fun c t => .br c t b) a
theorem chainT_wp {Q : Lv → Prop} {a b : T Lv} : ∀ {l : List Bool}, (l.all id = true → a.Wp Q) → (l.all id = false → b.Wp Q) → (chainT l a b).Wp Q
  | [], h1, _ => h1 rfl
  | c :: l, h1, h2 => ⟨fun hc => chainT_wp (fun h => h1 (by simp [hc] at h ⊢; exact h)) (fun h => h2 (by simp [hc] at h ⊢; exact h)), fun hc => h2 (by simp [hc])⟩
def orT (l : List Bool) (a b : T Lv) : T Lv := l.foldr (fun c t => .br c b t) a
theorem orT_wp {Q : Lv → Prop} {a b : T Lv} : ∀ {l : List Bool}, (l.any id = false → a.Wp Q) → (l.any id = true → b.Wp Q) → (orT l a b).Wp Q
  | [], h1, _ => h1 rfl
  | c :: l, h1, h2 => ⟨fun hc => h2 (by simp [hc]), fun hc => orT_wp (fun h => h1 (by simp [hc] at h ⊢; exact h)) (fun h => h2 (by simp [hc] at h ⊢; exact h))⟩
/-- a call that is run for itself -/
def itsF (P : Program) (U : USum) (y : Hy) (n : Nat) (g : FuncId) : List AV → Option (T AV) := fun a => match isSt P g a with
  | true => some ((symF P U y n (stt P g a)).bind fun l => match l with
    | .fin v => .leaf v
    | _ => .ck False (.leaf undefA))
  | false => none
theorem FnSpec.eval {U : USum} (G : GoodU P U) (y : Hy) (n : Nat) (g : FuncId) (hy : y.pn = 0 := by rfl) : FnSpec P g (itsF P U y n g) := by
  intro a t h v hv
  unfold itsF at h
  split at h
  · rename_i hs
    simp only [Option.some.injEq] at h; subst h
    obtain ⟨l, h1, h2⟩ := T.sel_bind hv
    split at h2
    · rename_i u
      have h2 : u = v := h2
      subst h2
      obtain ⟨lf, h3, h4⟩ := T.sel_bind (t := symT P U y n (stt P g a)) h1
      have hr := symT_ok G h3
      rw [hy] at hr
      cases lf with
      | to m' => cases h4
      | done v hh =>
        obtain ⟨r, h5, h6⟩ := T.sel_bind (t := finF hh finN v) h4
        have h6 : Lv.fin r.1 = .fin u := h6
        cases h6
        exact fn_of_eq hs ⟨_, rfl, v, hh, ⟨_, finF_ok h5⟩, hr⟩
      | bad k => cases h4
    · exact h2.1.elim
  · cases h
/-- a call that is known at one place -/
def oneF (args : List AV) (v : AV) : List AV → Option (T AV) := fun a => match likeBs a args with
  | true => some (.leaf v)
  | false => none
theorem FnSpec.one {g : FuncId} {args : List AV} {v : AV} (h : FnCall P g args v) : FnSpec P g (oneF args v) := by
  intro a t ht u hu
  unfold oneF at ht
  split at ht
  · rename_i hl
    simp only [Option.some.injEq] at ht; subst ht
    have hu : v = u := hu
    subst hu
    exact FnCall_args (likeBs_ok hl) h
  · cases ht
def orF (F G : List AV → Option (T AV)) : List AV → Option (T AV) := fun a => match F a with
  | some t => some t
  | none => G a
theorem FnSpec.or {g : FuncId} {F G : List AV → Option (T AV)} (h1 : FnSpec P g F) (h2 : FnSpec P g G) : FnSpec P g (orF F G) := by
  intro a t ht
  unfold orF at ht
  split at ht
  · rename_i t' h
    simp only [Option.some.injEq] at ht; subst ht
    exact h1 a _ h
  · exact h2 a t ht
end
end Go.EV
