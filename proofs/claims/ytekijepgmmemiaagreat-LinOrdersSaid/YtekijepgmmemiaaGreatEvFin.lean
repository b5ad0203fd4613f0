/- Own text of this claim: an abstract machine over the given program form, and what follows from it. No condition. -/
import Derived.Test.YtekijepgmmemiaaGreatEvFn
set_option linter.unusedVariables false
set_option linter.unusedSimpArgs false
set_option maxHeartbeats 1000000
namespace Go.EV
noncomputable section
variable {P : Program}

/-- a slice of which the capacity is known to be all used -/
def fullC (cap : Option Nat) (n : Nat) : Bool := match cap with
  | some c => Nat.beq c n
  | none => false
theorem fullC_ok {cap : Option Nat} {n : Nat} (h : fullC cap n = true) : cap = some n := by
  unfold fullC at h
  split at h
  · rw [Tr.beq_true] at h; rw [h]
  · cases h
def allB (p : Nat → Bool) (n : Nat) : Bool := Nat.rec (motive := fun _ => Bool) true (fun i ih => p i && ih) n
theorem allB_at {p : Nat → Bool} : ∀ {n : Nat}, allB p n = true → ∀ i, i < n → p i = true
  | 0, _, i, h => by omega
  | n + 1, e, i, h => by
    have e : (p n && allB p n) = true := e
    rw [Bool.and_eq_true] at e
    by_cases hi : i = n
    · subst hi; exact e.1
    · exact allB_at e.2 i (by omega)
theorem allB_of {p : Nat → Bool} : ∀ {n : Nat}, (∀ i, i < n → p i = true) → allB p n = true
  | 0, _ => rfl
  | n + 1, h => by
    show (p n && allB p n) = true
    rw [h n (by omega), allB_of fun i hi => h i (by omega)]; rfl
/-- of each of a list; and the blocks that were met -/
def finM (k : AV → T (AV × List Nat)) (l : List AV) : T (List AV × List Nat) :=
  List.rec (motive := fun _ => T (List AV × List Nat)) (.leaf ([], [])) (fun v _ ih => (k v).bind fun a => ih.bind fun b => .leaf (a.1 :: b.1, a.2 ++ b.2)) l
/-- a value, frozen -/
def finF (h : AH) : Nat → AV → T (AV × List Nat)
  | 0, v => .ck False (.leaf (v, []))
  | f + 1, v => match v with
    | .es b j n cap e => match h.bs.get b with
      | some (.els e' _ f) => match Nat.beq e e' with
        | true => .cki (allB (fun i => idps (fun _ => false) (f (addZ j i))) n = true) (.leaf (.ls n (fun i => f (addZ j i)) e (fullC cap n), [b]))
        | false => .ck False (.leaf (undefA, []))
      | _ => .ck False (.leaf (undefA, []))
    | .sl b off n cap e => match Nat.ble 8 b && Nat.blt 0 e, h.cells b off (n * e) with
      | true, some cs => match cs.all notAgg with
        | true => (finM (finF h f) cs).bind fun r => .leaf (.ls n (chunkE e r.1) e (fullC cap n), b :: r.2)
        | false => .ck False (.leaf (undefA, []))
      | _, _ => .ck False (.leaf (undefA, []))
    | .agg cs => (finM (finF h f) cs).bind fun r => .leaf (.agg r.1, r.2)
    | .tup vs => (finM (finF h f) vs).bind fun r => .leaf (.tup r.1, r.2)
    | v => match idp (fun _ => false) v with
      | true => .leaf (v, [])
      | false => .ck False (.leaf (undefA, []))
theorem finM_ok {h : AH} {k : AV → T (AV × List Nat)} (hk : ∀ v a, (k v).Sel a → FrzTo h a.2 v a.1) : ∀ {l : List AV} {r : List AV × List Nat}, (finM k l).Sel r → FrzTos h r.2 l r.1
  | [], r, s => by
    have s : ([], []) = r := s
    subst s
    exact FrzTos.nil
  | v :: l, r, s => by
    have s : ((k v).bind fun a => (finM k l).bind fun b => .leaf (a.1 :: b.1, a.2 ++ b.2)).Sel r := s
    obtain ⟨a, h1, h2⟩ := T.sel_bind s
    obtain ⟨b, h3, h4⟩ := T.sel_bind h2
    have h4 : (a.1 :: b.1, a.2 ++ b.2) = r := h4
    subst h4
    exact FrzTos.cons (hk v a h1) (finM_ok hk h3)
theorem finF_ok {h : AH} : ∀ {f : Nat} {v : AV} {a : AV × List Nat}, (finF h f v).Sel a → FrzTo h a.2 v a.1
  | 0, v, a, s => s.1.elim
  | f + 1, v, a, s => by
    unfold finF at s
    split at s
    · split at s
      · rename_i e' m f hg
        split at s
        · rename_i he
          rw [Tr.beq_true] at he; subst he
          obtain ⟨hF, s⟩ := s
          have s : (AV.ls _ _ _ _, _) = a := s
          subst s
          exact FrzTo.es hg (fun _ _ => rfl) (fun i hi => FreeL.of (allB_at hF i hi)) fullC_ok
        · exact s.1.elim
      · exact s.1.elim
    · split at s
      · rename_i cs hb hc
        simp only [Bool.and_eq_true, Nat.ble_eq] at hb
        split at s
        · rename_i hq
          obtain ⟨r, h1, h2⟩ := T.sel_bind s
          have h2 : (AV.ls _ _ _ _, _) = a := h2
          subst h2
          exact FrzTo.sl hc hb.1 (by have := hb.2; simp [Nat.blt] at this; omega) hq (finM_ok (fun v a s => finF_ok s) h1) (fun _ _ => rfl) fullC_ok
        · exact s.1.elim
      · exact s.1.elim
    · obtain ⟨r, h1, h2⟩ := T.sel_bind s
      have h2 : (AV.agg r.1, r.2) = a := h2
      subst h2
      exact FrzTo.agg (finM_ok (fun v a s => finF_ok s) h1)
    · obtain ⟨r, h1, h2⟩ := T.sel_bind s
      have h2 : (AV.tup r.1, r.2) = a := h2
      subst h2
      exact FrzTo.tup (finM_ok (fun v a s => finF_ok s) h1)
    · split at s
      · rename_i hi
        have s : (_, []) = a := s
        subst s
        exact FrzTo.cool hi
      · exact s.1.elim
/-- as deep as values may be -/
def finN : Nat := 30
def finFs (h : AH) (l : List AV) : T (List AV × List Nat) := finM (finF h finN) l
theorem finFs_ok {h : AH} {l : List AV} {r : List AV × List Nat} (s : (finFs h l).Sel r) : FrzTos h r.2 l r.1 := finM_ok (fun v a s => finF_ok s) s

/-! calls of contracts over what the run has made itself: it is frozen for the call -/
def delL {α : Type} (l : List Nat) (t : Tr α) : Tr α := List.rec (motive := fun _ => Tr α → Tr α) (fun t => t) (fun b _ ih t => ih (t.del b)) l t
theorem get_delL {α : Type} : ∀ (l : List Nat) (t : Tr α) (j : Nat), (delL l t).get j = if j ∈ l then none else t.get j
  | [], t, j => by simp [delL]
  | b :: l, t, j => by
    show (delL l (t.del b)).get j = _
    rw [get_delL l, Tr.get_del]
    by_cases h1 : j ∈ l
    · simp [h1]
    · by_cases h2 : j = b
      · simp [h2]
      · simp [h1, h2]
/-- blocks that are frozen from here on: what they hold is known by those that have been given them -/
def dropB (l : List Nat) (h : AH) : AH := ⟨delL l h.bs, h.next⟩
theorem callOk_view {f : FuncId} {args args' : List AV} {L : List Nat} {v : AV} {h : AH} (hv : (finFs h args).Sel (args', L)) (hf : FnCall P f args' v) (g : Option AH) (hg : (g = none ∧ scalar v = true) ∨ g = some (dropB L h)) : CallOk P f args h v g := by
  refine ⟨by rcases hg with ⟨rfl, _⟩ | rfl <;> exact Nat.le_refl _, fun N own ρ w cargs H hc O hN => ?_⟩
  let S : Nat → Prop := fun k => ∃ b cb, b ∈ L ∧ h.bs.get b ≠ none ∧ 8 ≤ b ∧ ρ.m b = some cb ∧ cb.blk = k
  have h0 := finFs_ok hv ρ S w cargs H (fun b cb h1 h2 h3 h4 => ⟨b, cb, h1, h2, h3, h4, rfl⟩) hc
  refine (hf (snap ρ.fz S w) w cargs (snap_ok H.frz) h0).mono ?_
  rintro e w' ⟨fz', c, rfl, h1, h2, h3, h4, h5⟩
  have hx : Ext ρ ⟨ρ.m, fz'⟩ := ⟨fun _ _ h => h, fun k a hk => h3 k a (snap_old hk)⟩
  have hk : Keep N own w w' := ⟨h5.os, h5.tape, h5.output, h5.size, fun k hk _ => h5.block k (Nat.lt_of_lt_of_le hk hN) (fun x => x)⟩
  rcases hg with ⟨rfl, hs⟩ | rfl
  · refine ⟨ρ, c, rfl, VR.scalar hs h1, ?_, hk, O, Ext2.refl _ _⟩
    refine ⟨fun b o hg cb hb => ?_, H.inj, H.fresh, H.live, fun b cb hb => Nat.lt_of_lt_of_le (H.bound b cb hb) h5.size, H.ro, H.low, fun k arr hk => h2 k arr (h3 k arr (snap_old hk)), H.sep⟩
    rw [h5.block _ (H.bound b cb hb) (fun x => x)]
    exact H.blk b o hg cb hb
  · have hget : ∀ b o, (dropB (L) h).bs.get b = some o → b ∉ L ∧ h.bs.get b = some o := by
      intro b o hb
      have hb : (delL (L) h.bs).get b = some o := hb
      rw [get_delL] at hb
      split at hb
      · cases hb
      · rename_i hn; exact ⟨hn, hb⟩
    refine ⟨⟨ρ.m, fz'⟩, c, rfl, VR.ext (ρ := coldR fz') (ρ' := ⟨ρ.m, fz'⟩) ⟨fun _ _ q => (by cases q), fun _ _ q => q⟩ h1, ?_, hk, ⟨O.m, fun k a hk => ?_⟩, hx, fun _ _ => rfl⟩
    · refine ⟨fun b o hg cb hb => ?_, fun b b' cb cb' h8 q1 q2 => H.inj b b' cb cb' h8 ?_ ?_, H.fresh, fun b hb => ?_, fun b cb hb => Nat.lt_of_lt_of_le (H.bound b cb hb) h5.size, fun b o hb => H.ro b o (hget b o hb).2, H.low, h2, fun b o cb hb h8 hcb => ?_⟩
      · show blkR _ w'.heap[cb.blk]? cb o
        rw [h5.block _ (H.bound b cb hb) (fun x => x)]
        exact (H.blk b o (hget b o hg).2 cb hb).ext hx
      · intro e; apply q1
        show (delL (L) h.bs).get b = none
        rw [get_delL]; split
        · rfl
        · exact e
      · intro e; apply q2
        show (delL (L) h.bs).get b' = none
        rw [get_delL]; split
        · rfl
        · exact e
      · show (delL (L) h.bs).get b = none
        rw [get_delL]; split
        · rfl
        · exact H.live b hb
      · obtain ⟨hn, hb⟩ := hget b o hb
        cases hq : fz' cb.blk with
        | none => exact hq
        | some a =>
          rcases h4 _ _ hq with h6 | h6
          · rcases snap_lt h6 with h7 | ⟨b0, cb0, e1, e2, e3, e4, e5⟩
            · have := H.sep b o cb hb h8 hcb
              rw [this] at h7; cases h7
            · have := H.inj b0 b cb0 cb h8 e2 (by rw [hb]; simp) e4 hcb e5
              subst this
              exact absurd e1 hn
          · have := H.bound b cb hcb
            omega
    · rcases h4 k a hk with h6 | h6
      · rcases snap_lt h6 with h7 | ⟨b0, cb0, e1, e2, e3, e4, e5⟩
        · exact O.f k a h7
        · subst e5
          rcases O.m b0 cb0 e3 e4 with h8 | h8
          · exact .inl h8
          · exact .inr (.inr h8)
      · exact .inl (Nat.le_trans hN h6)
/-- one function more: its arguments may be the run's own -/
def addV (U : USum) (g : FuncId) (F : List AV → Option (T AV)) : USum := fun f a h => match Nat.beq f g with
  | true => match idps (fun _ => false) a with
    | true => match F a with
      | some t => some (t.bind fun v => .leaf (v, none))
      | none => none
    | false => match finFs h a with
      | .leaf r => match F r.1 with
        | some t => some (t.bind fun v => match scalar v with
          | true => .leaf (v, none)
          | false => .leaf (v, some (dropB r.2 h)))
        | none => none
      | tr => some (tr.bind fun r => match F r.1 with
        | some t => t.bind fun v => match scalar v with
          | true => .leaf (v, none)
          | false => .leaf (v, some (dropB r.2 h))
        | none => .ck False (.leaf (undefA, none)))
  | false => U f a h
theorem GoodU.addV {U : USum} (G : GoodU P U) {g : FuncId} {F : List AV → Option (T AV)} (hF : FnSpec P g F) : GoodU P (addV U g F) := by
  refine ⟨fun f a h t e v q hs => ?_, G.num, G.mix⟩
  unfold EV.addV at e
  split at e
  · rename_i hfg
    have hfg : f = g := Nat.eq_of_beq_eq_true hfg
    subst hfg
    split at e
    · rename_i hi
      split at e
      · rename_i t' ht
        simp only [Option.some.injEq] at e; subst e
        obtain ⟨u, h1, h2⟩ := T.sel_bind hs
        have h2 : (u, Option.none) = (v, q) := h2
        cases h2
        exact callOk_of_fn (hF a t' ht v h1) hi h
      · cases e
    · have fin : ∀ {a' : List AV} {L : List Nat} {t' : T AV}, (finFs h a).Sel (a', L) → F a' = some t' → (t'.bind fun v => match scalar v with
          | true => T.leaf (v, Option.none)
          | false => .leaf (v, some (dropB L h))).Sel (v, q) → CallOk P f a h v q := by
        intro a' L t' h1 ht h2
        obtain ⟨u, h3, h4⟩ := T.sel_bind h2
        split at h4
        · rename_i hs'
          have h4 : (u, Option.none) = (v, q) := h4
          cases h4
          exact callOk_view h1 (hF a' t' ht v h3) Option.none (.inl ⟨rfl, hs'⟩)
        · have h4 : (u, some _) = (v, q) := h4
          cases h4
          exact callOk_view h1 (hF a' t' ht v h3) _ (.inr rfl)
      split at e
      · rename_i r hr
        split at e
        · rename_i t' ht
          simp only [Option.some.injEq] at e; subst e
          obtain ⟨a', L⟩ := r
          exact fin (by rw [hr]; rfl) ht hs
        · cases e
      · simp only [Option.some.injEq] at e; subst e
        obtain ⟨⟨a', L⟩, h1, h2⟩ := T.sel_bind hs
        split at h2
        · rename_i t' ht
          exact fin h1 ht h2
        · exact h2.1.elim
  · exact G.ok f a h t e v q hs

/-- a leaf, with what is given back frozen -/
inductive Lv where
  | to (m : AM)
  | fin (v : AV)
  | bad (n : Nat)
def finL : Lf → T Lv
  | .to m => .leaf (.to m)
  | .done v h => (finF h finN v).bind fun a => .leaf (.fin a.1)
  | .bad n => .leaf (.bad n)
def symF (P : Program) (U : USum) (y : Hy) (n : Nat) (m : AM) : T Lv := (symT P U y n m).bind finL
/-- a run that gives back a value, when all is frozen -/
def EndsF (P : Program) (m : AM) (Q : AV → Prop) : Prop := ∃ v', Q v' ∧ EndsQ P 0 m fun v h => FrzA h v v'
theorem EndsF.lead {m m' : AM} {Q : AV → Prop} (L : Lead P 0 m m') (e : EndsF P m' Q) : EndsF P m Q := by
  obtain ⟨v', q, e⟩ := e
  exact ⟨v', q, EndsQ.lead L e⟩
def EndLv (P : Program) (Q : AV → Prop) : Lv → Prop
  | .to m => EndsF P m Q
  | .fin v => Q v
  | .bad _ => False
theorem endsF_of {U : USum} (G : GoodU P U) {y : Hy} {n : Nat} {m : AM} {Q : AV → Prop} {t : T Lv} (ht : symF P U y n m = t) (h : t.Wp (EndLv P Q)) (hy : y.pn = 0 := by rfl) : EndsF P m Q := by
  subst ht
  obtain ⟨lv, h1, h2⟩ := T.wp_sel h
  obtain ⟨lf, h3, h4⟩ := T.sel_bind (t := symT P U y n m) h1
  have hr := symT_ok G h3
  rw [hy] at hr
  cases lf with
  | to m' =>
    have h4 : Lv.to m' = lv := h4
    subst h4
    exact EndsF.lead hr h2
  | done v hh =>
    obtain ⟨a, h5, h6⟩ := T.sel_bind (t := finF hh finN v) h4
    have h6 : Lv.fin a.1 = lv := h6
    subst h6
    exact ⟨a.1, h2, v, hh, ⟨_, finF_ok h5⟩, hr⟩
  | bad k =>
    have h4 : Lv.bad k = lv := h4
    subst h4
    exact h2.elim
/-- the beginning of a call -/
def stt (P : Program) (f : FuncId) (args : List AV) : AM := match enterA P f args with
  | some g => ⟨g, [], .empty, ⟨noHint, noSure⟩, []⟩
  | none => ⟨⟨0, ⟨none, []⟩, 0, .nil, []⟩, [], .empty, ⟨noHint, noSure⟩, []⟩
def isSt (P : Program) (f : FuncId) (args : List AV) : Bool := match enterA P f args with
  | some _ => true
  | none => false
theorem fn_of_endsF {f : FuncId} {args : List AV} {Q : AV → Prop} (hs : isSt P f args = true) (e : EndsF P (stt P f args) Q) : ∃ v, Q v ∧ FnCall P f args v := by
  obtain ⟨v', q, e⟩ := e
  refine ⟨v', q, ?_⟩
  unfold isSt at hs
  split at hs
  · rename_i g hg
    refine fn_of_ends (m := stt P f args) ?_ e
    unfold startA stt
    simp only [hg]
  · cases hs
theorem fn_of_eq {f : FuncId} {args : List AV} {v : AV} (hs : isSt P f args = true) (e : EndsF P (stt P f args) (· = v)) : FnCall P f args v := by
  obtain ⟨_, rfl, h⟩ := fn_of_endsF hs e
  exact h
theorem fn_of_fin {U : USum} (G : GoodU P U) {y : Hy} {n : Nat} {f : FuncId} {args : List AV} {v : AV} {t : T Lv} (hs : isSt P f args = true) (ht : symF P U y n (stt P f args) = t) (h : t.Wp (EndLv P (· = v))) (hy : y.pn = 0 := by rfl) : FnCall P f args v :=
  fn_of_eq hs (endsF_of G ht h hy)

/-! values known otherwise -/
/-- a value that is as good as another one -/
def Like (v v' : AV) : Prop := ∀ (ρ : Rho) (c : Value), VR ρ v c → VR ρ v' c
theorem Like.rfl {v : AV} : Like v v := fun _ _ h => h
theorem FnCall.like {f : FuncId} {args : List AV} {v v' : AV} (h : FnCall P f args v) (hl : Like v v') : FnCall P f args v' := by
  intro fz w cargs hf hv
  refine (h fz w cargs hf hv).mono ?_
  rintro e w' ⟨fz', c, h1, h2, h3⟩
  exact ⟨fz', c, h1, hl _ _ h2, h3⟩
theorem Like.ls {n e : Nat} {f f' : Nat → List AV} {full full' : Bool} (hf : ∀ i, i < n → f i = f' i) (hfull : full' = true → full = true) : Like (.ls n f e full) (.ls n f' e full') := by
  intro ρ c h
  simp only [VR] at h ⊢
  rcases h with ⟨h0, h⟩ | ⟨h0, blk, off, k, arr, h1, h2, h3, h4, h5, h6⟩
  · refine .inl ⟨h0, ?_⟩
    rcases h with h | ⟨a, k, h, hk⟩
    · exact .inl h
    · exact .inr ⟨a, k, h, fun h' => hk (hfull h')⟩
  · exact .inr ⟨h0, blk, off, k, arr, h1, h2, fun h' => h3 (hfull h'), h4, h5, fun j hj => by rw [← hf j hj]; exact h6 j hj⟩
theorem Like.nilsl {f : Nat → List AV} {e : Nat} {full : Bool} : Like .nilsl (.ls 0 f e full) := fun _ _ h => VR.nil_ls f e full h
theorem Like.tup {vs vs' : List AV} (h : ∀ ρ cs, VRs ρ vs cs → VRs ρ vs' cs) : Like (.tup vs) (.tup vs') := by
  intro ρ c q
  simp only [VR] at q ⊢
  obtain ⟨as, rfl, q⟩ := q
  exact ⟨as, by rfl, h ρ _ q⟩
theorem Like.agg {vs vs' : List AV} (h : ∀ ρ cs, VRs ρ vs cs → VRs ρ vs' cs) : Like (.agg vs) (.agg vs') := by
  intro ρ c q
  simp only [VR] at q ⊢
  obtain ⟨as, rfl, q⟩ := q
  exact ⟨as, by rfl, h ρ _ q⟩
theorem likes_nil : ∀ ρ cs, VRs ρ [] cs → VRs ρ [] cs := fun _ _ h => h
theorem likes_cons {v v' : AV} {vs vs' : List AV} (h : Like v v') (hs : ∀ ρ cs, VRs ρ vs cs → VRs ρ vs' cs) : ∀ ρ cs, VRs ρ (v :: vs) cs → VRs ρ (v' :: vs') cs := by
  intro ρ cs q
  simp only [VRs] at q ⊢
  obtain ⟨c, r, rfl, q1, q2⟩ := q
  exact ⟨c, r, rfl, h _ _ q1, hs _ _ q2⟩

/-! heads of loops -/
def toL {α : Type} (t : T α) (f : α → List AM) : List AM := T.rec (motive := fun _ => List AM) f (fun _ _ _ a b => a ++ b) (fun _ _ a => a) (fun _ _ _ a => a) t
def lvM : Lv → List AM
  | .to m => [m]
  | _ => []
/-- of the states at which a run was halted: what is to be done there -/
def todoL (t : T Lv) (k : Nat) : List AItem := match (toL t lvM)[k]? with
  | some m => m.top.todo
  | none => []
def blksL (l : List ABlk) : AH := ⟨go l 8, 8 + lenF l 0⟩
where go : List ABlk → Nat → Tr ABlk
  | [], _ => .nil
  | o :: r, i => Tr.set o (go r (Nat.succ i)) i
/-- a state of a loop: its function, how many slots, what they have, what is to be done, the blocks from 8 on -/
def hd (f : FuncId) (n : Nat) (slots : List (Nat × AV)) (todo : List AItem) (bs : List ABlk) : AM := ⟨⟨f, ⟨none, []⟩, n, setT slots, todo⟩, [], blksL bs, ⟨noHint, noSure⟩, []⟩
/-- blocks that hold the same -/
inductive BsEq : List ABlk → List ABlk → Prop where
  | nil : BsEq [] []
  | same (o : ABlk) {l l' : List ABlk} : BsEq l l' → BsEq (o :: l) (o :: l')
  | els {e n : Nat} {f f' : Nat → List AV} {l l' : List ABlk} : 0 < e → (∀ k, k < n → f k = f' k) → BsEq l l' → BsEq (.els e n f :: l) (.els e n f' :: l')
  | imap {kk : IntKind} {u u' : List (Int × AV)} {hs hs' : Int → Bool} {x x' : Int → AV} {l l' : List ABlk} : (∀ n, imH u hs n = imH u' hs' n) → (∀ n, imH u hs n = true → imV u x n = imV u' x' n) → BsEq l l' → BsEq (.imap kk u hs x :: l) (.imap kk u' hs' x' :: l')
  | elsL {e n : Nat} {f f' : Nat → List AV} {l l' : List ABlk} : 0 < e → (∀ k, k < n → ∀ ρ cs, VRs ρ (f k) cs → VRs ρ (f' k) cs) → BsEq l l' → BsEq (.els e n f :: l) (.els e n f' :: l')
  | row {n : Nat} {z z' : List AV} {t t' : Tr AV} {l l' : List ABlk} : (∀ i v', rowGet n z' t' i = some v' → ∃ v, rowGet n z t i = some v ∧ Like v v') → BsEq l l' → BsEq (.row n z t :: l) (.row n z' t' :: l')
/-- one block in place of another one -/
def BEq (o o' : ABlk) : Prop := o = o' ∨ (∃ e n f f', 0 < e ∧ o = .els e n f ∧ o' = .els e n f' ∧ ∀ k, k < n → ∀ ρ cs, VRs ρ (f k) cs → VRs ρ (f' k) cs) ∨ (∃ kk u u' hs hs' x x', o = .imap kk u hs x ∧ o' = .imap kk u' hs' x' ∧ (∀ n, imH u hs n = imH u' hs' n) ∧ ∀ n, imH u hs n = true → imV u x n = imV u' x' n) ∨
  ∃ n z z' t t', o = .row n z t ∧ o' = .row n z' t' ∧ ∀ i v', rowGet n z' t' i = some v' → ∃ v, rowGet n z t i = some v ∧ Like v v'
theorem BsEq.len {l l' : List ABlk} (h : BsEq l l') : l.length = l'.length := by
  induction h with
  | nil => rfl
  | same o _ ih => simp [ih]
  | els _ _ _ ih => simp [ih]
  | imap _ _ _ ih => simp [ih]
  | elsL _ _ _ ih => simp [ih]
  | row _ _ ih => simp [ih]
theorem BsEq.get {l l' : List ABlk} (h : BsEq l l') : ∀ (i b : Nat) (o' : ABlk), (blksL.go l' i).get b = some o' → ∃ o, (blksL.go l i).get b = some o ∧ BEq o o' := by
  induction h with
  | nil => intro i b o' h; exact ⟨o', h, .inl rfl⟩
  | same o _ ih =>
    intro i b o' h
    simp only [blksL.go, Tr.get_set] at h ⊢
    split at h
    · rename_i e; exact ⟨o, by rw [if_pos e], .inl (by simpa using h)⟩
    · rename_i e; rw [if_neg e]; exact ih _ _ _ h
  | els he hf _ ih =>
    intro i b o' h
    simp only [blksL.go, Tr.get_set] at h ⊢
    split at h
    · rename_i e
      simp only [Option.some.injEq] at h
      exact ⟨_, by rw [if_pos e], .inr (.inl ⟨_, _, _, _, he, rfl, h.symm, fun k hk ρ cs q => by rw [← hf k hk]; exact q⟩)⟩
    · rename_i e; rw [if_neg e]; exact ih _ _ _ h
  | elsL he hf _ ih =>
    intro i b o' h
    simp only [blksL.go, Tr.get_set] at h ⊢
    split at h
    · rename_i e
      simp only [Option.some.injEq] at h
      exact ⟨_, by rw [if_pos e], .inr (.inl ⟨_, _, _, _, he, rfl, h.symm, hf⟩)⟩
    · rename_i e; rw [if_neg e]; exact ih _ _ _ h
  | row hf _ ih =>
    intro i b o' h
    simp only [blksL.go, Tr.get_set] at h ⊢
    split at h
    · rename_i e
      simp only [Option.some.injEq] at h
      exact ⟨_, by rw [if_pos e], .inr (.inr (.inr ⟨_, _, _, _, _, rfl, h.symm, hf⟩))⟩
    · rename_i e; rw [if_neg e]; exact ih _ _ _ h
  | imap hH hV _ ih =>
    intro i b o' h
    simp only [blksL.go, Tr.get_set] at h ⊢
    split at h
    · rename_i e
      simp only [Option.some.injEq] at h
      exact ⟨_, by rw [if_pos e], .inr (.inr (.inl ⟨_, _, _, _, _, _, _, rfl, h.symm, hH, hV⟩))⟩
    · rename_i e; rw [if_neg e]; exact ih _ _ _ h
theorem BsEq.next {bs bs' : List ABlk} (h : BsEq bs bs') : (blksL bs').next = (blksL bs).next := by
  show 8 + lenF bs' 0 = 8 + lenF bs 0
  rw [lenF_eq, lenF_eq, h.len]
theorem hrel_els {bs bs' : List ABlk} {ρ : Rho} {w : World} (h : BsEq bs bs') (H : HRel ρ (blksL bs) w) : HRel ρ (blksL bs') w := by
  have hnext : (blksL bs').next = (blksL bs).next := by
    show 8 + lenF bs' 0 = 8 + lenF bs 0
    rw [lenF_eq, lenF_eq, h.len]
  have hget : ∀ b o', (blksL bs').bs.get b = some o' → ∃ o, (blksL bs).bs.get b = some o ∧ BEq o o' := fun b o' hb => h.get 8 b o' hb
  have hne : ∀ b, (blksL bs').bs.get b ≠ none → (blksL bs).bs.get b ≠ none := by
    intro b hb
    cases hq : (blksL bs').bs.get b with
    | none => exact absurd hq hb
    | some o' =>
      obtain ⟨o, h1, _⟩ := hget b o' hq
      rw [h1]; simp
  refine ⟨fun b o' hb cb hcb => ?_, fun x y cx cy g8 gx gy qx qy hh => H.inj x y cx cy g8 (hne x gx) (hne y gy) qx qy hh, fun b hb => H.fresh b (by rw [← hnext]; exact hb), fun b hb => ?_, H.bound, fun b o' hb hr => ?_, by rw [hnext]; exact H.low, H.frz, fun b o' cb hb h8 hcb => ?_⟩
  · obtain ⟨o, h1, h2⟩ := hget b o' hb
    have := H.blk b o h1 cb hcb
    rcases h2 with rfl | ⟨e, n, f, f', he, rfl, rfl, hf⟩ | ⟨kk, u, u', hs, hs', x, x', rfl, rfl, hH, hV⟩ | ⟨n, z, z', t, t', rfl, rfl, hf⟩
    · exact this
    rotate_left
    · obtain ⟨ces, k, k1, k2, k3, k4⟩ := this
      refine ⟨ces, k, k1, fun e he => ?_, fun n hn => k3 n (by rw [hH]; exact hn), k4⟩
      obtain ⟨n, g1, g2, g3⟩ := k2 e he
      exact ⟨n, g1, by rw [← hH]; exact g2, by rw [← hV n g2]; exact g3⟩
    · obtain ⟨arr, elem, k1, k2, k3, k4⟩ := this
      refine ⟨arr, elem, k1, k2, k3, fun i v' hi => ?_⟩
      obtain ⟨v, g1, g2⟩ := hf i v' hi
      obtain ⟨c, g3, g4⟩ := k4 i v g1
      exact ⟨c, g3, g2 _ _ g4⟩
    · obtain ⟨arr, elem, k1, k2, k3, k4, k5⟩ := this
      refine ⟨arr, elem, k1, k2, k3, k4, fun i hi => ?_⟩
      have hin : i < n := by
        have h6 : (i + 1) * e ≤ n * e := by omega
        have := Nat.le_of_mul_le_mul_right h6 he
        omega
      exact ⟨hf i hin _ _ (k5 i hi).1, (k5 i hi).2⟩
  · cases hq : (blksL bs').bs.get b with
    | none => rfl
    | some o' =>
      obtain ⟨o, h1, _⟩ := hget b o' hq
      rw [H.live b (by rw [← hnext]; exact hb)] at h1
      cases h1
  · obtain ⟨o, h1, h2⟩ := hget b o' hb
    refine H.ro b o h1 fun n f e => ?_
    rcases h2 with rfl | ⟨_, _, _, _, _, rfl, _, _⟩ | ⟨_, _, _, _, _, _, _, rfl, _⟩ | ⟨_, _, _, _, _, rfl, _⟩
    · exact hr n f e
    · cases e
    · cases e
    · cases e
  · obtain ⟨o, h1, _⟩ := hget b o' hb
    exact H.sep b o cb h1 h8 hcb
theorem lead_els {f : FuncId} {n : Nat} {slots : List (Nat × AV)} {todo : List AItem} {bs bs' : List ABlk} (hd0 : isDreg todo = false) (h : BsEq bs bs') {p : Nat} : Lead P p (hd f n slots todo bs) (hd f n slots todo bs') := by
  intro N own w0 cs0 f0 ρ0 n0 fr cs w l1 l2 M
  obtain ⟨ρ, cfs, B, hB, H, F, SS, hcs, O, X⟩ := M.ex
  have F : FRp ρ (hd f n slots todo bs).top fr := plain_frame F (fun ops all done floats rest wait k e => by
    have e : todo = _ := e
    rw [e] at hd0; cases hd0)
  have H : HRel ρ (blksL bs) w := H
  have H' : HRel ρ (blksL bs') w := hrel_els h H
  refine ⟨fr, cs, w, Steps.refl _ _, ⟨⟨ρ, cfs, B, ?_, H', .inl F, SS, hcs, O, X⟩, topok_plain F _, M.keep, M.size, M.bot⟩⟩
  show B ≤ (blksL bs').next
  rw [h.next]; exact hB
theorem EndsF.els {f : FuncId} {n : Nat} {slots : List (Nat × AV)} {todo : List AItem} {bs bs' : List ABlk} {Q : AV → Prop} (hd0 : isDreg todo = false) (h : BsEq bs bs') (e : EndsF P (hd f n slots todo bs') Q) : EndsF P (hd f n slots todo bs) Q := EndsF.lead (lead_els hd0 h) e
/-- what is told of a run -/
def hyp (p : Nat) (sp : List (FuncId × List Nat)) (st : List (FuncId × List (Nat × List Nat))) (nz : List (FuncId × List (Nat × AV))) (ek : List (FuncId × List Nat)) : Hy :=
  ⟨fun f d => look f sp (hasN · d), fun f d => lookO f nz (fun l => lookN d l), fun f d => look f ek (hasN · d), fun f n => lookO f st (fun l => lookN n l), p⟩
where
  look {α : Type} (f : Nat) (l : List (Nat × α)) (k : α → Bool) : Bool := match l with
    | [] => false
    | (g, x) :: r => match Nat.beq f g with | true => k x | false => look f r k
  lookO {α β : Type} (f : Nat) (l : List (Nat × α)) (k : α → Option β) : Option β := match l with
    | [] => none
    | (g, x) :: r => match Nat.beq f g with | true => k x | false => lookO f r k
  lookN {α : Type} (f : Nat) (l : List (Nat × α)) : Option α := match l with
    | [] => none
    | (g, x) :: r => match Nat.beq f g with | true => some x | false => lookN f r

def hy (sp : List (FuncId × List Nat)) (st : List (FuncId × List (Nat × List Nat))) (nz : List (FuncId × List (Nat × AV))) (ek : List (FuncId × List Nat)) : Hy := hyp 0 sp st nz ek

/-- a call that answers a scalar of scalars -/
theorem fn_of_pure {f : FuncId} {args : List AV} {v : AV} (h : PureCall P f args v) : FnCall P f args v := by
  intro fz w cargs hf hv
  refine (h w.heap.size Own.no (coldR fz) w cargs hv (Nat.le_refl _)).mono ?_
  rintro e w' ⟨c, h1, h2, h3⟩
  exact ⟨fz, c, h1, h2, fun k a hk => by
    obtain ⟨elem, f, h4⟩ := hf k a hk
    exact ⟨elem, f, by rw [h3.block _ (Array.getElem?_eq_some_iff.mp h4).1 (fun x => x)]; exact h4⟩, fun _ _ h => h, fun _ _ h => .inl h, h3⟩
end
end Go.EV
