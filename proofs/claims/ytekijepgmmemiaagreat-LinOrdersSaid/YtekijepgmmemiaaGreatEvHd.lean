/- Own text of this claim: an abstract machine over the given program form, and what follows from it. No condition. -/
import Derived.Test.YtekijepgmmemiaaGreatEvMut
set_option linter.unusedVariables false
set_option linter.unusedSimpArgs false
set_option maxHeartbeats 1000000
namespace Go.EV
noncomputable section
variable {P : Program}
/-! heads of loops, known otherwise -/
inductive SlEq : List (Nat × AV) → List (Nat × AV) → Prop where
  | nil : SlEq [] []
  | same (x : Nat × AV) {l l' : List (Nat × AV)} : SlEq l l' → SlEq (x :: l) (x :: l')
  | like {k : Nat} {v v' : AV} {l l' : List (Nat × AV)} : Like v v' → SlEq l l' → SlEq ((k, v) :: l) ((k, v') :: l')
  | drop {k : Nat} {v : AV} {l l' : List (Nat × AV)} : (l'.all fun x => !Nat.beq x.1 k) = true → SlEq l l' → SlEq ((k, v) :: l) l'
theorem SlEq.rfl : ∀ {l : List (Nat × AV)}, SlEq l l
  | [] => .nil
  | x :: l => .same x SlEq.rfl
theorem setT_cons {k : Nat} {v : AV} {l : List (Nat × AV)} : setT ((k, v) :: l) = (Tr.set v (setT l) k) := by
  show (Tr.set v (setT l) k).force id = _
  rw [Tr.force_eq]; rfl
theorem setT_none {k : Nat} : ∀ {l : List (Nat × AV)}, (l.all fun x => !Nat.beq x.1 k) = true → (setT l).get k = none
  | [], _ => rfl
  | (a, v) :: l, h => by
    simp only [List.all_cons, Bool.and_eq_true, Bool.not_eq_true'] at h
    rw [setT_cons, Tr.get_set, if_neg, setT_none h.2]
    rintro rfl
    have := h.1
    rw [show Nat.beq k k = true from (Tr.beq_true).mpr rfl] at this
    cases this
theorem SlEq.get {l l' : List (Nat × AV)} (h : SlEq l l') : ∀ (i : Nat) (v' : AV), (setT l').get i = some v' → ∃ v, (setT l).get i = some v ∧ Like v v' := by
  induction h with
  | nil => intro i v' h; cases h
  | same x _ ih =>
    obtain ⟨k, v⟩ := x
    intro i v' h
    rw [setT_cons, Tr.get_set] at h ⊢
    split at h
    · rename_i e; exact ⟨v, by rw [if_pos e], by cases h; exact Like.rfl⟩
    · rename_i e; rw [if_neg e]; exact ih i v' h
  | like hl _ ih =>
    intro i v' h
    rw [setT_cons, Tr.get_set] at h ⊢
    split at h
    · rename_i e; exact ⟨_, by rw [if_pos e], by cases h; exact hl⟩
    · rename_i e; rw [if_neg e]; exact ih i v' h
  | @drop k v l l' hn _ ih =>
    intro i v' h
    have hne : i ≠ k := by
      rintro rfl
      rw [setT_none hn] at h; cases h
    rw [setT_cons, Tr.get_set, if_neg hne]
    exact ih i v' h
theorem lead_sl {f : FuncId} {n : Nat} {slots slots' : List (Nat × AV)} {todo : List AItem} {bs : List ABlk} (hd0 : isDreg todo = false) (h : SlEq slots slots') {p : Nat} : Lead P p (hd f n slots todo bs) (hd f n slots' todo bs) := by
  intro N own w0 cs0 f0 ρ0 n0 fr cs w l1 l2 M
  obtain ⟨ρ, cfs, B, hB, H, F, SS, hcs, O, X⟩ := M.ex
  have F : FRp ρ (hd f n slots todo bs).top fr := plain_frame F (fun ops all done floats rest wait k e => by
    have e : todo = _ := e
    rw [e] at hd0; cases hd0)
  have F' : FRp ρ (hd f n slots' todo bs).top fr := ⟨F.fn, F.mode, F.kind, F.defers, F.round, F.size, fun t v' hv => by
    obtain ⟨v, h1, h2⟩ := h.get t v' hv
    obtain ⟨c, h3, h4⟩ := F.tmps t v h1
    exact ⟨c, h3, h2 _ _ h4⟩, F.todo⟩
  exact ⟨fr, cs, w, Steps.refl _ _, ⟨⟨ρ, cfs, B, hB, H, .inl F', SS, hcs, O, X⟩, topok_plain F' _, M.keep, M.size, M.bot⟩⟩
/-- nothing, as a slice of elements -/
theorem Like.nil_es {b e : Nat} : Like .nilsl (.es b 0 0 none e) := fun ρ c h => by
  simp only [VR] at h ⊢
  exact .inl ⟨trivial, trivial, .inl h⟩
theorem blksgo_app {e : Nat} {g : Nat → List AV} : ∀ {bs : List ABlk} {i b : Nat} {o : ABlk}, (blksL.go (bs ++ [.els e 0 g]) i).get b = some o → (b < i + bs.length ∧ (blksL.go bs i).get b = some o) ∨ (b = i + bs.length ∧ o = .els e 0 g)
  | [], i, b, o, h => by
    simp only [List.nil_append, blksL.go, Tr.get_set] at h
    split at h
    · rename_i e; exact .inr ⟨by simpa using e, by cases h; rfl⟩
    · cases h
  | x :: bs, i, b, o, h => by
    simp only [List.cons_append, blksL.go, Tr.get_set] at h ⊢
    split at h
    · rename_i e; exact .inl ⟨by simp; omega, by rw [if_pos e]; exact h⟩
    · rename_i e
      rcases blksgo_app h with ⟨h1, h2⟩ | ⟨h1, h2⟩
      · exact .inl ⟨by simp; omega, by rw [if_neg e]; exact h2⟩
      · exact .inr ⟨by simp; omega, h2⟩
/-- a row of no elements more -/
theorem lead_more {f : FuncId} {n : Nat} {slots : List (Nat × AV)} {todo : List AItem} {bs : List ABlk} (hd0 : isDreg todo = false) (e : Nat) (g : Nat → List AV) {p : Nat} : Lead P p (hd f n slots todo bs) (hd f n slots todo (bs ++ [.els e 0 g])) := by
  intro N own w0 cs0 f0 ρ0 n0 fr cs w l1 l2 M
  obtain ⟨ρ, cfs, B, hB, H, F, SS, hcs, O, X⟩ := M.ex
  have F : FRp ρ (hd f n slots todo bs).top fr := plain_frame F (fun ops all done floats rest wait k e => by
    have e : todo = _ := e
    rw [e] at hd0; cases hd0)
  have H : HRel ρ (blksL bs) w := H
  have hn : (blksL bs).next = 8 + bs.length := by show 8 + lenF bs 0 = _; rw [lenF_eq]
  have hn' : (blksL (bs ++ [.els e 0 g])).next = 8 + bs.length + 1 := by show 8 + lenF (bs ++ [_]) 0 = _; rw [lenF_eq]; simp; omega
  have hnone : ρ.m (8 + bs.length) = none := H.fresh _ (by rw [hn]; exact Nat.le_refl _)
  have hget : ∀ b o, (blksL (bs ++ [.els e 0 g])).bs.get b = some o → (b < 8 + bs.length ∧ (blksL bs).bs.get b = some o) ∨ (b = 8 + bs.length ∧ o = .els e 0 g) := fun b o h => blksgo_app h
  have hne : ∀ b cb, ρ.m b = some cb → (blksL (bs ++ [.els e 0 g])).bs.get b ≠ none → (blksL bs).bs.get b ≠ none := by
    intro b cb hb hx
    cases hq : (blksL (bs ++ [.els e 0 g])).bs.get b with
    | none => exact absurd hq hx
    | some o =>
      rcases hget b o hq with ⟨_, h⟩ | ⟨h, _⟩
      · rw [h]; simp
      · rw [h, hnone] at hb; cases hb
  have H' : HRel ρ (blksL (bs ++ [.els e 0 g])) w := by
    refine ⟨fun b o hb cb hcb => ?_, fun x y cx cy g8 gx gy qx qy hh => H.inj x y cx cy g8 (hne _ _ qx gx) (hne _ _ qy gy) qx qy hh, fun b hb => H.fresh b (by rw [hn]; rw [hn'] at hb; omega), fun b hb => ?_, H.bound, fun b o hb hr => ?_, by rw [hn']; omega, H.frz, fun b o cb hb h8 hcb => ?_⟩
    · rcases hget b o hb with ⟨_, h⟩ | ⟨h, _⟩
      · exact H.blk b o h cb hcb
      · rw [h, hnone] at hcb; cases hcb
    · cases hq : (blksL (bs ++ [.els e 0 g])).bs.get b with
      | none => rfl
      | some o =>
        rw [hn'] at hb
        rcases hget b o hq with ⟨h, _⟩ | ⟨h, _⟩ <;> omega
    · rcases hget b o hb with ⟨_, h⟩ | ⟨h, _⟩
      · exact H.ro b o h hr
      · omega
    · rcases hget b o hb with ⟨_, h⟩ | ⟨h, _⟩
      · exact H.sep b o cb h h8 hcb
      · rw [h, hnone] at hcb; cases hcb
  refine ⟨fr, cs, w, Steps.refl _ _, ⟨⟨ρ, cfs, B, ?_, H', .inl F, SS, hcs, O, X⟩, topok_plain F _, M.keep, M.size, M.bot⟩⟩
  have hB : B ≤ (blksL bs).next := hB
  show B ≤ (blksL (bs ++ [.els e 0 g])).next
  rw [hn']; rw [hn] at hB; omega
theorem EndsF.norm {f : FuncId} {n : Nat} {slots slots' : List (Nat × AV)} {todo : List AItem} {bs bs' : List ABlk} {Q : AV → Prop} (hd0 : isDreg todo = false) (hs : SlEq slots slots') (h : BsEq bs bs') (e : EndsF P (hd f n slots' todo bs') Q) : EndsF P (hd f n slots todo bs) Q :=
  EndsF.lead (lead_sl hd0 hs) (EndsF.lead (lead_els hd0 h) e)
theorem EndsM.norm {p : Nat} {f : FuncId} {n : Nat} {slots slots' : List (Nat × AV)} {todo : List AItem} {bs bs' : List ABlk} {Q : AV → List ABlk → Prop} (hd0 : isDreg todo = false) (hs : SlEq slots slots') (h : BsEq bs bs') (e : EndsM P p (hd f n slots' todo bs') Q) : EndsM P p (hd f n slots todo bs) Q :=
  EndsM.lead (lead_sl hd0 hs) (EndsM.lead (lead_els hd0 h) e)
theorem EndsF.more {f : FuncId} {n : Nat} {slots : List (Nat × AV)} {todo : List AItem} {bs : List ABlk} {Q : AV → Prop} (hd0 : isDreg todo = false) (e : Nat) (g : Nat → List AV) (h : EndsF P (hd f n slots todo (bs ++ [.els e 0 g])) Q) : EndsF P (hd f n slots todo bs) Q := EndsF.lead (lead_more hd0 e g) h
theorem EndsM.more {p : Nat} {f : FuncId} {n : Nat} {slots : List (Nat × AV)} {todo : List AItem} {bs : List ABlk} {Q : AV → List ABlk → Prop} (hd0 : isDreg todo = false) (e : Nat) (g : Nat → List AV) (h : EndsM P p (hd f n slots todo (bs ++ [.els e 0 g])) Q) : EndsM P p (hd f n slots todo bs) Q := EndsM.lead (lead_more hd0 e g) h
theorem BsEq.rfl : ∀ {l : List ABlk}, BsEq l l
  | [] => .nil
  | x :: l => .same x BsEq.rfl
/-! elements of a list -/
def rowL {α : Type} [Inhabited α] (enc : α → List AV) (l : List α) (k : Nat) : List AV := enc (l[k]?.getD default)
theorem rowL_snoc {α : Type} [Inhabited α] {enc : α → List AV} {l : List α} {a : α} {g : Nat → List AV} (hg : g 0 = enc a) : ∀ k, k < l.length + 1 → catE l.length (rowL enc l) g k = rowL enc (l ++ [a]) k := by
  intro k hk
  unfold catE rowL
  rcases Nat.lt_or_ge k l.length with h | h
  · rw [bltT h, List.getElem?_append_left h]; rfl
  · have : k = l.length := by omega
    subst this
    rw [bltF (by omega), List.getElem?_append_right (by omega)]
    simp [hg]
theorem freeE_rowL {α : Type} [Inhabited α] {enc : α → List AV} {l : List α} {e n : Nat} (he : 0 < e) (h : ∀ a, idps (fun _ => false) (enc a) = true) : FreeE e n (rowL enc l) := FreeE.of he fun _ _ => FreeL.of (h _)
/-! what a tree comes to -/
def T.valV {β : Type} (dec : AV → β) (t : T Lv) : β := T.rec (motive := fun _ => β) (fun l => match l with | .fin v => dec v | _ => dec undefA) (fun c _ _ t e => bif c then t else e) (fun _ _ t => t) (fun _ _ _ t => t) t
def T.OkV {β : Type} (enc : β → AV) (dec : AV → β) (t : T Lv) : Prop := T.rec (motive := fun _ => Prop) (fun l => match l with | .fin v => v = enc (dec v) | _ => False) (fun c _ _ t e => (c = true → t) ∧ (c = false → e)) (fun p _ t => p ∧ t) (fun p _ _ t => p ∧ t) t
theorem T.okV_wp {β : Type} {enc : β → AV} {dec : AV → β} : ∀ {t : T Lv} {x : β}, t.OkV enc dec → t.valV dec = x → t.Wp (EndLv P (· = enc x))
  | .leaf (.fin v), x, h, hx => by
    have h : v = enc (dec v) := h
    have hx : dec v = x := hx
    show v = enc x
    rw [← hx]; exact h
  | .leaf (.to m), x, h, _ => False.elim h
  | .leaf (.bad n), x, h, _ => False.elim h
  | .br c t e, x, h, hx => ⟨fun hc => T.okV_wp (h.1 hc) (by rw [← hx]; show _ = (bif c then T.valV dec t else T.valV dec e); rw [hc]; rfl), fun hc => T.okV_wp (h.2 hc) (by rw [← hx]; show _ = (bif c then T.valV dec t else T.valV dec e); rw [hc]; rfl)⟩
  | .ck p t, x, h, hx => ⟨h.1, T.okV_wp h.2 hx⟩
  | .cd p _ t, x, h, hx => ⟨h.1, T.okV_wp h.2 hx⟩
theorem T.okV_br {β : Type} {enc : β → AV} {dec : AV → β} {c : Bool} {t e : T Lv} (h1 : c = true → t.OkV enc dec) (h2 : c = false → e.OkV enc dec) : (T.br c t e).OkV enc dec := ⟨h1, h2⟩
theorem T.okV_leaf {β : Type} {enc : β → AV} {dec : AV → β} {v : AV} (h : v = enc (dec v)) : (T.leaf (.fin v) : T Lv).OkV enc dec := h
theorem T.okV_ck {β : Type} {enc : β → AV} {dec : AV → β} {p : Prop} {t : T Lv} (h1 : p) (h2 : t.OkV enc dec) : (T.ck p t).OkV enc dec := ⟨h1, h2⟩
theorem T.okV_cd {β : Type} {enc : β → AV} {dec : AV → β} {p : Prop} {d : Decidable p} {t : T Lv} (h1 : p) (h2 : t.OkV enc dec) : (T.cd p d t).OkV enc dec := ⟨h1, h2⟩
end
end Go.EV
