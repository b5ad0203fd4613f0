/- Own text of this claim: an abstract machine over the given program form, and what follows from it. No condition. -/
import Derived.Test.YtekijepgmmemiaaGreatEvQ
set_option linter.unusedVariables false
set_option linter.unusedSimpArgs false
set_option maxHeartbeats 1000000
namespace Go.EV
noncomputable section
variable {P : Program}

/-! calls that change the blocks that they are given -/
def FreeC : ABlk → Prop
  | .els e n f => FreeE e n f
  | .ro _ _ => False
  | _ => True
/-- a call over blocks (from 8 on): what it gives back, what the blocks are then, and more of them -/
structure MutCall (P : Program) (f : FuncId) (a : List AV) (bs : List ABlk) (v : AV) (bs' : List ABlk) : Prop where
  len : bs.length ≤ bs'.length
  ok : CallOk P f a (blksL bs) v (some (blksL bs'))
  free : ∀ o ∈ bs', FreeC o
  ids : bs'.all (idB fun _ => true) = true

/-- blocks by their names, renamed -/
def smallL (h : AH) (l : List Nat) : List Nat → Option (List ABlk)
  | [] => some []
  | b :: r => match h.bs.get b with
    | some o => match smallL h l r with
      | some os => some (rnB (nm l) o :: os)
      | none => none
    | none => none
theorem smallL_get {h : AH} {l : List Nat} : ∀ {r : List Nat} {bs : List ABlk} {i : Nat}, smallL h l r = some bs → ∀ b, (blksL.go bs i).get b = (rnH.go h l r i).get b
  | [], bs, i, e, b => by
    simp only [smallL, Option.some.injEq] at e
    subst e; rfl
  | x :: r, bs, i, e, b => by
    unfold smallL at e
    split at e
    · rename_i o ho
      split at e
      · rename_i os hos
        simp only [Option.some.injEq] at e
        subst e
        unfold rnH.go
        simp only [blksL.go, ho, Tr.get_set]
        split
        · rfl
        · exact smallL_get hos b
      · cases e
    · cases e
theorem smallL_len {h : AH} {l : List Nat} : ∀ {r : List Nat} {bs : List ABlk}, smallL h l r = some bs → bs.length = r.length ∧ ∀ b, b ∈ r → h.bs.get b ≠ none
  | [], bs, e => by
    simp only [smallL, Option.some.injEq] at e
    subst e; simp
  | x :: r, bs, e => by
    unfold smallL at e
    split at e
    · rename_i o ho
      split at e
      · rename_i os hos
        simp only [Option.some.injEq] at e
        subst e
        obtain ⟨h1, h2⟩ := smallL_len hos
        refine ⟨by simp [h1], fun b hb => ?_⟩
        rcases List.mem_cons.mp hb with rfl | hb
        · rw [ho]; simp
        · exact h2 b hb
      · cases e
    · cases e
theorem smallL_free {h : AH} {l : List Nat} : ∀ {r : List Nat} {bs : List ABlk}, smallL h l r = some bs → blksFree h r → blksOk h l r = true → ∀ o ∈ bs, FreeC o
  | [], bs, e, _, _ => by
    simp only [smallL, Option.some.injEq] at e
    subst e; simp
  | x :: r, bs, e, hf, hk => by
    unfold smallL at e
    split at e
    · rename_i o ho
      split at e
      · rename_i os hos
        simp only [Option.some.injEq] at e
        subst e
        have hk2 : blksOk h l r = true := by
          simp only [blksOk, Bool.and_eq_true] at hk
          exact hk.2
        have hid := (blksOk_at hk (List.mem_cons_self ..)).2.2 o ho
        have hfr : blksFree h r := by
          unfold blksFree at hf
          rw [ho] at hf
          cases o with
          | els e n f => exact hf.2
          | _ => exact hf
        have h1 := blksFree_at hf (List.mem_cons_self ..) o ho
        intro o' ho'
        rcases List.mem_cons.mp ho' with rfl | ho'
        · cases o with
          | els e n f => exact h1
          | ro n f => cases hid
          | _ => trivial
        · exact smallL_free hos hfr hk2 o' ho'
      · cases e
    · cases e
theorem HRel.congr {ρ : Rho} {h h' : AH} {w : World} (H : HRel ρ h w) (hb : ∀ b, h'.bs.get b = h.bs.get b) (hn : h'.next = h.next) : HRel ρ h' w :=
  ⟨fun b o hg => H.blk b o (by rw [← hb]; exact hg), fun b b' cb cb' h8 g1 g2 => H.inj b b' cb cb' h8 (by rw [← hb]; exact g1) (by rw [← hb]; exact g2), fun b h => H.fresh b (by rw [← hn]; exact h), fun b h => by rw [hb]; exact H.live b (by rw [← hn]; exact h),
    H.bound, fun b o hg => H.ro b o (by rw [← hb]; exact hg), by rw [hn]; exact H.low, H.frz, fun b o cb hg => H.sep b o cb (by rw [← hb]; exact hg)⟩

/-- names, as they were -/
def bkL : List Nat → Nat → Nat → Nat
  | [], i, nx => nx + i
  | x :: _, 0, _ => x
  | _ :: l, i + 1, nx => bkL l i nx
def bk (l : List Nat) (nx b : Nat) : Nat := match Nat.blt b 8 with
  | true => b
  | false => bkL l (b - 8) nx
theorem bkL_in : ∀ {l : List Nat} {i nx x : Nat}, l[i]? = some x → bkL l i nx = x
  | [], i, nx, x, h => by simp at h
  | y :: l, 0, nx, x, h => by simpa [bkL] using h
  | y :: l, i + 1, nx, x, h => by
    simp only [List.getElem?_cons_succ] at h
    show bkL l i nx = x
    exact bkL_in h
theorem bkL_out : ∀ {l : List Nat} {i nx : Nat}, bkL l (l.length + i) nx = nx + i
  | [], i, nx => by simp [bkL]
  | y :: l, i, nx => by
    rw [List.length_cons, show l.length + 1 + i = l.length + i + 1 by omega]
    show bkL l (l.length + i) nx = nx + i
    exact bkL_out
theorem bk_low {l : List Nat} {nx b : Nat} (h : b < 8) : bk l nx b = b := by unfold bk; rw [bltT h]
theorem bk_in {l : List Nat} {nx i x : Nat} (h : l[i]? = some x) : bk l nx (8 + i) = x := by
  unfold bk; rw [bltF (by omega)]
  simp only
  rw [show 8 + i - 8 = i by omega]
  exact bkL_in h
theorem bk_out {l : List Nat} {nx i : Nat} : bk l nx (8 + l.length + i) = nx + i := by
  unfold bk; rw [bltF (by omega)]
  simp only
  rw [show 8 + l.length + i - 8 = l.length + i by omega]
  exact bkL_out
def putBs (r : Nat → Nat) (l : List ABlk) : Nat → Tr ABlk → Tr ABlk :=
  List.rec (motive := fun _ => Nat → Tr ABlk → Tr ABlk) (fun _ t => t) (fun o _ ih i t => forceN (r i) fun b => (Tr.set (rnB r o) t b).force fun t' => forceN (Nat.succ i) fun i' => ih i' t') l
theorem putBs_cons {r : Nat → Nat} {o : ABlk} {l : List ABlk} {i : Nat} {t : Tr ABlk} : putBs r (o :: l) i t = putBs r l (i + 1) (Tr.set (rnB r o) t (r i)) := by
  show forceN (r i) (fun b => (Tr.set (rnB r o) t b).force fun t' => forceN (Nat.succ i) fun i' => putBs r l i' t') = _
  rw [forceN_eq, Tr.force_eq, forceN_eq]
theorem putBs_get {r : Nat → Nat} : ∀ {l : List ABlk} {i : Nat} {t : Tr ABlk} {b : Nat} {o : ABlk}, (putBs r l i t).get b = some o → (∃ j o0, l[j]? = some o0 ∧ b = r (i + j) ∧ o = rnB r o0) ∨ ((∀ j, j < l.length → b ≠ r (i + j)) ∧ t.get b = some o)
  | [], i, t, b, o, h => .inr ⟨fun j hj => by simp at hj, h⟩
  | x :: l, i, t, b, o, h => by
    rw [putBs_cons] at h
    rcases putBs_get h with ⟨j, o0, h1, h2, h3⟩ | ⟨h1, h2⟩
    · exact .inl ⟨j + 1, o0, by simpa using h1, by rw [h2]; congr 1; omega, h3⟩
    · rw [Tr.get_set] at h2
      split at h2
      · rename_i e
        simp only [Option.some.injEq] at h2
        exact .inl ⟨0, x, rfl, e, h2.symm⟩
      · rename_i e
        refine .inr ⟨fun j hj => ?_, h2⟩
        cases j with
        | zero => exact e
        | succ j =>
          have := h1 j (by simpa using hj)
          rw [show i + (j + 1) = i + 1 + j by omega]; exact this
theorem putBs_none {r : Nat → Nat} {l : List ABlk} {i : Nat} {t : Tr ABlk} {b : Nat} (h1 : ∀ j, j < l.length → b ≠ r (i + j)) (h2 : t.get b = none) : (putBs r l i t).get b = none := by
  cases hq : (putBs r l i t).get b with
  | none => rfl
  | some o =>
    rcases putBs_get hq with ⟨j, o0, e1, e2, _⟩ | ⟨_, e⟩
    · exact absurd e2 (h1 j (List.getElem?_eq_some_iff.mp e1).1)
    · rw [h2] at e; cases e
def backH (l : List Nat) (h : AH) (bs' : List ABlk) : AH := ⟨putBs (bk l h.next) bs' 8 h.bs, h.next + (lenF bs' 0 - lenF l 0)⟩

mutual
theorem idp_all : ∀ (v : AV), idp (fun _ => true) v = true
  | .int _ _ => rfl
  | .bool _ => rfl
  | .str _ => rfl
  | .ptr _ _ => rfl
  | .nilptr => rfl
  | .sl _ _ _ _ _ => rfl
  | .nilsl => rfl
  | .slz _ => rfl
  | .mp _ => rfl
  | .nilmap => rfl
  | .fn _ a c => by simp only [idp, idps_all a, idps_all c, Bool.and_self]
  | .nilfn => rfl
  | .yld _ => rfl
  | .agg cs => by simp only [idp, idps_all cs]
  | .tup cs => by simp only [idp, idps_all cs]
  | .ls _ _ _ _ => rfl
  | .lp _ _ => rfl
  | .ep _ _ _ _ => rfl
  | .es _ _ _ _ _ => rfl
theorem idps_all : ∀ (v : List AV), idps (fun _ => true) v = true
  | [] => rfl
  | a :: l => by simp only [idps, idp_all a, idps_all l, Bool.and_self]
end
theorem blksLgo_get {bs : List ABlk} {j i : Nat} {o : ABlk} (h : bs[j]? = some o) : (blksL.go bs i).get (i + j) = some o := by
  induction bs generalizing j i with
  | nil => simp at h
  | cons x bs ih =>
    simp only [blksL.go, Tr.get_set]
    cases j with
    | zero => simp at h; subst h; simp
    | succ j =>
      simp only [List.getElem?_cons_succ] at h
      rw [if_neg (by omega), show i + (j + 1) = i + 1 + j by omega]
      exact ih h
theorem blksL_get {bs : List ABlk} {j : Nat} {o : ABlk} (h : bs[j]? = some o) : (blksL bs).bs.get (8 + j) = some o := blksLgo_get h
theorem callOk_frame {f : FuncId} {a : List AV} {h : AH} {L : List Nat} {bs bs' : List ABlk} {v : AV} (hnd : nodupN L = true) (hlow : noLow h 8 = true) (hL : blksOk h L L = true) (hb : smallL h L L = some bs) (hfree : blksFree h L) (ha : idps (inL L) a = true)
    (M : MutCall P f (rns (nm L) a) bs v bs') : CallOk P f a h (rn (bk L h.next) v) (some (backH L h bs')) := by
  obtain ⟨hlen, hlive⟩ := smallL_len hb
  have hml := M.len
  have hid := M.ids
  have hnext : (backH L h bs').next = h.next + (bs'.length - L.length) := by
    show h.next + (lenF bs' 0 - lenF L 0) = _
    rw [lenF_eq, lenF_eq]
  refine ⟨by show h.next ≤ (backH L h bs').next; rw [hnext]; omega, fun N own ρ w cargs H hv O hN => ?_⟩
  have hL8 : ∀ {i x}, L[i]? = some x → 8 ≤ x ∧ x < h.next := fun {i x} hx => ⟨(blksOk_at hL (List.mem_of_getElem? hx)).1, (blksOk_at hL (List.mem_of_getElem? hx)).2.1⟩
  have H0 : HRel (gcR L ρ) (blksL bs) w := (hrel_gc H hnd hL hfree).congr (fun b => smallL_get hb b) (by show 8 + lenF bs 0 = 8 + lenF L 0; rw [lenF_eq, lenF_eq, hlen])
  have hv0 : VRs (gcR L ρ) (rns (nm L) a) cargs := VRs.rn (fun b hb => gcR_nm hb) (fun _ _ h => h) ha hv
  let own' : Own := ⟨fun k => ∃ b cb, b ∈ L ∧ ρ.m b = some cb ∧ cb.blk = k, fun k => ρ.fz k ≠ none⟩
  have O0 : Owned w.heap.size own' (gcR L ρ) := by
    refine ⟨fun b cb h8 hcb => ?_, fun k arr hk => .inr (.inl (by show ρ.fz k ≠ none; have hk : ρ.fz k = some arr := hk; rw [hk]; simp))⟩
    obtain ⟨x, e1, e2⟩ := gcR_up h8 hcb
    exact .inr ⟨x, cb, List.mem_of_getElem? e1, e2, rfl⟩
  refine (M.ok.2 w.heap.size own' (gcR L ρ) w cargs H0 hv0 O0 (Nat.le_refl _)).mono ?_
  rintro e w' ⟨ρ1, c, rfl, g1, g2, g3, g4, g5⟩
  have g2 : HRel ρ1 (blksL bs') w' := g2
  have hx0 : (blksL bs).next = 8 + L.length := by show 8 + lenF bs 0 = _; rw [lenF_eq, hlen]
  have hx1 : (blksL bs').next = 8 + bs'.length := by show 8 + lenF bs' 0 = _; rw [lenF_eq]
  have h1lt : ∀ b, b < 8 + L.length → ρ1.m b = (gcR L ρ).m b := fun b hb => g5.2 b (by rw [hx0]; exact hb)
  let ρ2 : Rho := ⟨fun b => if b < h.next then ρ.m b else ρ1.m (8 + L.length + (b - h.next)), ρ1.fz⟩
  have h2old : ∀ b, b < h.next → ρ2.m b = ρ.m b := fun b hb => if_pos hb
  have h2new : ∀ i, ρ2.m (h.next + i) = ρ1.m (8 + L.length + i) := fun i => by
    show (if h.next + i < h.next then _ else ρ1.m (8 + L.length + (h.next + i - h.next))) = _
    rw [if_neg (by omega), show h.next + i - h.next = i by omega]
  have hlow8 := H.low
  have hin : ∀ {i x}, L[i]? = some x → ρ1.m (8 + i) = ρ.m x := by
    intro i x hx
    have hi := (List.getElem?_eq_some_iff.mp hx).1
    rw [h1lt _ (by omega)]
    show (if 8 + i < 8 then _ else match L[8 + i - 8]? with | some x => ρ.m x | none => none) = _
    rw [if_neg (by omega), show 8 + i - 8 = i by omega, hx]
  have hA : ∀ b, ρ2.m (bk L h.next b) = ρ1.m b := by
    intro b
    rcases Nat.lt_or_ge b 8 with hb8 | hb8
    · rw [bk_low hb8, h2old b (by omega), h1lt b (by omega)]
      exact (gcR_low hb8).symm
    · obtain ⟨i, rfl⟩ : ∃ i, b = 8 + i := ⟨b - 8, by omega⟩
      rcases Nat.lt_or_ge i L.length with hi | hi
      · have hx : L[i]? = some L[i] := List.getElem?_eq_getElem hi
        rw [bk_in hx, h2old _ (hL8 hx).2, hin hx]
      · obtain ⟨j, rfl⟩ : ∃ j, i = L.length + j := ⟨i - L.length, by omega⟩
        rw [show 8 + (L.length + j) = 8 + L.length + j by omega, bk_out, h2new]
  have hfz : ∀ k arr, ρ1.fz k = some arr → ρ2.fz k = some arr := fun _ _ h => h
  have X : Ext ρ ρ2 := ⟨fun b cb hcb => by
    have : b < h.next := by
      rcases Nat.lt_or_ge b h.next with h1 | h1
      · exact h1
      · rw [H.fresh b h1] at hcb; cases hcb
    rw [h2old b this]; exact hcb, fun k arr hk => g5.1.fz k arr hk⟩
  -- what is behind the call's own names
  have himg : ∀ {b o}, (backH L h bs').bs.get b = some o → (∃ j o0, bs'[j]? = some o0 ∧ b = bk L h.next (8 + j) ∧ o = rnB (bk L h.next) o0) ∨ (b ∉ L ∧ h.bs.get b = some o) := by
    intro b o hb
    rcases putBs_get (r := bk L h.next) (l := bs') (i := 8) (t := h.bs) hb with h1 | ⟨h1, h2⟩
    · exact .inl h1
    · refine .inr ⟨fun hm => ?_, h2⟩
      obtain ⟨i, hi⟩ := List.getElem?_of_mem hm
      have hil := (List.getElem?_eq_some_iff.mp hi).1
      exact h1 i (by omega) (bk_in hi).symm
  have hne : ∀ {b}, (backH L h bs').bs.get b ≠ none → (∃ j o0, bs'[j]? = some o0 ∧ b = bk L h.next (8 + j)) ∨ (b ∉ L ∧ h.bs.get b ≠ none) := by
    intro b hb
    cases hq : (backH L h bs').bs.get b with
    | none => exact absurd hq hb
    | some o =>
      rcases himg hq with ⟨j, o0, h1, h2, _⟩ | ⟨h1, h2⟩
      · exact .inl ⟨j, o0, h1, h2⟩
      · exact .inr ⟨h1, by rw [h2]; simp⟩
  have hold8 : ∀ {b}, h.bs.get b ≠ none → 8 ≤ b ∧ b < h.next := by
    intro b hb
    constructor
    · rcases Nat.lt_or_ge b 8 with h1 | h1
      · exact absurd (noLow_at hlow h1) hb
      · exact h1
    · rcases Nat.lt_or_ge b h.next with h1 | h1
      · exact h1
      · exact absurd (H.live b h1) hb
  have hbk8 : ∀ j, 8 ≤ bk L h.next (8 + j) := by
    intro j
    rcases Nat.lt_or_ge j L.length with hi | hi
    · have hx : L[j]? = some L[j] := List.getElem?_eq_getElem hi
      rw [bk_in hx]; exact (hL8 hx).1
    · obtain ⟨i, rfl⟩ : ∃ i, j = L.length + i := ⟨j - L.length, by omega⟩
      rw [show 8 + (L.length + i) = 8 + L.length + i by omega, bk_out]; omega
  -- an old block is none of the call's own
  have hapart : ∀ {b cb}, b ∉ L → h.bs.get b ≠ none → ρ.m b = some cb → ¬ own'.m cb.blk := by
    rintro b cb hm hg hcb ⟨b', cb', m1, m2, m3⟩
    have h8 := (blksOk_at hL m1).1
    have := H.inj b b' cb cb' h8 hg (hlive b' m1) hcb m2 m3.symm
    subst this
    exact hm m1
  have holdnew : ∀ {b cb j cb'}, b ∉ L → h.bs.get b ≠ none → ρ.m b = some cb → ρ1.m (8 + j) = some cb' → cb.blk = cb'.blk → False := by
    intro b cb j cb' hm hg hcb hcb' hh
    rcases g4.m (8 + j) cb' (by omega) hcb' with h1 | h1
    · have := H.bound b cb hcb
      omega
    · rw [← hh] at h1
      exact hapart hm hg hcb h1
  refine ⟨ρ2, c, rfl, VR.rn (p := fun _ => true) (fun b _ => hA b) hfz (idp_all v) g1, ?_, ?_, ?_, X, h2old⟩
  · show HRel ρ2 (backH L h bs') w'
    refine ⟨fun b o hbo cb hcb => ?_, fun b b' cb cb' h8 q1 q2 q3 q4 hh => ?_, fun b hbn => ?_, fun b hbn => ?_, fun b cb hcb => ?_, fun b o hbo _ => ?_, ?_, g2.frz, fun b o cb hbo h8 hcb => ?_⟩
    · rcases himg hbo with ⟨j, o0, h1, rfl, rfl⟩ | ⟨h1, h2⟩
      · rw [hA] at hcb
        have hg : (blksL bs').bs.get (8 + j) = some o0 := blksL_get h1
        have hfr := M.free o0 (List.mem_of_getElem? h1)
        refine blkR_rn (p := fun _ => true) (fun b _ => hA b) hfz ?_ ?_ (g2.blk (8 + j) o0 hg cb hcb)
        · exact List.all_eq_true.mp hid o0 (List.mem_of_getElem? h1)
        · cases o0 with
          | els e n f => exact hfr
          | _ => trivial
      · have hb2 := hold8 (b := b) (by rw [h2]; simp)
        rw [h2old b hb2.2] at hcb
        rw [g3.block _ (H.bound b cb hcb) (hapart h1 (by rw [h2]; simp) hcb)]
        exact (H.blk b o h2 cb hcb).ext X
    · rcases hne q1 with ⟨j, o0, e1, rfl⟩ | ⟨e1, e2⟩
      · rw [hA] at q3
        rcases hne q2 with ⟨j', o0', e1', rfl⟩ | ⟨e1', e2'⟩
        · rw [hA] at q4
          have := g2.inj (8 + j) (8 + j') cb cb' (by omega) (by rw [blksL_get e1]; simp) (by rw [blksL_get e1']; simp) q3 q4 hh
          rw [this]
        · rw [h2old b' (hold8 e2').2] at q4
          exact (holdnew e1' e2' q4 q3 hh.symm).elim
      · rw [h2old b (hold8 e2).2] at q3
        rcases hne q2 with ⟨j', o0', e1', rfl⟩ | ⟨e1', e2'⟩
        · rw [hA] at q4
          exact (holdnew e1 e2 q3 q4 hh).elim
        · rw [h2old b' (hold8 e2').2] at q4
          exact H.inj b b' cb cb' h8 e2 e2' q3 q4 hh
    · rw [hnext] at hbn
      obtain ⟨i, rfl⟩ : ∃ i, b = h.next + i := ⟨b - h.next, by omega⟩
      rw [h2new]
      exact g2.fresh _ (by rw [hx1]; omega)
    · rw [hnext] at hbn
      refine putBs_none (fun j hj hbj => ?_) (H.live b (by omega))
      rcases Nat.lt_or_ge j L.length with hi | hi
      · have hx : L[j]? = some L[j] := List.getElem?_eq_getElem hi
        rw [bk_in hx] at hbj
        have := (hL8 hx).2
        omega
      · obtain ⟨i, rfl⟩ : ∃ i, j = L.length + i := ⟨j - L.length, by omega⟩
        rw [show 8 + (L.length + i) = 8 + L.length + i by omega, bk_out] at hbj
        omega
    · rcases Nat.lt_or_ge b h.next with h1 | h1
      · rw [h2old b h1] at hcb
        exact Nat.lt_of_lt_of_le (H.bound b cb hcb) g3.size
      · obtain ⟨i, rfl⟩ : ∃ i, b = h.next + i := ⟨b - h.next, by omega⟩
        rw [h2new] at hcb
        exact g2.bound _ cb hcb
    · rcases himg hbo with ⟨j, o0, h1, rfl, _⟩ | ⟨h1, h2⟩
      · exact hbk8 j
      · exact (hold8 (by rw [h2]; simp)).1
    · rw [hnext]; omega
    · rcases himg hbo with ⟨j, o0, h1, rfl, _⟩ | ⟨h1, h2⟩
      · rw [hA] at hcb
        exact g2.sep (8 + j) o0 cb (blksL_get h1) (by omega) hcb
      · have hg : h.bs.get b ≠ none := by rw [h2]; simp
        rw [h2old b (hold8 hg).2] at hcb
        have hs := H.sep b o cb h2 h8 hcb
        show ρ1.fz cb.blk = none
        cases hq : ρ1.fz cb.blk with
        | none => rfl
        | some arr =>
          rcases g4.f _ _ hq with h3 | h3 | h3
          · have := H.bound b cb hcb
            omega
          · have h3 : ρ.fz cb.blk ≠ none := h3
            exact absurd hs h3
          · exact absurd h3 (hapart h1 hg hcb)
  · refine ⟨g3.os, g3.tape, g3.output, g3.size, fun k hk ho => g3.block k (Nat.lt_of_lt_of_le hk hN) ?_⟩
    rintro ⟨b, cb, m1, m2, rfl⟩
    rcases O.m b cb (blksOk_at hL m1).1 m2 with h1 | h1
    · omega
    · exact ho h1
  · have hown : ∀ {k}, own'.m k → N ≤ k ∨ own.m k := by
      rintro k ⟨b, cb, m1, m2, rfl⟩
      exact O.m b cb (blksOk_at hL m1).1 m2
    refine ⟨fun b cb h8 hcb => ?_, fun k arr hk => ?_⟩
    · rcases Nat.lt_or_ge b h.next with h1 | h1
      · rw [h2old b h1] at hcb
        exact O.m b cb h8 hcb
      · obtain ⟨i, rfl⟩ : ∃ i, b = h.next + i := ⟨b - h.next, by omega⟩
        rw [h2new] at hcb
        rcases g4.m _ cb (by omega) hcb with h2 | h2
        · exact .inl (Nat.le_trans hN h2)
        · exact hown h2
    · rcases g4.f k arr hk with h3 | h3 | h3
      · exact .inl (Nat.le_trans hN h3)
      · have h3 : ρ.fz k ≠ none := h3
        cases hq : ρ.fz k with
        | none => exact absurd hq h3
        | some a0 => exact O.f k a0 hq
      · rcases hown h3 with h4 | h4
        · exact .inl h4
        · exact .inr (.inr h4)

/-! runs over blocks -/
/-- a leaf: the value that is given back, and the blocks as they are then -/
inductive Lw where
  | to (m : AM)
  | fin (v : AV) (bs : List ABlk)
  | bad (n : Nat)
/-- the blocks that are known at the end, by their new names -/
structure Canon (p : Nat) (v0 : AV) (h0 : AH) (v : AV) (bs : List ABlk) (l : List Nat) : Prop where
  pin : pinN p l 8 = true
  dup : nodupN l = true
  low : noLow h0 8 = true
  blks : blksOk h0 l l = true
  idv : idp (inL l) v0 = true
  small : smallL h0 l l = some bs
  fre : blksFree h0 l
  ids : bs.all (idB fun _ => true) = true
  val : v = rn (nm l) v0
def finC (p : Nat) (v : AV) (h : AH) : T Lw :=
  (fun l => match pinN p l 8 && (nodupN l && (noLow h 8 && (blksOk h l l && idp (inL l) v))), smallL h l l with
    | true, some bs => match bs.all (idB fun _ => true) with
      | true => .ck (blksFree h l) (.leaf (.fin (rn (nm l) v) bs))
      | false => .leaf (.bad 91)
    | _, _ => .leaf (.bad 90)) (closeN h 400 (blksIds h (pinL p) ++ idsV v) (pinL p))
theorem finC_ok {p : Nat} {v : AV} {h : AH} {lw : Lw} (s : (finC p v h).Sel lw) : (∃ n, lw = .bad n) ∨ ∃ v' bs l, lw = .fin v' bs ∧ Canon p v h v' bs l := by
  unfold finC at s
  simp only at s
  split at s
  · rename_i bs hc hs
    simp only [Bool.and_eq_true] at hc
    obtain ⟨c1, c2, c3, c4, c5⟩ := hc
    split at s
    · rename_i hi
      obtain ⟨hf, s⟩ := s
      have s : Lw.fin _ _ = lw := s
      subst s
      exact .inr ⟨_, _, _, rfl, ⟨c1, c2, c3, c4, c5, hs, hf, hi, rfl⟩⟩
    · have s : Lw.bad 91 = lw := s
      exact .inl ⟨91, s.symm⟩
  · have s : Lw.bad 90 = lw := s
    exact .inl ⟨90, s.symm⟩
def finW (p : Nat) : Lf → T Lw
  | .to m => .leaf (.to m)
  | .done v h => finC p v h
  | .bad n => .leaf (.bad n)
def symM (P : Program) (U : USum) (y : Hy) (n : Nat) (m : AM) : T Lw := (symT P U y n m).bind (finW y.pn)
/-- a run that gives back a value, and blocks; p blocks keep their names -/
def EndsM (P : Program) (p : Nat) (m : AM) (Q : AV → List ABlk → Prop) : Prop := ∃ v bs, Q v bs ∧ EndsQ P p m fun v0 h0 => ∃ l, Canon p v0 h0 v bs l
theorem EndsM.lead {p : Nat} {m m' : AM} {Q : AV → List ABlk → Prop} (L : Lead P p m m') (e : EndsM P p m' Q) : EndsM P p m Q := by
  obtain ⟨v, bs, q, e⟩ := e
  exact ⟨v, bs, q, EndsQ.lead L e⟩
theorem EndsM.mono {p : Nat} {m : AM} {Q R : AV → List ABlk → Prop} (h : ∀ v bs, Q v bs → R v bs) (e : EndsM P p m Q) : EndsM P p m R := by
  obtain ⟨v, bs, q, e⟩ := e
  exact ⟨v, bs, h v bs q, e⟩
def EndLw (P : Program) (p : Nat) (Q : AV → List ABlk → Prop) : Lw → Prop
  | .to m => EndsM P p m Q
  | .fin v bs => Q v bs
  | .bad _ => False
theorem endsM_of {U : USum} (G : GoodU P U) {y : Hy} {n : Nat} {m : AM} {Q : AV → List ABlk → Prop} {t : T Lw} (ht : symM P U y n m = t) (h : t.Wp (EndLw P y.pn Q)) : EndsM P y.pn m Q := by
  subst ht
  obtain ⟨lw, h1, h2⟩ := T.wp_sel h
  obtain ⟨lf, h3, h4⟩ := T.sel_bind (t := symT P U y n m) h1
  have hr := symT_ok G h3
  cases lf with
  | to m' =>
    have h4 : Lw.to m' = lw := h4
    subst h4
    exact EndsM.lead hr h2
  | done v hh =>
    rcases finC_ok h4 with ⟨n, rfl⟩ | ⟨v', bs, l, rfl, C⟩
    · exact h2.elim
    · exact ⟨v', bs, h2, v, hh, ⟨l, C⟩, hr⟩
  | bad k =>
    have h4 : Lw.bad k = lw := h4
    subst h4
    exact h2.elim
theorem EndsM.els {p : Nat} {f : FuncId} {n : Nat} {slots : List (Nat × AV)} {todo : List AItem} {bs bs' : List ABlk} {Q : AV → List ABlk → Prop} (hd0 : isDreg todo = false) (h : BsEq bs bs') (e : EndsM P p (hd f n slots todo bs') Q) : EndsM P p (hd f n slots todo bs) Q := EndsM.lead (lead_els hd0 h) e
/-- the beginning of a call over blocks -/
def sttB (P : Program) (f : FuncId) (args : List AV) (bs : List ABlk) : AM := match enterA P f args with
  | some g => ⟨g, [], blksL bs, ⟨noHint, noSure⟩, []⟩
  | none => ⟨⟨0, ⟨none, []⟩, 0, .nil, []⟩, [], .empty, ⟨noHint, noSure⟩, []⟩
theorem mut_of_ends {f : FuncId} {args : List AV} {bs : List ABlk} {Q : AV → List ABlk → Prop} {p : Nat} (hp : bs.length = p) (hs : isSt P f args = true) (e : EndsM P p (sttB P f args bs) Q) : ∃ v bs', Q v bs' ∧ MutCall P f args bs v bs' := by
  subst hp
  obtain ⟨v, bs', q, v0, h0, ⟨l, C⟩, hfin⟩ := e
  unfold isSt at hs
  split at hs
  rotate_left
  · cases hs
  rename_i g hg
  have hst : sttB P f args bs = ⟨g, [], blksL bs, ⟨noHint, noSure⟩, []⟩ := by unfold sttB; rw [hg]
  rw [hst] at hfin
  obtain ⟨k1, k2⟩ := smallL_len C.small
  have hx : (blksL bs).next = 8 + bs.length := by show 8 + lenF bs 0 = _; rw [lenF_eq]
  have hx' : (blksL bs').next = 8 + bs'.length := by show 8 + lenF bs' 0 = _; rw [lenF_eq]
  have hpl := pin_len C.pin
  refine ⟨v, bs', q, by omega, ⟨by show (blksL bs).next ≤ (blksL bs').next; rw [hx, hx']; omega, ?_⟩, smallL_free C.small C.fre C.blks, C.ids⟩
  intro N own ρ w cargs H hv O hN cs
  obtain ⟨F, hfn, _⟩ := enter_rel hg hv
  have M : MR P N own w cs f ρ (blksL bs).next ⟨g, [], blksL bs, ⟨noHint, noSure⟩, []⟩ (Frame.enter P f cargs.toArray .normal) cs w :=
    ⟨⟨ρ, [], (blksL bs).next, Nat.le_refl _, H, .inl F, ⟨rfl, Nat.le_refl _⟩, rfl, O, Ext2.refl _ ρ⟩, topok_plain F _, Keep.refl _ _ w, hN, hfn⟩
  obtain ⟨ρ', c, fr', w', s, hlv, hf, h1, h2, h3, h4, h5⟩ := hfin N own w cs f ρ (blksL bs).next _ _ _ (by rw [hx]; omega) (fun b hb => H.fresh b (by rw [hx]; exact hb)) M
  have hlow : ∀ b, b < 8 + bs.length → (gcR l ρ').m b = ρ'.m b := by
    intro b hb
    show (if b < 8 then ρ'.m b else match l[b - 8]? with | some x => ρ'.m x | none => none) = _
    by_cases h8 : b < 8
    · rw [if_pos h8]
    · rw [if_neg h8, pin_at C.pin (k := b - 8) (by omega), show 8 + (b - 8) = b by omega]
  refine ⟨.returned c, w', fr', ⟨gcR l ρ', c, rfl, ?_, ?_, h3, ⟨fun b cb h8 hcb => ?_, h4.f⟩, ⟨⟨fun b cb hcb => ?_, h5.1.fz⟩, fun b hb => ?_⟩⟩, s, hf, hlv⟩
  · rw [C.val]
    exact VR.rn (fun b hb => gcR_nm hb) (fun _ _ h => h) C.idv h1
  · exact (hrel_gc h2 C.dup C.blks C.fre).congr (fun b => smallL_get C.small b) (by show 8 + lenF bs' 0 = 8 + lenF l 0; rw [lenF_eq, lenF_eq, k1])
  · obtain ⟨x, e1, e2⟩ := gcR_up h8 hcb
    exact h4.m x cb (blksOk_at C.blks (List.mem_of_getElem? e1)).1 e2
  · have hb : b < 8 + bs.length := by
      rcases Nat.lt_or_ge b (8 + bs.length) with h6 | h6
      · exact h6
      · rw [H.fresh b (by rw [hx]; exact h6)] at hcb; cases hcb
    rw [hlow b hb]
    exact h5.1.m b cb hcb
  · rw [hlow b (by rw [← hx]; exact hb)]
    exact h5.2 b hb
theorem mut_of_eq {f : FuncId} {args : List AV} {bs bs' : List ABlk} {v : AV} {p : Nat} (hp : bs.length = p) (hs : isSt P f args = true) (e : EndsM P p (sttB P f args bs) fun u b => u = v ∧ b = bs') : MutCall P f args bs v bs' := by
  obtain ⟨u, b, ⟨rfl, rfl⟩, M⟩ := mut_of_ends hp hs e
  exact M
/-- values and blocks known otherwise -/
theorem MutCall.like {f : FuncId} {args : List AV} {bs bs1 bs' : List ABlk} {v v' : AV} (M : MutCall P f args bs v bs1) (hv : Like v v') (hb : BsEq bs1 bs') (hi : bs'.all (idB fun _ => true) = true) (hfr : ∀ o ∈ bs', FreeC o) : MutCall P f args bs v' bs' := by
  have hx : (blksL bs').next = (blksL bs1).next := by
    show 8 + lenF bs' 0 = 8 + lenF bs1 0
    rw [lenF_eq, lenF_eq, hb.len]
  refine ⟨by rw [← hb.len]; exact M.len, ⟨?_, fun N own ρ w cargs H hc O hN => ?_⟩, hfr, hi⟩
  · have := M.ok.1
    show (blksL bs).next ≤ (blksL bs').next
    rw [hx]; exact this
  · refine (M.ok.2 N own ρ w cargs H hc O hN).mono ?_
    rintro e w' ⟨ρ', c, rfl, h1, h2, h3⟩
    exact ⟨ρ', c, rfl, hv _ _ h1, hrel_els hb h2, h3⟩
/-- one function more: it changes blocks -/
def MutSpec (P : Program) (g : FuncId) (F : List AV → List ABlk → Option (T (AV × List ABlk))) : Prop := ∀ a bs t, F a bs = some t → ∀ v bs', t.Sel (v, bs') → MutCall P g a bs v bs'
def addM (U : USum) (g : FuncId) (F : List AV → List ABlk → Option (T (AV × List ABlk))) : USum := fun f a h => match Nat.beq f g with
  | true => (fun L => match nodupN L && (noLow h 8 && (blksOk h L L && idps (inL L) a)), smallL h L L with
    | true, some bs => match F (rns (nm L) a) bs with
      | some t => some (.ck (blksFree h L) (t.bind fun r => .leaf (rn (bk L h.next) r.1, some (backH L h r.2))))
      | none => none
    | _, _ => none) (closeN h 400 (idsVs a) [])
  | false => U f a h
theorem GoodU.addM {U : USum} (G : GoodU P U) {g : FuncId} {F : List AV → List ABlk → Option (T (AV × List ABlk))} (hF : MutSpec P g F) : GoodU P (addM U g F) := by
  refine ⟨fun f a h t e v q hs => ?_, G.num, G.mix⟩
  unfold EV.addM at e
  split at e
  · rename_i hfg
    have hfg : f = g := Nat.eq_of_beq_eq_true hfg
    subst hfg
    simp only at e
    split at e
    · rename_i bs hc hsm
      simp only [Bool.and_eq_true] at hc
      obtain ⟨c1, c2, c3, c4⟩ := hc
      split at e
      · rename_i t' ht
        simp only [Option.some.injEq] at e; subst e
        obtain ⟨hfr, hs⟩ := hs
        obtain ⟨⟨u, bs'⟩, h1, h2⟩ := T.sel_bind hs
        have h2 : (_, some _) = (v, q) := h2
        cases h2
        exact callOk_frame c1 c2 c3 hsm hfr c4 (hF _ _ t' ht u bs' h1)
      · cases e
    · cases e
  · exact G.ok f a h t e v q hs
theorem mutSpec_br {g : FuncId} {a : List AV} {bs : List ABlk} {t : T (AV × List ABlk)} (h : t.Wp (fun r => MutCall P g a bs r.1 r.2)) : ∀ v bs', t.Sel (v, bs') → MutCall P g a bs v bs' := by
  intro v bs' hs
  induction t with
  | leaf b =>
    have hs : b = (v, bs') := hs
    subst hs; exact h
  | br c x y ihx ihy =>
    rcases hs with ⟨hc, hs⟩ | ⟨hc, hs⟩
    · exact ihx (h.1 hc) hs
    · exact ihy (h.2 hc) hs
  | ck p x ih => exact ih h.2 hs.2
  | cd p d x ih => exact ih h.2 hs.2
/-! heads of loops, by the text of a function -/
def loopsC : Code → List AItem → List (List AItem)
  | .seq a b, k => loopsC a (.code b :: k) ++ loopsC b k
  | .cond _ t e, k => loopsC t k ++ loopsC e k
  | .block i b, k => loopsC b (.inBlock i :: k)
  | .scope b, k => loopsC b (.inScope b :: k)
  | .loop b, k => (.code b :: .inLoop b :: k) :: loopsC b (.inLoop b :: k)
  | _, _ => []
def atL {α : Type} : List (List α) → Nat → List α
  | [], _ => []
  | l :: _, 0 => l
  | _ :: r, n + 1 => atL r n
/-- what is to be done at the head of the k-th loop -/
def tdo (P : Program) (f : FuncId) (k : Nat) : List AItem := match P.funcs[f]? with
  | some fn => match fn.body with
    | some c => atL (loopsC c []) k
    | none => []
  | none => []
end
end Go.EV
