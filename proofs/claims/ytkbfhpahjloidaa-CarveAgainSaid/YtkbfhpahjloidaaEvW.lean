/- Own text of this claim: an abstract machine over the given program form, and what follows from it. No condition. -/
import Derived.Test.YtkbfhpahjloidaaEvV
set_option linter.unusedVariables false
set_option linter.unusedSimpArgs false
namespace Go.EV

/-! calls that make blocks: a contract over the rows that are read, used in any state -/
mutual
/-- of each block that a value names p holds -/
def idsP (p : Nat → Bool) : AV → Bool
  | .ptr b _ => p b
  | .sl b _ _ _ _ => p b
  | .mp b => p b
  | .yld b => p b
  | .fn _ f c => idsPs p f && idsPs p c
  | .agg cs => idsPs p cs
  | .tup vs => idsPs p vs
  | _ => true
def idsPs (p : Nat → Bool) : List AV → Bool
  | [] => true
  | v :: vs => idsP p v && idsPs p vs
end
mutual
theorem VR.renP {g : Nat → Nat} {p : Nat → Bool} {ρ ρ' : Rho} (h : ∀ b, p b = true → ρ' b = ρ (g b)) : ∀ {v : AV} {c : Value}, idsP p v = true → VR ρ (EV.ren g v) c → VR ρ' v c
  | .int _ _, _, _, e => by simpa only [VR, EV.ren] using e
  | .bool _, _, _, e => by simpa only [VR, EV.ren] using e
  | .str _, _, _, e => by simpa only [VR, EV.ren] using e
  | .ptr _ _, _, i, e => by
    simp only [VR, EV.ren, idsP] at e i ⊢
    obtain ⟨cb, h1, h2⟩ := e
    exact ⟨cb, by rw [h _ i]; exact h1, h2⟩
  | .nilptr, _, _, e => by simpa only [VR, EV.ren] using e
  | .sl _ _ _ _ _, _, i, e => by
    simp only [VR, EV.ren, idsP] at e i ⊢
    obtain ⟨cb, k, h1, h2⟩ := e
    exact ⟨cb, k, by rw [h _ i]; exact h1, h2⟩
  | .nilsl, _, _, e => by simpa only [VR, EV.ren] using e
  | .slz _, _, _, e => by simpa only [VR, EV.ren] using e
  | .mp _, _, i, e => by
    simp only [VR, EV.ren, idsP] at e i ⊢
    obtain ⟨cb, h1, h2⟩ := e
    exact ⟨cb, by rw [h _ i]; exact h1, h2⟩
  | .nilmap, _, _, e => by simpa only [VR, EV.ren] using e
  | .fn _ a cp, _, i, e => by
    simp only [VR, EV.ren, idsP, Bool.and_eq_true] at e i ⊢
    obtain ⟨as, cs, h1, h2, h3⟩ := e
    exact ⟨as, cs, h1, VRs.renP h i.1 h2, VRs.renP h i.2 h3⟩
  | .nilfn, _, _, e => by simpa only [VR, EV.ren] using e
  | .yld _, _, i, e => by
    simp only [VR, EV.ren, idsP] at e i ⊢
    obtain ⟨cb, h1, h2⟩ := e
    exact ⟨cb, by rw [h _ i]; exact h1, h2⟩
  | .agg _, _, i, e => by
    simp only [VR, EV.ren, idsP] at e i ⊢
    obtain ⟨as, h1, h2⟩ := e
    exact ⟨as, h1, VRs.renP h i h2⟩
  | .tup _, _, i, e => by
    simp only [VR, EV.ren, idsP] at e i ⊢
    obtain ⟨as, h1, h2⟩ := e
    exact ⟨as, h1, VRs.renP h i h2⟩
theorem VRs.renP {g : Nat → Nat} {p : Nat → Bool} {ρ ρ' : Rho} (h : ∀ b, p b = true → ρ' b = ρ (g b)) : ∀ {vs : List AV} {l : List Value}, idsPs p vs = true → VRs ρ (rens g vs) l → VRs ρ' vs l
  | [], _, _, e => by simpa only [VRs, rens] using e
  | v :: vs, _, i, e => by
    simp only [VRs, rens, idsPs, Bool.and_eq_true] at e i ⊢
    obtain ⟨c, cs, h1, h2, h3⟩ := e
    exact ⟨c, cs, h1, VR.renP h i.1 h2, VRs.renP h i.2 h3⟩
end

/-- a call that reads rows, and makes blocks -/
def MakeCall (P : Program) (f : FuncId) (rows : List (Nat × (Nat → AV))) (args : List AV) (v : AV) (h2 : AH) : Prop :=
  ∀ (ρ : Rho) (w : World) (cargs : List Value), HRel ρ (roHeap rows) w → VRs ρ args cargs →
    Calls P f cargs.toArray w fun e w' => ∃ ρ' c, e = .returned c ∧ VR ρ' v c ∧ HRel ρ' h2 w' ∧ Keep w.heap.size (fun _ => False) w w' ∧ Owned w.heap.size (fun _ => False) ρ' ∧ Ext2 8 ρ ρ'

theorem make_of_lead {P : Program} {S : Sum} (G : Good P S) {f : FuncId} {args : List AV} {rows : List (Nat × (Nat → AV))} {hs0 : Hints} {m m1 : AM} (hst : startA P f args (roHeap rows) hs0 = some m) (hL : Lead P m m1) {k : Nat} {hs : HB} {v : AV} {h : AH} {l : Log} (hr : lastX P S k (withH hs m1) = some (v, h, l)) (hl : LogOk l) :
    MakeCall P f rows args v h := by
  intro ρ w cargs H hc
  have O : Owned w.heap.size (fun _ => False) ρ := by
    intro b cb h8 hb
    have := H.fresh b h8
    rw [this] at hb; cases hb
  exact calls_of_lead G hst hL hr hl (Nat.le_refl 8) w.heap.size (fun _ => False) ρ w cargs H hc O (Nat.le_refl _)

/-- a block of which a row is read: from somewhere on, so many cells -/
def Holds (h : AH) (b off n : Nat) (f : Nat → AV) : Prop :=
  (∃ m z t, h.bs.get b = some (.row m z t) ∧ off + n ≤ m ∧ ∀ j, j < n → rowGet m z t (off + j) = some (f j)) ∨
  (∃ m f', h.bs.get b = some (.ro m f') ∧ off + n ≤ m ∧ ∀ j, j < n → f' (off + j) = f j)

/-- one row, out of a block of memory -/
theorem one_row {ρ : Rho} {h : AH} {w : World} (H : HRel ρ h w) {b off n : Nat} {f : Nat → AV} (hh : Holds h b off n f) (hs : ∀ j, j < n → scalar (f j) = true) {cb : Cb} (hb : ρ b = some cb) :
    HRel (fun i => if i = 0 then some ⟨cb.blk, cb.base + off, cb.tot⟩ else none) (roHeap [(n, f)]) w := by
  have hg : ∀ i, (roHeap [(n, f)]).bs.get i = if i = 0 then some (.ro n f) else none := by
    intro i
    show (Tr.set (ABlk.ro n f) .nil 0).get i = _
    rw [Tr.get_set]; rfl
  refine ⟨?_, ?_, ?_, ?_, ?_, ?_, Nat.le_refl 8⟩
  · intro i o hi c hc
    rw [hg] at hi
    split at hi
    · subst i
      cases hi
      simp only [if_true] at hc
      cases hc
      rcases hh with ⟨m, z, t, q1, q2, q3⟩ | ⟨m, f', q1, q2, q3⟩
      · obtain ⟨arr, elem, k1, k2, k3, k4⟩ := H.blk b _ q1 cb hb
        refine ⟨arr, elem, (0, 0), k1, k2, by simp only; omega, fun j hj => ?_⟩
        obtain ⟨c, r1, r2⟩ := k4 _ _ (q3 j hj)
        exact ⟨c, by simp only; rw [Nat.add_assoc]; exact r1, VR.scalar (hs j hj) r2⟩
      · obtain ⟨arr, elem, fz, k1, k2, k3, k4⟩ := H.blk b _ q1 cb hb
        refine ⟨arr, elem, fz, k1, k2, by simp only; omega, fun j hj => ?_⟩
        obtain ⟨c, r1, r2⟩ := k4 (off + j) (by omega)
        rw [q3 j hj] at r2
        exact ⟨c, by simp only; rw [Nat.add_assoc]; exact r1, VR.scalar (hs j hj) r2⟩
    · cases hi
  · intro i i' c c' g8 _ _ _ h2 _
    rw [if_neg (by omega)] at h2
    cases h2
  · intro i hi
    have hi : 8 ≤ i := hi
    rw [if_neg (by omega)]
  · intro i hi
    have hi : 8 ≤ i := hi
    rw [hg, if_neg (by omega)]
  · intro i c hc
    split at hc
    · cases hc; exact H.bound b cb hb
    · cases hc
  · intro i o hi hw
    rw [hg] at hi
    split at hi
    · cases hi; exact absurd rfl (hw _ _)
    · cases hi

/-- memory behind a call that has made blocks: those that were, and the new ones behind them -/
theorem glue {ρ ρs : Rho} {h h2 h' : AH} {w w' : World} (H : HRel ρ h w) (H2 : HRel ρs h2 w') (K : Keep w.heap.size (fun _ => False) w w') (O : Owned w.heap.size (fun _ => False) ρs)
    (hnx : h'.next = h.next + (h2.next - 8)) (hold : ∀ b, b < h.next → h'.bs.get b = h.bs.get b) (hlive : ∀ b, h'.next ≤ b → h'.bs.get b = none)
    (hnew : ∀ b o, h.next ≤ b → h'.bs.get b = some o → h2.bs.get (b - h.next + 8) = some o ∧ ∃ n z t, o = .row n z t ∧ ∀ i v, rowGet n z t i = some v → scalar v = true) :
    HRel (fun b => if b < h.next then ρ b else if b < h'.next then ρs (b - h.next + 8) else none) h' w' := by
  have lt2 := H2.low
  refine ⟨?_, ?_, fun b hb => ?_, hlive, ?_, ?_, by have := H.low; omega⟩
  · intro b o hg cb hcb
    by_cases e : b < h.next
    · rw [if_pos e] at hcb
      rw [hold b e] at hg
      have hbd := H.bound b cb hcb
      rw [K.block cb.blk hbd (fun x => x)]
      refine (H.blk b o hg cb hcb).ext fun x cx hx => ?_
      have : x < h.next := by
        rcases Nat.lt_or_ge x h.next with h1 | h1
        · exact h1
        · rw [H.fresh x h1] at hx; cases hx
      rw [if_pos this]; exact hx
    · rw [if_neg e] at hcb
      split at hcb
      · obtain ⟨q1, n, z, t, rfl, q2⟩ := hnew b o (by omega) hg
        obtain ⟨arr, elem, k1, k2, k3, k4⟩ := H2.blk _ _ q1 cb hcb
        refine ⟨arr, elem, k1, k2, k3, fun i v hi => ?_⟩
        obtain ⟨c, r1, r2⟩ := k4 i v hi
        exact ⟨c, r1, VR.scalar (q2 i v hi) r2⟩
      · cases hcb
  · intro b b' cb cb' g8 gx gy qx qy hh
    by_cases e : b < h.next
    · rw [if_pos e] at qx
      by_cases e' : b' < h.next
      · rw [if_pos e'] at qy
        rw [hold b e] at gx; rw [hold b' e'] at gy
        exact H.inj b b' cb cb' g8 gx gy qx qy hh
      · rw [if_neg e'] at qy
        split at qy
        · exfalso
          have h1 := H.bound b cb qx
          rcases O _ cb' (by omega) qy with h2 | h2
          · omega
          · exact h2
        · cases qy
    · rw [if_neg e] at qx
      split at qx
      · by_cases e' : b' < h.next
        · exfalso
          rw [if_pos e'] at qy
          have h1 := H.bound b' cb' qy
          rcases O _ cb (by omega) qx with h2 | h2
          · omega
          · exact h2
        · rw [if_neg e'] at qy
          split at qy
          · obtain ⟨o, ho⟩ : ∃ o, h'.bs.get b = some o := by
              cases hq : h'.bs.get b with
              | none => exact absurd hq gx
              | some o => exact ⟨o, rfl⟩
            obtain ⟨o', ho'⟩ : ∃ o, h'.bs.get b' = some o := by
              cases hq : h'.bs.get b' with
              | none => exact absurd hq gy
              | some o => exact ⟨o, rfl⟩
            have q1 := (hnew b o (by omega) ho).1
            have q2 := (hnew b' o' (by omega) ho').1
            have := H2.inj _ _ cb cb' (by omega) (by rw [q1]; simp) (by rw [q2]; simp) qx qy hh
            omega
          · cases qy
      · cases qx
  · rw [if_neg (by omega), if_neg (by omega)]
  · intro b cb hcb
    split at hcb
    · exact Nat.lt_of_lt_of_le (H.bound b cb hcb) K.size
    · split at hcb
      · exact H2.bound _ cb hcb
      · cases hcb
  · intro b o hg hw
    by_cases e : b < h.next
    · rw [hold b e] at hg
      exact H.ro b o hg hw
    · have := H.low; omega

/-- a call that reads one row and makes blocks, in any state -/
theorem lead_call {P : Program} (hN : ∀ (g : Nat) (fn : Func), P.funcs[g]? = some fn → (fn.name == "runtime.NumGoroutine") = false) {m m' : AM} {ops : Array Oper} {o : Oper} {rest : List Oper} {k : List AItem} {c : Call} {f : FuncId} {pre : List AV} {b off n len : Nat} {cap : Option Nat} {esz : Nat} {fr : Nat → AV} {v v' : AV} {h2 h' : AH}
    (ht : m.top.todo = .reg ops (o :: rest) :: k) (hg : guardOk ops m.top.tmps o = some true) (hop : o.op = .call c) (hca : calleeA (ev m.top.tmps) c = some (f, pre ++ [.sl b off len cap esz])) (hb : hasBody P f = true)
    (hpre : scalars pre = true) (hC : MakeCall P f [(n, fr)] (pre ++ [.sl 0 0 len none esz]) v h2) (hh : Holds m.heap b off n fr) (hs : ∀ j, j < n → scalar (fr j) = true)
    (hnx : h'.next = m.heap.next + (h2.next - 8)) (hold : ∀ x, x < m.heap.next → h'.bs.get x = m.heap.bs.get x) (hlive : ∀ x, h'.next ≤ x → h'.bs.get x = none)
    (hnew : ∀ x o, m.heap.next ≤ x → h'.bs.get x = some o → h2.bs.get (x - m.heap.next + 8) = some o ∧ ∃ n z t, o = .row n z t ∧ ∀ i v, rowGet n z t i = some v → scalar v = true)
    (hv : v = ren (fun x => x - m.heap.next + 8) v') (hi : idsP (fun x => Nat.ble m.heap.next x && Nat.blt x h'.next) v' = true)
    (hn : nextA m ops rest k o v' h' = .run m') (hl : LogOk m'.log) : Lead P m m' := by
  intro N own w0 cs0 f0 ρ0 n0 frm cs w l1 l2 M
  have hnd : ∀ ops all done floats rest wait k, m.top.todo ≠ .dreg ops all done floats rest wait :: k := by
    intro ops all done floats rest wait k e; rw [ht] at e; cases e
  obtain ⟨ρ, cfs, B, hB, H, F, SS, hcs, O, X⟩ := id M.ex
  have F : FRp ρ m.top frm := plain_frame F hnd
  obtain ⟨i, l, kc, hft, ho, hr⟩ := reg_cons F ht
  have hw := guard_rel F hg
  have hbody : ∃ fn, P.funcs[f]? = some fn ∧ fn.body.isSome = true := by
    unfold hasBody at hb
    split at hb
    · rename_i fn hfn; exact ⟨fn, hfn, hb⟩
    · cases hb
  obtain ⟨cargs, h1, hargs⟩ := callee_rel (P := P) F.eval hca hop w hbody hN
  have hst := call_step (P := P) (cs := cs) F.mode hft ho hw h1
  -- the arguments, for the small memory
  have hsplit : ∀ (pre : List AV) (l : List Value), VRs ρ (pre ++ [.sl b off len cap esz]) l → ∃ l1 cl, l = l1 ++ [cl] ∧ VRs ρ pre l1 ∧ VR ρ (.sl b off len cap esz) cl := by
    intro pre
    induction pre with
    | nil =>
      intro l hl
      simp only [List.nil_append, VRs] at hl
      obtain ⟨c, cs, rfl, q, rfl⟩ := hl
      exact ⟨[], c, rfl, by simp only [VRs], q⟩
    | cons a pre ih =>
      intro l hl
      simp only [List.cons_append, VRs] at hl
      obtain ⟨c, cs, rfl, q, q2⟩ := hl
      obtain ⟨l1, cl, rfl, q3, q4⟩ := ih cs q2
      exact ⟨c :: l1, cl, rfl, by simp only [VRs]; exact ⟨c, l1, rfl, q, q3⟩, q4⟩
  obtain ⟨la, cl, rfl, ha, hsl⟩ := hsplit pre cargs hargs
  simp only [VR] at hsl
  obtain ⟨cb, kk, hbb, rfl, s1, s2, s3⟩ := hsl
  have H1 := one_row H hh hs hbb
  have hjoin : ∀ (ρs : Rho) (pre : List AV) (l1 : List Value) (a : AV) (cl : Value), VRs ρs pre l1 → VR ρs a cl → VRs ρs (pre ++ [a]) (l1 ++ [cl]) := by
    intro ρs pre
    induction pre with
    | nil =>
      intro l1 a cl q1 q2
      simp only [VRs] at q1
      subst q1
      simp only [List.nil_append, VRs]
      exact ⟨cl, [], rfl, q2, rfl⟩
    | cons x pre ih =>
      intro l1 a cl q1 q2
      simp only [VRs] at q1
      obtain ⟨c, cs, rfl, q3, q4⟩ := q1
      simp only [List.cons_append, VRs]
      exact ⟨c, _, rfl, q3, ih cs a cl q4 q2⟩
  have hargs2 := hjoin (fun i => if i = 0 then some ⟨cb.blk, cb.base + off, cb.tot⟩ else none) pre la (.sl 0 0 len none esz) _ (VRs.scalars hpre ha) (by
    simp only [VR]
    exact ⟨⟨cb.blk, cb.base + off, cb.tot⟩, kk, by simp, rfl, s1, by simpa using s2, by simp⟩)
  obtain ⟨e, w', fr', ⟨ρs, cv, rfl, v1, v2, v3, v4, v5⟩, hcomes, _, hlv⟩ := hC _ w _ H1 hargs2 (frm :: cs)
  have hG := glue H v2 v3 v4 hnx hold hlive hnew
  have hext : Ext ρ (fun b => if b < m.heap.next then ρ b else if b < h'.next then ρs (b - m.heap.next + 8) else none) := by
    intro x cx hx
    have : x < m.heap.next := by
      rcases Nat.lt_or_ge x m.heap.next with h1 | h1
      · exact h1
      · rw [H.fresh x h1] at hx; cases hx
    simp only [if_pos this]; exact hx
  have hsame : ∀ x, x < m.heap.next → (fun b => if b < m.heap.next then ρ b else if b < h'.next then ρs (b - m.heap.next + 8) else none) x = ρ x := fun x hx => if_pos hx
  have hvr : VR (fun b => if b < m.heap.next then ρ b else if b < h'.next then ρs (b - m.heap.next + 8) else none) v' cv := by
    rw [hv] at v1
    refine VR.renP (p := fun x => Nat.ble m.heap.next x && Nat.blt x h'.next) (fun x hx => ?_) hi v1
    simp only [Bool.and_eq_true, Nat.ble_eq] at hx
    have := blt_lt hx.2
    simp only [if_neg (show ¬ x < m.heap.next by omega), if_pos this]
  have O' : Owned N own (fun b => if b < m.heap.next then ρ b else if b < h'.next then ρs (b - m.heap.next + 8) else none) := by
    intro x cx h8 hx
    by_cases e : x < m.heap.next
    · rw [show (fun b => if b < m.heap.next then ρ b else if b < h'.next then ρs (b - m.heap.next + 8) else none) x = ρ x from if_pos e] at hx
      exact O x cx h8 hx
    · simp only [if_neg e] at hx
      split at hx
      · rcases v4 _ cx (by omega) hx with q | q
        · exact .inl (Nat.le_trans M.size q)
        · exact q.elim
      · cases hx
  have := next_goes M ht hvr hG (F.ext hext) (Nat.le_trans hB (by omega)) (SS.ext hext (fun b hb => hsame b (by omega))) hcs O' (X.then hext (fun b hb => hsame b (by have := SS.le; omega)))
    (v3.all N own M.size) (Steps.trans (.one hst) (Steps.trans hcomes (.one (step_leave_returned hlv))))
  rw [hn] at this
  exact this hl
end Go.EV
