/- Own text of this claim: an abstract machine over the given program form, and what follows from it. No condition. -/
import Derived.Test.YtekijepgmmemiaaGreatEvT3
set_option linter.unusedVariables false
set_option linter.unusedSimpArgs false
set_option maxHeartbeats 1000000
namespace Go.EV
noncomputable section
variable {P : Program}

abbrev Fz := Nat → Option (Array Value)
def coldR (fz : Fz) : Rho := ⟨fun _ => none, fz⟩
/-- a call over values that are frozen -/
def FnCall (P : Program) (f : FuncId) (args : List AV) (v : AV) : Prop :=
  ∀ (fz : Fz) (w : World) (cargs : List Value), FzOk fz w → VRs (coldR fz) args cargs →
    Calls P f cargs.toArray w fun e w' => ∃ fz' c, e = .returned c ∧ VR (coldR fz') v c ∧ FzOk fz' w' ∧ (∀ k a, fz k = some a → fz' k = some a) ∧ (∀ k a, fz' k = some a → fz k = some a ∨ w.heap.size ≤ k) ∧ Keep w.heap.size Own.no w w'

theorem callOk_of_fn {f : FuncId} {args : List AV} {v : AV} (hf : FnCall P f args v) (hi : idps (fun _ => false) args = true) (h : AH) : CallOk P f args h v none := by
  refine ⟨Nat.le_refl _, fun N own ρ w cargs H hv O hN => ?_⟩
  refine (hf ρ.fz w cargs H.frz (VRs.cool hi hv)).mono ?_
  rintro e w' ⟨fz', c, rfl, h1, h2, h3, h4, h5⟩
  have hx : Ext ρ ⟨ρ.m, fz'⟩ := ⟨fun _ _ h => h, h3⟩
  have hn : ∀ b o cb, h.bs.get b = some o → 8 ≤ b → ρ b = some cb → fz' cb.blk = none := by
    intro b o cb hg h8 hb
    cases hq : fz' cb.blk with
    | none => rfl
    | some a =>
      rcases h4 _ _ hq with h6 | h6
      · have := H.sep b o cb hg h8 hb
        rw [this] at h6; cases h6
      · have := H.bound b cb hb
        omega
  refine ⟨⟨ρ.m, fz'⟩, c, rfl, VR.ext (ρ := coldR fz') (ρ' := ⟨ρ.m, fz'⟩) ⟨fun _ _ q => (by cases q), fun _ _ q => q⟩ h1, ?_, ⟨h5.os, h5.tape, h5.output, h5.size, fun k hk _ => h5.block k (Nat.lt_of_lt_of_le hk hN) (fun x => x)⟩, ⟨O.m, fun k a hk => ?_⟩, hx, fun _ _ => rfl⟩
  · refine ⟨fun b o hg cb hb => ?_, H.inj, H.fresh, H.live, fun b cb hb => Nat.lt_of_lt_of_le (H.bound b cb hb) h5.size, H.ro, H.low, h2, hn⟩
    rw [h5.block _ (H.bound b cb hb) (fun x => x)]
    exact (H.blk b o hg cb hb).ext hx
  · rcases h4 k a hk with h6 | h6
    · exact O.f k a h6
    · exact .inl (Nat.le_trans hN h6)

/-! what a run gives back is frozen -/
open Classical in
def snap (fz : Fz) (S : Nat → Prop) (w : World) : Fz := fun k => match fz k with
  | some a => some a
  | none => if S k then match w.heap[k]? with
      | some (.cells arr _ _) => some arr
      | _ => none
    else none
theorem snap_old {fz : Fz} {S : Nat → Prop} {w : World} {k : Nat} {a : Array Value} (h : fz k = some a) : snap fz S w k = some a := by unfold snap; rw [h]
theorem snap_new {fz : Fz} {S : Nat → Prop} {w : World} {k : Nat} {arr : Array Value} {e : TypeId} {f : _} (h : fz k = none) (hk : S k) (hw : w.heap[k]? = some (.cells arr e f)) : snap fz S w k = some arr := by
  unfold snap
  rw [h]
  simp only [if_pos hk, hw]
theorem snap_ok {fz : Fz} {S : Nat → Prop} {w : World} (h : FzOk fz w) : FzOk (snap fz S w) w := by
  intro k a hk
  unfold snap at hk
  split at hk
  · rename_i a' ha
    cases hk
    exact h k a ha
  · split at hk
    · split at hk
      · rename_i arr e f hw
        cases hk
        exact ⟨e, f, hw⟩
      · cases hk
    · cases hk
theorem snap_lt {fz : Fz} {S : Nat → Prop} {w : World} {k : Nat} {a : Array Value} (h : snap fz S w k = some a) : fz k = some a ∨ S k := by
  unfold snap at h
  split at h
  · rename_i ha
    exact .inl (ha.trans h)
  · split at h
    · rename_i hb
      exact .inr hb
    · cases h
/-- which blocks are frozen -/
def Fro (h : AH) (ρ : Rho) (S : Nat → Prop) (L : List Nat) : Prop := ∀ b cb, b ∈ L → h.bs.get b ≠ none → 8 ≤ b → ρ.m b = some cb → S cb.blk
theorem Fro.left {h : AH} {ρ : Rho} {S : Nat → Prop} {L M : List Nat} (f : Fro h ρ S (L ++ M)) : Fro h ρ S L := fun b cb hb => f b cb (List.mem_append_left _ hb)
theorem Fro.right {h : AH} {ρ : Rho} {S : Nat → Prop} {L M : List Nat} (f : Fro h ρ S (L ++ M)) : Fro h ρ S M := fun b cb hb => f b cb (List.mem_append_right _ hb)
/-- a value, as it is when some blocks are frozen -/
def FrzTo (h : AH) (L : List Nat) (v v' : AV) : Prop := ∀ (ρ : Rho) (S : Nat → Prop) (w : World) (c : Value), HRel ρ h w → Fro h ρ S L → VR ρ v c → VR (coldR (snap ρ.fz S w)) v' c
def FrzTos (h : AH) (L : List Nat) (vs vs' : List AV) : Prop := ∀ (ρ : Rho) (S : Nat → Prop) (w : World) (cs : List Value), HRel ρ h w → Fro h ρ S L → VRs ρ vs cs → VRs (coldR (snap ρ.fz S w)) vs' cs
/-- .. whichever -/
def FrzA (h : AH) (v v' : AV) : Prop := ∃ L, FrzTo h L v v'
theorem cold_snap {ρ : Rho} {S : Nat → Prop} {w : World} : Ext ρ.cold (coldR (snap ρ.fz S w)) := ⟨fun _ _ q => (by cases q), fun _ _ q => snap_old q⟩
theorem FrzTo.cool {h : AH} {v : AV} (hi : idp (fun _ => false) v = true) : FrzTo h [] v v := fun ρ S w c H O hv => (VR.cool hi hv).ext cold_snap
theorem FrzTos.nil {h : AH} : FrzTos h [] [] [] := fun ρ S w cs H O hv => by simpa only [VRs] using hv
theorem FrzTos.cons {h : AH} {L M : List Nat} {v v' : AV} {vs vs' : List AV} (h1 : FrzTo h L v v') (h2 : FrzTos h M vs vs') : FrzTos h (L ++ M) (v :: vs) (v' :: vs') := by
  intro ρ S w cs H O hv
  simp only [VRs] at hv ⊢
  obtain ⟨c, r, rfl, q1, q2⟩ := hv
  exact ⟨c, r, rfl, h1 ρ S w c H O.left q1, h2 ρ S w r H O.right q2⟩
theorem FrzTo.tup {h : AH} {L : List Nat} {vs vs' : List AV} (h1 : FrzTos h L vs vs') : FrzTo h L (.tup vs) (.tup vs') := by
  intro ρ S w c H O hv
  simp only [VR] at hv ⊢
  obtain ⟨as, rfl, q⟩ := hv
  exact ⟨as, rfl, h1 ρ S w _ H O q⟩
theorem FrzTo.agg {h : AH} {L : List Nat} {vs vs' : List AV} (h1 : FrzTos h L vs vs') : FrzTo h L (.agg vs) (.agg vs') := by
  intro ρ S w c H O hv
  simp only [VR] at hv ⊢
  obtain ⟨as, rfl, q⟩ := hv
  exact ⟨as, rfl, h1 ρ S w _ H O q⟩
/-- cells that name no block -/
def FreeL (vs : List AV) : Prop := ∀ (ρ ρ' : Rho) (cs : List Value), (∀ k arr, ρ.fz k = some arr → ρ'.fz k = some arr) → VRs ρ vs cs → VRs ρ' vs cs
theorem FreeL.of {vs : List AV} (h : idps (fun _ => false) vs = true) : FreeL vs := fun ρ ρ' cs hf hv => VRs.ext (ρ := ρ.cold) (ρ' := ρ') ⟨fun _ _ q => (by cases q), hf⟩ (VRs.cool h hv)
theorem FreeL.cat {n i : Nat} {f g : Nat → List AV} (hf : i < n → FreeL (f i)) (hg : FreeL (g (i - n))) : FreeL (catE n f g i) := by
  unfold catE
  by_cases h : i < n
  · rw [bltT h]; exact hf h
  · rw [bltF (by omega)]; exact hg
theorem FreeE.of {e n : Nat} {f : Nat → List AV} (he : 0 < e) (h : ∀ i, i < n → FreeL (f i)) : FreeE e n f := ⟨he, h⟩

theorem FrzTo.es {h : AH} {b j n : Nat} {cap : Option Nat} {e m : Nat} {f f' : Nat → List AV} {full : Bool} (hg : h.bs.get b = some (.els e m f)) (hf : ∀ i, i < n → f (addZ j i) = f' i) (hF : ∀ i, i < n → FreeL (f' i)) (hc : full = true → cap = some n) :
    FrzTo h [b] (.es b j n cap e) (.ls n f' e full) := by
  intro ρ S w c H O hv
  simp only [VR] at hv ⊢
  rcases hv with ⟨h0, _, hv⟩ | ⟨cb, k, h1, rfl, h2, h3, h4, h5⟩
  · refine .inl ⟨h0, ?_⟩
    rcases hv with h | ⟨a, k, h, hk⟩
    · exact .inl h
    · exact .inr ⟨a, k, h, fun _ => hk rfl⟩
  · have h8 : 8 ≤ b := H.ro b _ hg (by intro n f hh; cases hh)
    obtain ⟨arr, elem, k1, k2, k3, k4, k5⟩ := H.blk b _ hg cb h1
    have hs : snap ρ.fz S w cb.blk = some arr := snap_new (H.sep b _ cb hg h8 h1) (O b cb (by simp) (by rw [hg]; simp) h8 h1) k1
    rcases Nat.eq_zero_or_pos n with h0 | h0
    · subst h0
      refine .inl ⟨rfl, .inr ⟨_, k, rfl, fun hfull => ?_⟩⟩
      have := h5 _ (hc hfull)
      omega
    · refine .inr ⟨h0, cb.blk, cb.base + j * e, k, arr, rfl, h2, fun hfull => (h5 _ (hc hfull)).1, hs, ?_, fun i hi => ?_⟩
      · rw [Nat.add_mul] at h3; omega
      · have hki : cb.base + (j + i + 1) * e ≤ cb.kn := by
          have : (j + i + 1) * e ≤ (j + n) * e := Nat.mul_le_mul_right _ (by omega)
          omega
        obtain ⟨q1, q2⟩ := k5 (j + i) hki
        rw [← addZ_eq j i, hf i hi] at q1
        rw [addZ_eq, Nat.add_mul, ← Nat.add_assoc] at q1
        rw [Nat.add_mul, ← Nat.add_assoc] at q2
        exact ⟨hF i hi _ (coldR (snap ρ.fz S w)) _ (fun _ _ q => snap_old q) q1, q2⟩
theorem FrzTo.ls {h : AH} {L : List Nat} {v : AV} {n e : Nat} {f f' : Nat → List AV} {full : Bool} (hv : FrzTo h L v (.ls n f e full)) (hf : ∀ i, i < n → f i = f' i) : FrzTo h L v (.ls n f' e full) := by
  intro ρ S w c H O q
  have := hv ρ S w c H O q
  simp only [VR] at this ⊢
  rcases this with h | ⟨h0, blk, off, k, arr, h1, h2, h3, h4, h5, h6⟩
  · exact .inl h
  · exact .inr ⟨h0, blk, off, k, arr, h1, h2, h3, h4, h5, fun j hj => by rw [← hf j hj]; exact h6 j hj⟩
/-- nothing, as a frozen slice -/
theorem VR.nil_ls {ρ : Rho} {c : Value} (f : Nat → List AV) (e : Nat) (full : Bool) (h : VR ρ .nilsl c) : VR ρ (.ls 0 f e full) c := by
  simp only [VR] at h ⊢
  exact .inl ⟨trivial, .inl h⟩
theorem FrzTo.nilsl {h : AH} (f : Nat → List AV) (e : Nat) (full : Bool) : FrzTo h [] .nilsl (.ls 0 f e full) := fun ρ S w c H O q => VR.nil_ls f e full ((VR.cool rfl q).ext cold_snap)
/-- a row of cells, as elements -/
theorem FrzTo.sl {h : AH} {L : List Nat} {b off n : Nat} {cap : Option Nat} {e : Nat} {cs cs' : List AV} {f : Nat → List AV} {full : Bool} (hc : h.cells b off (n * e) = some cs) (h8 : 8 ≤ b) (he : 0 < e) (hn : cs.all notAgg = true) (hL : FrzTos h L cs cs') (hf : ∀ i, i < n → chunkE e cs' i = f i) (hcap : full = true → cap = some n) :
    FrzTo h (b :: L) (.sl b off n cap e) (.ls n f e full) := by
  intro ρ S w c H O hv
  simp only [VR] at hv ⊢
  obtain ⟨cb, k, h1, rfl, h2, h3, h4⟩ := hv
  rcases Nat.eq_zero_or_pos n with h0 | h0
  · subst h0
    refine .inl ⟨rfl, .inr ⟨_, k, rfl, fun hfull => h4 _ (hcap hfull)⟩⟩
  · obtain ⟨l, q1, q2, q3⟩ := H.cells h1 (n * e) off cs hc
    obtain ⟨u, hu⟩ : ∃ u, l[0]? = some u := by
      have : 0 < n * e := Nat.mul_pos h0 he
      exact ⟨l[0], List.getElem?_eq_getElem (by omega)⟩
    have hw0 := q3 0 u hu
    unfold World.cell? at hw0
    obtain ⟨arr, elem, fz, harr⟩ : ∃ arr elem fz, w.heap[cb.blk]? = some (.cells arr elem fz) := by
      revert hw0
      cases hq : w.heap[cb.blk]? with
      | none => intro h; simp [hq] at h
      | some o => cases o with
        | cells arr elem fz => exact fun _ => ⟨arr, elem, fz, rfl⟩
        | _ => intro h; simp [hq] at h
    obtain ⟨o, ho⟩ : ∃ o, h.bs.get b = some o := by
      cases hg : h.bs.get b with
      | some o => exact ⟨o, rfl⟩
      | none =>
        obtain ⟨m, hm⟩ : ∃ m, n * e = m + 1 := ⟨n * e - 1, by have := Nat.mul_pos h0 he; omega⟩
        rw [hm] at hc
        simp only [AH.cells, AH.cell, hg] at hc
        cases hc
    have hs : snap ρ.fz S w cb.blk = some arr := snap_new (H.sep b _ cb ho h8 h1) (O b cb (by simp) (by rw [ho]; simp) h8 h1) harr
    have hat : ∀ j, j < n * e → arr[cb.base + off + j]? = l[j]? := by
      intro j hj
      have hl : l[j]? = some l[j] := List.getElem?_eq_getElem (by omega)
      have := q3 j _ hl
      unfold World.cell? at this
      simp only [harr] at this
      rw [hl]; simpa using this
    have hsz : cb.base + off + n * e ≤ arr.size := by
      have hp := Nat.mul_pos h0 he
      have h5 := hat (n * e - 1) (by omega)
      rw [List.getElem?_eq_getElem (by omega : n * e - 1 < l.length)] at h5
      have := (Array.getElem?_eq_some_iff.mp h5).1
      omega
    have hcl : cellsAt arr (cb.base + off) (n * e) = l := by
      apply List.ext_getElem?
      intro j
      rcases Nat.lt_or_ge j (n * e) with hj | hj
      · rw [cellsAt_get hj, hat j hj]
      · rw [List.getElem?_eq_none (by rw [cellsAt_len hsz]; exact hj), List.getElem?_eq_none (by omega)]
    refine .inr ⟨h0, cb.blk, cb.base + off, k, arr, rfl, h2, fun hfull => h4 _ (hcap hfull), hs, hsz, fun i hi' => ?_⟩
    rw [← hf i hi', ← cells_piece hi', hcl]
    exact ⟨((hL ρ S w l H (fun b' cb' hb' => O b' cb' (List.mem_cons_of_mem _ hb')) q1).drop _).take _, ones_sub (q1.of_all hn) _ _⟩

theorem fn_of_ends {f : FuncId} {args : List AV} {m : AM} {v' : AV} (hst : startA P f args .empty noHint = some m) (e : EndsQ P 0 m fun v h => FrzA h v v') : FnCall P f args v' := by
  intro fz w cargs hfz hv cs
  unfold startA at hst
  split at hst
  · rename_i a ha
    simp at hst; subst hst
    obtain ⟨F, hfn, _⟩ := enter_rel ha hv
    obtain ⟨v, h, ⟨L, hq⟩, hfin⟩ := e
    have M : MR P w.heap.size ⟨fun _ => False, fun k => fz k ≠ none⟩ w cs f (coldR fz) AH.empty.next ⟨a, [], .empty, ⟨noHint, noSure⟩, []⟩ (Frame.enter P f cargs.toArray .normal) cs w :=
      ⟨⟨coldR fz, [], AH.empty.next, Nat.le_refl _, HRel.emptyF hfz, .inl F, ⟨rfl, Nat.le_refl _⟩, rfl, ⟨fun b cb _ hb => (by cases hb), fun k arr hk => .inr (.inl <| by
        have hk : fz k = some arr := hk
        show fz k ≠ none
        rw [hk]; simp)⟩, Ext2.refl _ _⟩, topok_plain F _, Keep.refl _ _ w, Nat.le_refl _, hfn⟩
    obtain ⟨ρ', c, fr', w', s, hlv, hf, h1, h2, h3, h4, h5⟩ := hfin _ _ _ _ _ _ _ _ _ _ (Nat.le_refl 8) (fun b _ => rfl) M
    have hO : ∀ b cb, 8 ≤ b → ρ'.m b = some cb → w.heap.size ≤ cb.blk := fun b cb h8 hb => by
      rcases h4 b cb h8 hb with h | h
      · exact h
      · exact h.elim
    refine ⟨.returned c, w', fr', ⟨snap ρ'.fz (fun k => w.heap.size ≤ k) w', c, rfl, hq ρ' _ w' c h2 (fun b cb _ _ h8 hb => hO b cb h8 hb) h1, snap_ok h2.frz, fun k a hk => snap_old (h5.1.fz k a hk), fun k a hk => ?_, ⟨h3.os, h3.tape, h3.output, h3.size, fun k hk _ => h3.block k hk (fun x => x)⟩⟩, s, hf, hlv⟩
    rcases snap_lt hk with h6 | h6
    · rcases h4.f k a h6 with h7 | h7 | h7
      · exact .inr h7
      · left
        have h7 : fz k ≠ none := h7
        cases hq : fz k with
        | none => exact absurd hq h7
        | some a' =>
          have := h5.1.fz k a' hq
          rw [h6] at this
          exact this.symm
      · exact h7.elim
    · exact .inr h6
  · cases hst

/-- one function more -/
def addF (U : USum) (g : FuncId) (F : List AV → Option (T AV)) : USum := fun f a h => match Nat.beq f g with
  | true => match idps (fun _ => false) a with
    | true => match F a with
      | some t => some (t.bind fun v => .leaf (v, none))
      | none => none
    | false => none
  | false => U f a h
def noU : USum := fun _ _ _ => none
theorem GoodU.none (hN : (P.funcs.toList.all fun fn => !(fn.name == "runtime.NumGoroutine")) = true) (hmix : P.follows .mixedOrders = true) : GoodU P noU :=
  ⟨fun f a h t e => (by cases e), good_num hN, hmix⟩
def FnSpec (P : Program) (g : FuncId) (F : List AV → Option (T AV)) : Prop := ∀ a t, F a = some t → ∀ v, t.Sel v → FnCall P g a v
theorem GoodU.add {U : USum} (G : GoodU P U) {g : FuncId} {F : List AV → Option (T AV)} (hF : FnSpec P g F) : GoodU P (addF U g F) := by
  refine ⟨fun f a h t e v q hs => ?_, G.num, G.mix⟩
  unfold addF at e
  split at e
  · rename_i hfg
    have hfg : f = g := Nat.eq_of_beq_eq_true hfg
    subst hfg
    split at e
    · rename_i hi
      split at e
      · rename_i t' ht
        simp only [Option.some.injEq] at e; subst e
        obtain ⟨u, h1, h2⟩ := T.sel_bind hs
        have h2 : (u, Option.none) = (v, q) := h2
        cases h2
        exact callOk_of_fn (hF a t' ht v h1) hi h
      · cases e
    · cases e
  · exact G.ok f a h t e v q hs
/-- of a function that is known for each of its arguments -/
theorem FnSpec.of {g : FuncId} {F : List AV → Option (T AV)} (h : ∀ a t, F a = some t → ∀ v, t.Sel v → FnCall P g a v) : FnSpec P g F := h
end
end Go.EV
