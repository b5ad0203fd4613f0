/- Own text of this claim: an abstract machine over the given program form, and what follows from it. No condition. -/
import Derived.Test.YtekijepgmmemiaaGreatEvFin
import Derived.Deep.Slices
set_option linter.unusedVariables false
set_option linter.unusedSimpArgs false
namespace Go.EV
open Go.Deep
noncomputable section
/-! what comes in, as values that are frozen -/
inductive Sh where
  | int (k : IntKind)
  | bool
  | str
  | ls (c : List Sh)
mutual
def HasSh : Sh → AV → Prop
  | .int k, v => ∃ n, v = .int k n ∧ (Lit.int k n).wf = true
  | .bool, v => ∃ b, v = .bool b
  | .str, v => ∃ s, v = .str s
  | .ls c, v => ∃ n f, v = .ls n f c.length false ∧ n ≤ maxLen ∧ ∀ j, j < n → HasShs c (f j)
def HasShs : List Sh → List AV → Prop
  | [], l => l = []
  | s :: ss, l => ∃ v vs, l = v :: vs ∧ HasSh s v ∧ HasShs ss vs
end
theorem HasShs.append : ∀ {a b : List Sh} {l m : List AV}, HasShs a l → HasShs b m → HasShs (a ++ b) (l ++ m)
  | [], b, l, m, h, g => by
    simp only [HasShs] at h
    subst h
    exact g
  | s :: ss, b, l, m, h, g => by
    simp only [HasShs] at h
    obtain ⟨v, vs, rfl, h1, h2⟩ := h
    simp only [List.cons_append, HasShs]
    exact ⟨v, vs ++ m, rfl, h1, h2.append g⟩
theorem HasShs.length : ∀ {a : List Sh} {l : List AV}, HasShs a l → l.length = a.length
  | [], l, h => by simp only [HasShs] at h; subst h; rfl
  | s :: ss, l, h => by
    simp only [HasShs] at h
    obtain ⟨v, vs, rfl, h1, h2⟩ := h
    simp [h2.length]
def shFs (P : Program) (k : TypeId → Option (List Sh)) : List Field → Nat → Option (List Sh)
  | [], _ => some []
  | fl :: r, off => match Nat.beq fl.offset off, k fl.type with
    | true, some c => match Nat.beq c.length (P.cellsOf fl.type), shFs P k r (off + c.length) with
      | true, some d => some (c ++ d)
      | _, _ => none
    | _, _ => none
def shOf (P : Program) : Nat → TypeId → Option (List Sh)
  | 0, _ => none
  | f + 1, t => match P.underlying t with
    | some .bool => some [.bool]
    | some (.int k) => some [.int k]
    | some .string => some [.str]
    | some (.slice e) => match shOf P f e with
      | some c => match Nat.beq c.length (P.cellsOf e) && Nat.blt 0 c.length with
        | true => some [.ls c]
        | false => none
      | none => none
    | some (.struct fs) => match shFs P (shOf P f) fs.toList 0 with
      | some c => match Nat.beq c.length (P.cellsOf t) with
        | true => some c
        | false => none
      | none => none
    | _ => none
/-- all cells, as they are -/
def snapW (W : World) : Fz := fun k => match W.heap[k]? with
  | some (.cells arr _ _) => some arr
  | _ => none
theorem snapW_ok (W : World) : FzOk (snapW W) W := by
  intro k a hk
  unfold snapW at hk
  split at hk
  · rename_i arr e f hw
    cases hk
    exact ⟨e, f, hw⟩
  · cases hk
section
variable {H : Type} {enc : TypeId × Value → H} {P : Program} {W : World} {base : Nat} {sp : Nat → Bool} {hd : Bool}
theorem open_fs {k : TypeId → Option (List Sh)} {n : Nat} {cs : List Value}
    (ih : ∀ t c, k t = some c → ∀ cs x, DataW.trod enc P W base sp hd n t cs = some x → ∃ avs, VRs (coldR (snapW W)) avs cs ∧ HasShs c avs ∧ ones cs) :
    ∀ (fl : List Field) (off : Nat) (c : List Sh), shFs P k fl off = some c → (∀ f ∈ fl, ∃ x, DataW.trod enc P W base sp hd n f.type ((cs.drop f.offset).take (P.cellsOf f.type)) = some x) →
      ∃ avs, VRs (coldR (snapW W)) avs ((cs.drop off).take c.length) ∧ HasShs c avs ∧ ones ((cs.drop off).take c.length)
  | [], off, c, h, _ => by
    simp only [shFs, Option.some.injEq] at h
    subst h
    exact ⟨[], by simp [VRs], by simp [HasShs], by simp [ones]⟩
  | f :: r, off, c, h, hx => by
    unfold shFs at h
    split at h
    · rename_i c1 ho hk
      split at h
      · rename_i d hl hr
        simp only [Option.some.injEq] at h
        subst h
        have ho := Nat.eq_of_beq_eq_true ho
        have hl := Nat.eq_of_beq_eq_true hl
        subst ho
        obtain ⟨x, h1⟩ := hx f (by simp)
        rw [← hl] at h1
        obtain ⟨a1, q1, q2, q3⟩ := ih _ _ hk _ _ h1
        obtain ⟨a2, r1, r2, r3⟩ := open_fs ih r _ d hr (fun g hg => hx g (by simp [hg]))
        have e : (cs.drop f.offset).take (c1 ++ d).length = (cs.drop f.offset).take c1.length ++ (cs.drop (f.offset + c1.length)).take d.length := by
          rw [List.length_append, List.take_add, List.drop_drop]
        rw [e]
        exact ⟨a1 ++ a2, q1.append r1, q2.append r2, fun v hv => by
          rcases List.mem_append.mp hv with hv | hv
          · exact q3 v hv
          · exact r3 v hv⟩
      · cases h
    · cases h
theorem open_sh : ∀ (f : Nat) (t : TypeId) (c : List Sh), shOf P f t = some c → ∀ (fuel : Nat) (cs : List Value) (x : DataW H × List MemPlace), DataW.trod enc P W base sp hd fuel t cs = some x →
    ∃ avs, VRs (coldR (snapW W)) avs cs ∧ HasShs c avs ∧ ones cs
  | 0, t, c, h => by cases h
  | f + 1, t, c, h => by
    intro fuel cs x hx
    unfold shOf at h
    split at h
    · rename_i ht
      simp only [Option.some.injEq] at h; subst h
      obtain ⟨b, rfl, _⟩ := DataW.trod_bool ht hx
      exact ⟨[.bool b], by simp [VRs, VR], by simp [HasShs, HasSh], by simp [ones, Value.oneCell']⟩
    · rename_i k ht
      simp only [Option.some.injEq] at h; subst h
      obtain ⟨n, rfl, _, hw⟩ := DataW.trod_int ht hx
      exact ⟨[.int k n], by simp [VRs, VR], by simp only [HasShs, HasSh]; exact ⟨_, _, rfl, ⟨n, rfl, hw⟩, rfl⟩, by simp [ones, Value.oneCell']⟩
    · rename_i ht
      simp only [Option.some.injEq] at h; subst h
      obtain ⟨s, rfl, _⟩ := DataW.trod_string ht hx
      exact ⟨[.str s], by simp [VRs, VR], by simp [HasShs, HasSh], by simp [ones, Value.oneCell']⟩
    · rename_i e ht
      split at h
      · rename_i c1 hc
        split at h
        · rename_i hl
          simp only [Option.some.injEq] at h; subst h
          simp only [Bool.and_eq_true] at hl
          have hl0 : 0 < c1.length := by
            have := hl.2
            simp [Nat.blt] at this
            omega
          have hl := Nat.eq_of_beq_eq_true hl.1
          rcases open_slice ht hx with ⟨rfl, _⟩ | ⟨a, len, cap, m, n, D, Pl, rfl, hb, hlc, hcm, hm, rfl, hel⟩
          · refine ⟨[.ls 0 (fun _ => []) c1.length false], ?_, ?_, by simp [ones, Value.oneCell']⟩
            · simp only [VRs, VR]
              exact ⟨_, _, rfl, .inl ⟨trivial, .inl rfl⟩, rfl⟩
            · simp only [HasShs, HasSh]
              exact ⟨_, _, rfl, ⟨0, _, rfl, Nat.zero_le _, fun j hj => by omega⟩, rfl⟩
          · have hlm : len ≤ m := by rw [hm]; split <;> omega
            rcases Nat.eq_zero_or_pos len with h0 | h0
            · subst h0
              refine ⟨[.ls 0 (fun _ => []) c1.length false], ?_, ?_, by simp [ones, Value.oneCell']⟩
              · simp only [VRs, VR]
                exact ⟨_, _, rfl, .inl ⟨trivial, .inr ⟨a, cap, rfl, fun h => by cases h⟩⟩, rfl⟩
              · simp only [HasShs, HasSh]
                exact ⟨_, _, rfl, ⟨0, _, rfl, Nat.zero_le _, fun j hj => by omega⟩, rfl⟩
            · have hcell : ∀ i, i < len → ∃ cs', cs'.length = c1.length ∧ (∀ q, q < c1.length → W.cell? ((a.add (i * c1.length)).add q) = cs'[q]?) ∧ ∃ avs, VRs (coldR (snapW W)) avs cs' ∧ HasShs c1 avs ∧ ones cs' := by
                intro i hi
                obtain ⟨cs', h1, h2⟩ := hel i (by omega)
                rw [← hl] at h1
                obtain ⟨_, h3, h4⟩ := World.cells?_some h1
                exact ⟨cs', h3, h4, open_sh f e c1 hc n cs' _ h2⟩
              obtain ⟨cs0, k1, k2, _⟩ := hcell 0 h0
              have hsp : ∃ arr elem fz, W.heap[a.block]? = some (.cells arr elem fz) ∧ a.spot = none := by
                have := k2 0 hl0
                rw [Nat.zero_mul] at this
                have e0 : (a.add 0).add 0 = a := rfl
                rw [e0, List.getElem?_eq_getElem (by omega)] at this
                unfold World.cell? at this
                split at this
                · rename_i arr elem fz hw
                  split at this
                  · cases this
                  · rename_i hs
                    exact ⟨arr, elem, fz, hw, by simpa using hs⟩
                · cases this
              obtain ⟨arr, elem, fz, hw, hspot⟩ := hsp
              obtain ⟨blk, off, spot⟩ := a
              simp only at hspot hw
              subst hspot
              have hadd : ∀ q r : Nat, ((⟨blk, off, none⟩ : Addr).add q).add r = ⟨blk, off + q + r, none⟩ := by
                intro q r
                unfold Addr.add
                by_cases hq : q = 0 <;> by_cases hr : r = 0 <;> simp [hq, hr]
              have hget : ∀ i, i < len → ∃ cs', cs'.length = c1.length ∧ cellsAt arr (off + i * c1.length) c1.length = cs' ∧ off + i * c1.length + c1.length ≤ arr.size ∧ ∃ avs, VRs (coldR (snapW W)) avs cs' ∧ HasShs c1 avs ∧ ones cs' := by
                intro i hi
                obtain ⟨cs', h1, h2, h3⟩ := hcell i hi
                have hq : ∀ q, q < c1.length → arr[off + i * c1.length + q]? = cs'[q]? := by
                  intro q hq
                  have := h2 q hq
                  rw [hadd] at this
                  unfold World.cell? at this
                  simpa [hw] using this
                have hsz : off + i * c1.length + c1.length ≤ arr.size := by
                  have := hq (c1.length - 1) (by omega)
                  rw [List.getElem?_eq_getElem (by omega)] at this
                  have := (Array.getElem?_eq_some_iff.mp this).1
                  omega
                refine ⟨cs', h1, ?_, hsz, h3⟩
                apply List.ext_getElem?
                intro q
                rcases Nat.lt_or_ge q c1.length with h | h
                · rw [cellsAt_get h, hq q h]
                · rw [List.getElem?_eq_none (by rw [cellsAt_len hsz]; exact h), List.getElem?_eq_none (by omega)]
              obtain ⟨F, hF⟩ := choose_lt (α := List AV) (n := len) (p := fun i avs => VRs (coldR (snapW W)) avs (cellsAt arr (off + i * c1.length) c1.length) ∧ HasShs c1 avs ∧ ones (cellsAt arr (off + i * c1.length) c1.length)) (fun i hi => by
                obtain ⟨cs', h1, h2, _, avs, h3⟩ := hget i hi
                exact ⟨avs, by rw [h2]; exact h3⟩)
              refine ⟨[.ls len F c1.length false], ?_, ?_, by simp [ones, Value.oneCell']⟩
              · simp only [VRs, VR]
                refine ⟨_, _, rfl, .inr ⟨h0, blk, off, cap, arr, rfl, hlc, (fun h => by cases h), ?_, ?_, fun j hj => ⟨(hF j hj).1, (hF j hj).2.2⟩⟩, rfl⟩
                · show snapW W blk = some arr
                  unfold snapW
                  rw [hw]
                · obtain ⟨_, _, _, h2, _⟩ := hget (len - 1) (by omega)
                  have : off + (len - 1) * c1.length + c1.length = off + len * c1.length := by
                    rw [Nat.add_assoc, ← Nat.succ_mul]
                    congr 2
                    omega
                  omega
              · simp only [HasShs, HasSh]
                exact ⟨_, _, rfl, ⟨len, F, rfl, by omega, fun j hj => (hF j hj).2.1⟩, rfl⟩
        · cases h
      · cases h
    · rename_i fs ht
      split at h
      · rename_i c1 hc
        split at h
        · rename_i hl
          simp only [Option.some.injEq] at h; subst h
          have hl := Nat.eq_of_beq_eq_true hl
          obtain ⟨xs, n, rfl, _, hcl, hxl, hx⟩ := DataW.trod_struct ht hx
          have := open_fs (k := shOf P f) (n := n) (cs := cs) (fun t c hk cs x hx => open_sh f t c hk n cs x hx) fs.toList 0 c1 hc (fun fl hfl => by
            obtain ⟨i, hi⟩ := List.mem_iff_getElem?.mp hfl
            have hi' : fs[i]? = some fl := by simpa using hi
            have h1 := hx i fl hi'
            have : i < xs.length := by
              rw [hxl]
              exact (Array.getElem?_eq_some_iff.mp hi').1
            rw [List.getElem?_eq_getElem this] at h1
            exact ⟨_, h1⟩)
          rw [List.drop_zero, List.take_of_length_le (by omega)] at this
          exact this
        · cases h
      · cases h
    · cases h
theorem open_slice_arg {f : Nat} {t e : TypeId} {c : List Sh} {r : Go.Reach} {b0 : Nat} {v : Value} {d : DataW H} {ps : List MemPlace} (ht : P.underlying t = some (.slice e)) (hs : shOf P f t = some [.ls c]) (hv : Value.okWide P W r b0 t v) (h : DataW.Trod enc P W base sp hd t v d ps) :
    ∃ n f, VR (coldR (snapW W)) (.ls n f c.length false) v ∧ n ≤ maxLen ∧ ∀ j, j < n → HasShs c (f j) := by
  have hcell : Cell.ok P W r b0 t v := by
    unfold Value.okWide at hv
    rw [ht] at hv
    simp only at hv
    unfold Cell.okWide at hv
    rw [ht] at hv
    exact hv
  have hvc : v.cells.toList = [v] := by
    unfold Cell.ok at hcell
    rw [ht] at hcell
    cases v <;> first | rfl | (simp only at hcell)
  obtain ⟨fuel, hf⟩ := h
  rw [hvc] at hf
  obtain ⟨avs, h1, h2, _⟩ := open_sh f t _ hs fuel _ _ hf
  simp only [HasShs, HasSh] at h2
  obtain ⟨_, _, rfl, ⟨n, g, rfl, hn, hj⟩, rfl⟩ := h2
  simp only [VRs] at h1
  obtain ⟨c', cs', e1, e2, rfl⟩ := h1
  simp only [List.cons.injEq, and_true] at e1
  subst e1
  exact ⟨n, g, e2, hn, hj⟩
theorem open_struct_arg {f : Nat} {t : TypeId} {fs : Array Field} {c : List Sh} {r : Go.Reach} {b0 : Nat} {v : Value} {d : DataW H} {ps : List MemPlace} (ht : P.underlying t = some (.struct fs)) (hs : shOf P f t = some c) (hv : Value.okWide P W r b0 t v) (h : DataW.Trod enc P W base sp hd t v d ps) :
    ∃ avs, VR (coldR (snapW W)) (.agg avs) v ∧ HasShs c avs := by
  unfold Value.okWide at hv
  rw [ht] at hv
  obtain ⟨cs, rfl, _, _⟩ := hv
  obtain ⟨fuel, hf⟩ := h
  obtain ⟨avs, h1, h2, _⟩ := open_sh f t _ hs fuel _ _ hf
  refine ⟨avs, ?_, h2⟩
  simp only [VR]
  exact ⟨cs, rfl, h1⟩
theorem open_int_arg {t : TypeId} {k : IntKind} {r : Go.Reach} {b0 : Nat} {v : Value} {d : DataW H} {ps : List MemPlace} (ht : P.underlying t = some (.int k)) (hv : Value.okWide P W r b0 t v) (h : DataW.Trod enc P W base sp hd t v d ps) :
    ∃ n, v = .int k n ∧ (Lit.int k n).wf = true := by
  have hcell : Cell.ok P W r b0 t v := by
    unfold Value.okWide at hv
    rw [ht] at hv
    simp only at hv
    unfold Cell.okWide at hv
    rw [ht] at hv
    exact hv
  have hvc : v.cells.toList = [v] := by
    unfold Cell.ok at hcell
    rw [ht] at hcell
    cases v <;> first | rfl | (simp only at hcell)
  obtain ⟨fuel, hf⟩ := h
  rw [hvc] at hf
  obtain ⟨n, h1, _, h2⟩ := DataW.trod_int ht hf
  simp only [List.cons.injEq, and_true] at h1
  exact ⟨n, h1, h2⟩
end
end
end Go.EV
