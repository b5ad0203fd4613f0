/- Own text of this claim: an abstract machine over the given program form, and what follows from it. No condition. -/
import Derived.Test.YtekijepgmmemiaaGreatEvI
set_option linter.unusedVariables false
set_option linter.unusedSimpArgs false
set_option maxHeartbeats 1000000
namespace Go.EV
noncomputable section
variable {P : Program}

/-! appends -/
def appendT (P : Program) (h : AH) (t t2 : TypeId) (s x : AV) : T (Option (AV × AH)) :=
  match P.underlying t, P.underlying t2 with
  | some (.slice elem), some (.slice _) => match P.info? elem, zeroOf P elem, lenA s, lenA x with
    | some i, some z, some sl, some n =>
      match Nat.blt 0 i.size && Nat.blt 0 i.bytes && Nat.beq z.length i.size, elemsOf h i.size s, elemsOf h i.size x with
      | true, some f, some g => T.cki (i.bytes * (sl + n + 1000) * 4 ≤ 2 ^ 47) (match s with
        | .ls _ _ _ full => T.cki (full = true) (match isEls x with
          | true => .br (Nat.beq n 0) (.leaf (some (s, h))) (.leaf (some (.es h.next 0 (sl + n) none i.size, h.new (.els i.size (sl + n) (catE sl f g)))))
          | false => match n with
            | 0 => .leaf (some (s, h))
            | n + 1 => .leaf (some (.es h.next 0 (sl + (n + 1)) none i.size, h.new (.els i.size (sl + (n + 1)) (catE sl f g)))))
        | .sl _ _ _ (some c) _ => match Nat.beq c sl with
          | true => match sl with
            | 0 => .leaf (some (.es h.next 0 n none i.size, h.new (.els i.size n g)))
            | sl + 1 => match isEls x with
              | true => .br (Nat.beq n 0) (.leaf (some (s, h))) (.leaf (some (.es h.next 0 (sl + 1 + n) none i.size, h.new (.els i.size (sl + 1 + n) (catE (sl + 1) f g)))))
              | false => match n with
                | 0 => .leaf (some (s, h))
                | n + 1 => .leaf (some (.es h.next 0 (sl + 1 + (n + 1)) none i.size, h.new (.els i.size (sl + 1 + (n + 1)) (catE (sl + 1) f g))))
          | false => .leaf none
        | .nilsl => .leaf (some (.es h.next 0 n none i.size, h.new (.els i.size n g)))
        | .slz true => .leaf (some (.es h.next 0 n none i.size, h.new (.els i.size n g)))
        | .es b j _ cap _ => match cap with
          | none => .leaf (some (.es h.next 0 (sl + n) none i.size, ⟨Tr.set (.els i.size (sl + n) (catE sl f g)) (h.bs.del b) h.next, h.next + 1⟩))
          | some c => match h.bs.get b with
            | some (.els e2 m f0) => .br (Nat.ble (sl + n) c) (.leaf (some (.es b j (sl + n) (some c) i.size, ⟨Tr.set (.els e2 m (overE (addZ j sl) n f0 g)) h.bs b, h.next⟩)))
                (.leaf (some (.es h.next 0 (sl + n) none i.size, h.new (.els i.size (sl + n) (catE sl f g)))))
            | _ => .leaf none
        | _ => .leaf none)
      | _, _, _ => .leaf none
    | _, _, _, _ => .leaf none
  | _, _ => .leaf none
theorem appendT_ok {h : AH} {t t2 : TypeId} {s x : AV} {r : Option (AV × AH)} (e : (appendT P h t t2 s x).Sel r) (hr : r ≠ none) : appendE P h t t2 s x = r := by
  unfold appendT at e
  unfold appendE
  split at e
  · rename_i elem e2 hu hu2
    split at e
    · rename_i i z sl n hi hz hsl hn
      split at e
      · rename_i f g hc hf hg
        obtain ⟨hb, e⟩ := e
        have hb' : Nat.ble (i.bytes * (sl + n + 1000) * 4) (2 ^ 47) = true := by simpa using hb
        simp only [hu, hu2, hi, hz, hsl, hn, hc, hb', hf, hg, Bool.and_self]
        split at e
        · rename_i q1 q2 q3 full
          obtain ⟨hfull, e⟩ := e
          subst hfull
          simp only
          split at e
          · rcases e with ⟨h0, e⟩ | ⟨h0, e⟩
            · rw [Tr.beq_true] at h0; subst h0; exact e
            · cases n with
              | zero => cases h0
              | succ n => exact e
          · cases n with
            | zero => exact e
            | succ n => exact e
        · split at e
          · rename_i hcl
            simp only [hcl]
            cases sl with
            | zero => exact e
            | succ sl =>
              simp only at e ⊢
              split at e
              · rcases e with ⟨h0, e⟩ | ⟨h0, e⟩
                · rw [Tr.beq_true] at h0; subst h0; exact e
                · cases n with
                  | zero => cases h0
                  | succ n => exact e
              · cases n with
                | zero => exact e
                | succ n => exact e
          · exact absurd e.symm hr
        · exact e
        · exact e
        · split at e
          · exact e
          · split at e
            · rename_i hgb
              simp only
              rcases e with ⟨h0, e⟩ | ⟨h0, e⟩
              · simp only [h0, hgb]; exact e
              · simp only [h0]; exact e
            · exact absurd e.symm hr
        · exact absurd e.symm hr
      · exact absurd e.symm hr
    · exact absurd e.symm hr
  · exact absurd e.symm hr

/-! rows that are made, element by element -/
def makeT (P : Program) (ev : Operand → Option AV) (nx : Nat) (op : Op) : T (Option (ABlk × AV)) :=
  match op with
  | .makeSlice t l c => match P.underlying t, ev l, ev c with
    | some (.slice elem), some (.int _ a), some (.int _ b) => match P.info? elem, zeroOf P elem with
      | some i, some z => match Nat.beq z.length i.size && Nat.blt 0 i.size && z.all notAgg with
        | true => T.cki (0 ≤ a ∧ a ≤ b ∧ i.bytes * b.toNat ≤ 2 ^ 47 ∧ b.toNat ≤ 2 ^ 47) (.leaf (some (.els i.size b.toNat (fun _ => z), .es nx 0 a.toNat (some b.toNat) i.size)))
        | false => .leaf none
      | _, _ => .leaf none
    | _, _, _ => .leaf none
  | .makeMap t r => match newOp P ev nx (.makeMap t r), P.underlying t with
    | some (.map [] 0, v), some (.map key elem) => match P.underlying key, zeroV P elem with
      | some (.int kk), some z => .leaf (some (.imap kk [] (fun _ => false) (fun _ => z), v))
      | _, _ => .leaf none
    | _, _ => .leaf none
  | _ => .leaf none
theorem makeT_left (w : World) {N : Nat} {own : Own} {ρ : Rho} {h : AH} (H : HRel ρ h w) (hO : Owned N own ρ) (hN : N ≤ w.heap.size) {f : Operand → Option AV} {e : Operand → Value} (hf : EvR ρ f e) {o : Oper} {b : ABlk} {v : AV}
    (hn : (makeT P f h.next o.op).Sel (some (b, v))) : Left P N h.next own ρ (h.new b) v w (execOp e o) := by
  obtain ⟨dst, op, ty, pos, after, guard⟩ := o
  simp only at hn
  unfold makeT at hn
  split at hn
  · rename_i t l c
    split at hn
    · rename_i elem k a k' m hu hlv hcv
      split at hn
      · rename_i i z hi hz
        split at hn
        · rename_i hc
          simp only [Bool.and_eq_true, Tr.beq_true] at hc
          obtain ⟨⟨c4, c5⟩, c6⟩ := hc
          have c5' : 0 < i.size := by simp [Nat.blt] at c5; omega
          obtain ⟨⟨k1, k2, k3, k4⟩, hn⟩ := hn
          have hn : some _ = some (b, v) := hn
          simp only [Option.some.injEq, Prod.mk.injEq] at hn
          obtain ⟨rfl, rfl⟩ := hn
          have hzz : ∃ zv, i.zero = some zv ∧ VRs ρ z zv.cells.toList := by
            unfold zeroOf at hz
            rw [hi] at hz
            simp only at hz
            split at hz
            · rename_i zv hzv; exact ⟨zv, hzv, cellsOfValue_rel hz⟩
            · simp at hz
          obtain ⟨zv, hzv, hv⟩ := hzz
          have hlz := VRs.length hv
          simp at hlz
          have e1 := VR_int (hf _ _ hlv)
          have e2 := VR_int (hf _ _ hcv)
          obtain ⟨n, rfl⟩ := Int.eq_ofNat_of_zero_le k1
          obtain ⟨m, rfl⟩ := Int.eq_ofNat_of_zero_le (show 0 ≤ m by omega)
          simp only [Int.toNat_natCast] at k3 k4
          have hb : (i.bytes : Int) * (m : Int) ≤ 281474976710656 := by
            have : ((i.bytes * m : Nat) : Int) ≤ 2 ^ 47 := by exact_mod_cast k3
            rw [Int.natCast_mul] at this; omega
          have hrun := run_make (P := P) w t elem i zv hu hi hzv k k' (n : Int) (m : Int) (by omega) (by omega) hb (by omega)
          simp only [Int.toNat_natCast] at hrun ⊢
          have hsz : (madeCells zv.cells (m * i.size)).size = m * i.size := size_madeCells ..
          refine ⟨ρ.put h.next ⟨w.heap.size, 0, m * i.size, m * i.size⟩, .slice (some ⟨w.heap.size, 0, none⟩) n m, _, _, ?_, .inl rfl, ?_, H.alloc ⟨_, elem, rfl, hsz, Nat.le_refl _, by simp, fun q hq => ?_⟩, Rho.put_ext2 (H.fresh _ (Nat.le_refl _)), Keep.alloc w _ hN, hO.put (.inl hN)⟩
          · simp only [execOp, e1, e2, Sem.run_bind]
            rw [hrun]; rfl
          · simp only [VR]
            have : n * i.size ≤ m * i.size := Nat.mul_le_mul_right _ (by omega)
            exact .inr ⟨_, m, Rho.put_same, by simp, by omega, by simpa using this, by simp, fun q hq => by cases hq; exact ⟨rfl, by simp⟩⟩
          · simp only [Nat.zero_add] at hq ⊢
            have hcs : cellsAt (madeCells zv.cells (m * i.size)) (q * i.size) i.size = zv.cells.toList := by
              apply List.ext_getElem?
              intro p
              rw [Nat.add_mul] at hq
              rcases Nat.lt_or_ge p i.size with hp | hp
              · rw [cellsAt_get hp]
                unfold madeCells
                have hlt : q * i.size + p < m * i.size := by omega
                have hpz : p < zv.cells.size := by omega
                rw [Array.getElem?_map, Array.getElem?_range, if_pos hlt, Option.map_some]
                have hmod : (q * i.size + p) % zv.cells.size = p := by
                  rw [show zv.cells.size = i.size by omega, Nat.mul_comm, Nat.mul_add_mod, Nat.mod_eq_of_lt hp]
                rw [hmod, getElem!_pos zv.cells _ hpz]
                simp [hpz]
              · rw [List.getElem?_eq_none (by rw [cellsAt_len (by rw [hsz]; omega)]; exact hp), List.getElem?_eq_none (by simp; omega)]
            rw [hcs]
            exact ⟨hv.ext (Rho.put_ext (H.fresh _ (Nat.le_refl _))), hv.of_all c6⟩
        · cases hn
      · cases hn
    · cases hn
  · rename_i t r
    split at hn
    · rename_i v' key elem hnew hu
      split at hn
      · rename_i kk z hkd hz
        have hn : some _ = some (b, v) := hn
        simp only [Option.some.injEq, Prod.mk.injEq] at hn
        obtain ⟨rfl, rfl⟩ := hn
        rcases new_run (P := P) (ρ := ρ) w hf (o := ⟨dst, .makeMap t r, ty, pos, after, guard⟩) hnew with ⟨n, z', arr, elem', c, h1, _⟩ | ⟨_, c, h2, h3⟩
        · cases h1
        · refine ⟨ρ.put h.next ⟨w.heap.size, 0, 0, 0⟩, c, _, _, h2, .inl rfl, h3 _ Rho.put_same, H.alloc ⟨#[], 0, rfl, ?_⟩, Rho.put_ext2 (H.fresh _ (Nat.le_refl _)), Keep.alloc w _ hN, hO.put (.inl hN)⟩
          exact ⟨fun e he => by simp at he, fun n hn => by simp [imH] at hn, by simp⟩
      · cases hn
    · cases hn
  · cases hn

/-! effects -/
def effT (P : Program) (app : Bool) (ev : Operand → Option AV) (h : AH) (op : Op) : T (Option (AV × AH)) :=
  match op with
  | .call { callee := .builtin .append, args, argTypes } => match args.toList, argTypes.toList with
    | [s, x], [t, t2] => match ev s, ev x with
      | some a, some b => match app || isEls a || isEls b with
        | true => appendT P h t t2 a b
        | false => .leaf (appendV P h t t2 a b)
      | _, _ => .leaf none
    | _, _ => .leaf none
  | .lookup t m k ok => match ev m, ev k with
    | some a, some b => match lookupT P h t a b ok with
      | some tr => tr.bind fun v => .leaf (some (v, h))
      | none => .leaf (effOp P ev h (.lookup t m k ok))
    | _, _ => .leaf none
  | .mapUpdate t m k x => match ev m, ev k, ev x with
    | some a, some b, some c => match updateI P h t a b c with
      | some h' => .leaf (some (undefA, h'))
      | none => .leaf (effOp P ev h (.mapUpdate t m k x))
    | _, _, _ => .leaf none
  | op => .leaf (effOp P ev h op)
theorem effT_next {app : Bool} {f : Operand → Option AV} {h h' : AH} {op : Op} {v : AV} (e : (effT P app f h op).Sel (some (v, h'))) : h.next ≤ h'.next := by
  unfold effT at e
  split at e
  · split at e
    · split at e
      · split at e
        · exact appendE_next (appendT_ok e (by simp))
        · exact append_next (show appendV P h _ _ _ _ = some (v, h') from e)
      · cases e
    · cases e
  · split at e
    · split at e
      · obtain ⟨u, h1, h2⟩ := T.sel_bind e
        have h2 : some (u, h) = some (v, h') := h2
        simp only [Option.some.injEq, Prod.mk.injEq] at h2
        rw [h2.2]; exact Nat.le_refl _
      · exact effOp_next (show effOp P f h _ = some (v, h') from e)
    · cases e
  · split at e
    · split at e
      · rename_i hu
        have e : some (undefA, _) = some (v, h') := e
        simp only [Option.some.injEq, Prod.mk.injEq] at e
        rw [← e.2, updateI_next hu]; exact Nat.le_refl _
      · exact effOp_next (show effOp P f h _ = some (v, h') from e)
    · cases e
  · exact effOp_next (show effOp P f h _ = some (v, h') from e)
theorem effT_left (w : World) {N : Nat} {own : Own} {ρ : Rho} {h h' : AH} (H : HRel ρ h w) (hO : Owned N own ρ) (hN : N ≤ w.heap.size) {f : Operand → Option AV} {e : Operand → Value} (hf : EvR ρ f e) {app : Bool} {o : Oper} {v : AV}
    (hn : (effT P app f h o.op).Sel (some (v, h'))) : Left P N h.next own ρ h' v w (execOp e o) := by
  generalize hop : o.op = op at hn
  unfold effT at hn
  split at hn
  · rename_i args argTypes
    split at hn
    · rename_i s x t t2 ha ht
      split at hn
      · rename_i a b hs hx
        obtain ⟨ρ', c, w', h1, h2⟩ : ∃ ρ' c w', (Builtin.append_ #[t, t2] o.type #[e s, e x]).run P w = .ok c w' ∧ VR ρ' v c ∧ HRel ρ' h' w' ∧ Ext2 h.next ρ ρ' ∧ Keep N own w w' ∧ Owned N own ρ' := by
          split at hn
          · exact appendE_rel w H hO hN (hf _ _ hs) (hf _ _ hx) (appendT_ok hn (by simp)) o.type
          · exact append_rel w H hO hN (hf _ _ hs) (hf _ _ hx) (show appendV P h t t2 a b = some (v, h') from hn) o.type
        have hm : args.map e = #[e s, e x] := by apply Array.ext'; simp [ha]
        have ht' : argTypes = #[t, t2] := by apply Array.ext'; simp [ht]
        refine Left.of_run w (s' := Builtin.append_ #[t, t2] o.type #[e s, e x]) (fun c w' hr => ?_) ⟨ρ', c, w', h1, h2⟩
        simp [execOp, hop, resolve, hm, ht', invoke, builtin, hr]
      · cases hn
    · cases hn
  · rename_i t m k ok
    split at hn
    · rename_i a b hm hk
      split at hn
      · rename_i tr htr
        obtain ⟨u, g1, g2⟩ := T.sel_bind hn
        have g2 : some (u, h) = some (v, h') := g2
        simp only [Option.some.injEq, Prod.mk.injEq] at g2
        obtain ⟨rfl, rfl⟩ := g2
        obtain ⟨c, h1, h2⟩ := lookupT_rel w H (hf _ _ hm) (hf _ _ hk) htr g1
        exact Left.same w H hO (by simp [execOp, hop, h1]) h2
      · have hn : effOp P f h _ = some (v, h') := hn
        rw [← hop] at hn
        exact eff_sound w H hO hN hf hn
    · cases hn
  · rename_i t m k x
    split at hn
    · rename_i a b c hm hk hx
      split at hn
      · rename_i h2 hl
        have hn : some (undefA, h2) = some (v, h') := hn
        simp only [Option.some.injEq, Prod.mk.injEq] at hn
        obtain ⟨rfl, rfl⟩ := hn
        obtain ⟨w', h1, h2, h3⟩ := updateI_rel w H hO (hf _ _ hm) (hf _ _ hk) (hf _ _ hx) hl
        exact ⟨ρ, undef, w', .skip, by simp [execOp, hop, h1], .inr ⟨rfl, rfl⟩, by simp [undefA, VR, VRs, undef], h2, Ext2.refl _ ρ, h3, hO⟩
      · have hn : effOp P f h _ = some (v, h') := hn
        rw [← hop] at hn
        exact eff_sound w H hO hN hf hn
    · cases hn
  · have hn : effOp P f h _ = some (v, h') := hn
    rw [← hop] at hn
    exact eff_sound w H hO hN hf hn

/-- an operation that calls no function -/
def plainT (P : Program) (mk : Bool) (fr : Tr AV) (h : AH) (op : Op) : T (Option (AV × AH)) :=
  match kindOf op with
  | .pure => (pureT P (ev fr) op).bind fun r => match r with
    | some v => .leaf (some (v, h))
    | none => .leaf none
  | .new => match mk with
    | true => (makeT P (ev fr) h.next op).bind fun r => match r with
      | some (o, v) => .leaf (some (v, h.new o))
      | none => .leaf none
    | false => .leaf (plainOp P fr h op)
  | .eff => effT P mk (ev fr) h op
  | _ => .leaf (plainOp P fr h op)
theorem plainT_next {mk : Bool} {fr : Tr AV} {h h' : AH} {op : Op} {v : AV} (e : (plainT P mk fr h op).Sel (some (v, h'))) : h.next ≤ h'.next := by
  unfold plainT at e
  split at e
  · obtain ⟨r, h1, h2⟩ := T.sel_bind e
    split at h2
    · have h2 : some (_, h) = some (v, h') := h2
      simp only [Option.some.injEq, Prod.mk.injEq] at h2
      rw [h2.2]; exact Nat.le_refl _
    · cases h2
  · split at e
    · obtain ⟨r, h1, h2⟩ := T.sel_bind e
      split at h2
      · have h2 : some (_, h.new _) = some (v, h') := h2
        simp only [Option.some.injEq, Prod.mk.injEq] at h2
        rw [← h2.2]; exact Nat.le_succ _
      · cases h2
    · exact plainOp_next (show plainOp P fr h op = some (v, h') from e)
  · exact effT_next e
  · exact plainOp_next (show plainOp P fr h op = some (v, h') from e)
theorem plainT_left (w : World) {N : Nat} {own : Own} {ρ : Rho} {h h' : AH} (H : HRel ρ h w) (hO : Owned N own ρ) (hN : N ≤ w.heap.size) {fr : Tr AV} {e : Operand → Value} (hf : EvR ρ (ev fr) e) {mk : Bool} {o : Oper} {v : AV}
    (hn : (plainT P mk fr h o.op).Sel (some (v, h'))) : Left P N h.next own ρ h' v w (execOp e o) := by
  unfold plainT at hn
  split at hn
  · obtain ⟨r, h1, h2⟩ := T.sel_bind hn
    split at h2
    · have h2 : some (_, h) = some (v, h') := h2
      simp only [Option.some.injEq, Prod.mk.injEq] at h2
      obtain ⟨rfl, rfl⟩ := h2
      obtain ⟨c, g1, g2⟩ := pure_sound w hf (pureT_ok h1 (by simp))
      exact Left.same w H hO g1 g2
    · cases h2
  · split at hn
    · obtain ⟨r, h1, h2⟩ := T.sel_bind hn
      split at h2
      · have h2 : some (_, h.new _) = some (v, h') := h2
        simp only [Option.some.injEq, Prod.mk.injEq] at h2
        obtain ⟨rfl, rfl⟩ := h2
        exact makeT_left w H hO hN hf h1
      · cases h2
    · exact plain_sound w H hO hN hf (show plainOp P fr h o.op = some (v, h') from hn)
  · exact effT_left w H hO hN hf hn
  · exact plain_sound w H hO hN hf (show plainOp P fr h o.op = some (v, h') from hn)

/-! a step of the machine above, if nothing is told -/
def ARes.quiet (hs : HB) : ARes → Prop
  | .run m => m.log = [] ∧ m.hints = hs
  | .done _ _ l => l = []
  | .bad _ => True
theorem told_no {f : FuncId} {u : _} {d : Option Tmp} {v : AV} {l : Log} : told f ⟨noHint, u⟩ d v l = (v, l) := by
  unfold told noHint
  cases d <;> rfl
theorem step_quiet {S : Sum} {m : AM} {u : _} (hs : m.hints = ⟨noHint, u⟩) (hl : m.log = []) : (stepA P S m).quiet m.hints := by
  obtain ⟨top, below, heap, hints, log⟩ := m
  simp only at hs hl
  subst hs hl
  have hpop : ∀ {h v below}, (popA P h ⟨noHint, u⟩ [] v below).quiet ⟨noHint, u⟩ := by
    intro h v below
    unfold popA
    repeat' split
    all_goals first | trivial | exact ⟨rfl, rfl⟩ | rfl
  have hleave : ∀ {m : AM}, m.hints = ⟨noHint, u⟩ → m.log = [] → (leaveA P m).quiet ⟨noHint, u⟩ := by
    intro m h1 h2
    unfold leaveA
    rw [h1, h2]
    repeat' split
    all_goals first | trivial | rfl | exact hpop
  have hround : ∀ {m : AM} {b j}, m.hints = ⟨noHint, u⟩ → m.log = [] → (roundEndA P m b j).quiet ⟨noHint, u⟩ := by
    intro m b j h1 h2
    unfold roundEndA
    rw [h1, h2]
    repeat' split
    all_goals first | trivial | exact hpop
  have hleaveJ : ∀ {m : AM} {j}, m.hints = ⟨noHint, u⟩ → m.log = [] → (leaveJ P m j).quiet ⟨noHint, u⟩ := by
    intro m j h1 h2
    unfold leaveJ
    repeat' split
    all_goals first | trivial | exact hleave h1 h2 | exact hround h1 h2
  have hnext : ∀ {m : AM} {ops rest k o v h}, m.hints = ⟨noHint, u⟩ → m.log = [] → (nextA m ops rest k o v h).quiet ⟨noHint, u⟩ := by
    intro m ops rest k o v h h1 h2
    unfold nextA
    rw [h1, h2, told_no]
    simp only
    split
    · exact ⟨rfl, rfl⟩
    · trivial
  have hheavy : ∀ {m : AM} {ops all done floats k x v h re}, m.hints = ⟨noHint, u⟩ → m.log = [] → (heavyA P m ops all done floats k x v h re).quiet ⟨noHint, u⟩ := by
    intro m ops all done floats k x v h re h1 h2
    unfold heavyA
    rw [h1, h2, told_no]
    simp only
    split
    · exact ⟨rfl, rfl⟩
    · trivial
  have hlight : ∀ {m : AM} {ops all done k r x fl v h}, m.hints = ⟨noHint, u⟩ → (lightA m ops all done k r x fl [] v h).quiet ⟨noHint, u⟩ := by
    intro m ops all done k r x fl v h h1
    unfold lightA
    rw [h1]
    split
    · exact ⟨rfl, rfl⟩
    · trivial
  have hD : ∀ {m : AM} {ops all done floats k rest}, m.hints = ⟨noHint, u⟩ → m.log = [] → (stepD P S m ops all done floats k rest).quiet ⟨noHint, u⟩ := by
    intro m ops all done floats k rest h1 h2
    cases rest with
    | cons x r =>
      simp only [stepD]
      rw [h1, h2]
      simp only [told_no]
      repeat' split
      all_goals first
        | trivial
        | exact ⟨rfl, rfl⟩
        | exact hlight h1
    | nil =>
      simp only [stepD]
      repeat' split
      all_goals first
        | trivial
        | exact ⟨h2, h1⟩
        | exact hheavy h1 h2
  unfold stepA
  simp only
  repeat' split
  all_goals first
    | trivial
    | exact hleaveJ rfl rfl
    | exact hnext rfl rfl
    | exact hD rfl rfl
    | exact ⟨rfl, rfl⟩
end
end Go.EV
