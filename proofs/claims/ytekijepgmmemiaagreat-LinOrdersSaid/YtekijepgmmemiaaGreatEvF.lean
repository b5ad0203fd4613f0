/- Own text of this claim: an abstract machine over the given program form, and what follows from it. No condition. -/
import Derived.Test.YtekijepgmmemiaaGreatEvE
set_option linter.unusedVariables false
set_option linter.unusedSimpArgs false
set_option maxHeartbeats 1000000
namespace Go.EV
section
variable {P : Program} {N : Nat} {own : Own} {w0 : World} {cs0 : List Frame} {f0 : FuncId} {ρ0 : Rho} {n0 : Nat}

theorem to_goes {m : AM} {fr : Frame} {cs : List Frame} {w : World} (M : MR P N own w0 cs0 f0 ρ0 n0 m fr cs w) {ρ : Rho} {cfs : List Frame} {B : Nat} (hB : B ≤ m.heap.next) (H : HRel ρ m.heap w) (F : FRp ρ m.top fr) (S : SR P ρ n0 B m.below cfs) (hcs : cs = cfs ++ cs0) (O : Owned N own ρ) (X : Ext2 n0 ρ0 ρ)
    {k : List AItem} {kc : List Item} (hk : All2 (IR ρ) k kc)
    (hs : step P (lone fr cs w) = .next (lone { fr with todo := kc } cs w)) : Goes P N own w0 cs0 f0 ρ0 n0 (.run ⟨⟨m.top.fn, m.top.ctl, m.top.n, m.top.tmps, k⟩, m.below, m.heap, m.hints, m.log⟩) fr cs w := by
  have F' : FRp ρ ⟨m.top.fn, m.top.ctl, m.top.n, m.top.tmps, k⟩ { fr with todo := kc } := ⟨F.fn, F.mode, F.kind, F.defers, F.round, F.size, F.tmps, hk⟩
  refine fun _ => ⟨_, cs, w, .one hs, ⟨⟨ρ, cfs, B, hB, H, .inl F', S, hcs, O, X⟩, topok_plain F' _, M.keep, M.size, ?_⟩⟩
  rw [← M.bot]
  exact bot_fn (t := (⟨m.top.fn, m.top.ctl, m.top.n, m.top.tmps, k⟩ : AFr)) (t' := m.top) rfl m.below

/-- behind an operation of the region that is walked in the order of its text -/
theorem next_goes {m : AM} {fr : Frame} {cs : List Frame} {w w' : World} (M : MR P N own w0 cs0 f0 ρ0 n0 m fr cs w) {ops : Array Oper} {o : Oper} {rest : List Oper} {k : List AItem} (hta : m.top.todo = .reg ops (o :: rest) :: k)
    {v : AV} {h' : AH} {ρ' : Rho} {c : Value} (hv : VR ρ' v c) (H' : HRel ρ' h' w') (hF : FRp ρ' m.top fr) {B : Nat} (hB : B ≤ h'.next) {cfs : List Frame} (hS : SR P ρ' n0 B m.below cfs) (hcs : cs = cfs ++ cs0) (O' : Owned N own ρ') (X' : Ext2 n0 ρ0 ρ') (K : Keep N own w w')
    (hs : Steps P (lone fr cs w) (lone (fr.finish c) cs w')) : Goes P N own w0 cs0 f0 ρ0 n0 (nextA m ops rest k o v h') fr cs w := by
  unfold nextA
  split
  rename_i v' l' htold
  split
  · rename_i ts hts
    intro hl
    obtain ⟨rfl, _⟩ := told_ok htold hl
    obtain ⟨i, l, kc, hti, hoi, hfr⟩ := hF.finish hta hv hts
    refine ⟨_, cs, w', hs, ⟨⟨ρ', cfs, B, hB, H', .inl hfr, hS, hcs, O', X'⟩, topok_plain hfr _, M.keep.trans K, Nat.le_trans M.size K.size, ?_⟩⟩
    rw [← M.bot]
    exact bot_fn (t := (⟨m.top.fn, m.top.ctl, m.top.n, ts, .reg ops rest :: k⟩ : AFr)) (t' := m.top) rfl m.below
  · trivial

theorem reg_cons {ρ : Rho} {a : AFr} {f : Frame} (H : FRp ρ a f) {ops : Array Oper} {o : Oper} {rest : List Oper} {k : List AItem} (hta : a.todo = .reg ops (o :: rest) :: k) :
    ∃ i l kc, f.todo = .inRegion ops (i :: l) :: kc ∧ ops[i]? = some o ∧ All2 (IR ρ) k kc := by
  have htd := H.todo
  rw [hta] at htd
  obtain ⟨y, r, hft, hxy, hr⟩ := htd.get
  cases y <;> simp only [IR] at hxy
  rename_i ops' l
  obtain ⟨rfl, i, n, hin, hrest, rfl⟩ := hxy
  have hlt : i < ops'.size := by
    rcases Nat.lt_or_ge i ops'.size with h1 | h1
    · exact h1
    · rw [List.drop_eq_nil_of_le (by simpa using h1)] at hrest; cases hrest
  obtain ⟨n, rfl⟩ : ∃ m, n = m + 1 := ⟨n - 1, by omega⟩
  have hdrop := List.drop_eq_getElem_cons (l := ops'.toList) (i := i) (by simpa using hlt)
  rw [hdrop] at hrest
  injection hrest with h1 h2
  have ho : ops'[i]? = some o := by
    rw [Array.getElem?_eq_getElem hlt, h1]; simp
  exact ⟨i, List.range' (i + 1) n, r, by rw [hft, List.range'_succ], ho, hr⟩

theorem ir_reg {ρ : Rho} (ops : Array Oper) : IR ρ (.reg ops ops.toList) (.inRegion ops (List.range ops.size)) := ⟨rfl, 0, ops.size, by omega, by simp, by rw [List.range_eq_range']⟩
theorem ir_code {ρ : Rho} (c : Code) : IR ρ (.code c) (.code c) := rfl
theorem ir_block {ρ : Rho} (i : Nat) : IR ρ (.inBlock i) (.inBlock i) := rfl
theorem ir_loop {ρ : Rho} (c : Code) : IR ρ (.inLoop c) (.inLoop c) := rfl
theorem ir_scope {ρ : Rho} (c : Code) : IR ρ (.inScope c) (.inScope c) := rfl


/-- a new block above, that the machine below has not come to -/
theorem HRel.above {ρ : Rho} {h : AH} {w : World} (H : HRel ρ h w) (o : ABlk) : HRel ρ (h.new o) w := H.over o

theorem get_new {ρ : Rho} {h : AH} {w : World} (H : HRel ρ h w) (o : ABlk) {b : Nat} {x : ABlk} (hg : h.bs.get b = some x) : b < h.next ∧ (h.new o).bs.get b = some x := by
  have hlt : b < h.next := by
    rcases Nat.lt_or_ge b h.next with h1 | h1
    · exact h1
    · rw [H.live b h1] at hg; cases hg
  exact ⟨hlt, by simp only [AH.new]; rw [Tr.get_set, if_neg (by omega)]; exact hg⟩

theorem load_new {ρ : Rho} {h : AH} {w : World} (H : HRel ρ h w) (o : ABlk) {t : TypeId} {b off : Nat} {v : AV} (hl : loadV P h t b off = some v) : loadV P (h.new o) t b off = some v := by
  have hcell : ∀ {off : Nat} {u : AV}, h.cell b off = some u → (h.new o).cell b off = some u := by
    intro off u hu
    rcases AH.cell_row hu with ⟨n, z, t, hg, hr⟩ | ⟨n, f, hg, hlt, rfl⟩
    · unfold AH.cell
      rw [(get_new H o hg).2]; exact hr
    · unfold AH.cell
      rw [(get_new H o hg).2]
      simp only
      rw [show Nat.blt off n = true by simp [Nat.blt]; omega]
  have hcells : ∀ (n off : Nat) (vs : List AV), h.cells b off n = some vs → (h.new o).cells b off n = some vs := by
    intro n
    induction n with
    | zero => intro off vs hv; simpa [AH.cells] using hv
    | succ n ih =>
      intro off vs hv
      simp only [AH.cells] at hv ⊢
      split at hv
      · rename_i u hu
        rw [hcell hu]
        split at hv
        · rename_i us hus
          rw [ih _ _ hus]; exact hv
        · cases hv
      · cases hv
  unfold loadV at hl ⊢
  split at hl
  · rename_i ha
    split at hl
    · rename_i n hn
      split at hl
      · rename_i cs hcs
        rw [hcells _ _ _ hcs]; exact hl
      · cases hl
    · cases hl
  · exact hcell hl
  · cases hl

theorem loadA_new {ρ : Rho} {h : AH} {w : World} (H : HRel ρ h w) (o : ABlk) {t : TypeId} {p v : AV} (hl : loadA P h t p = some v) : loadA P (h.new o) t p = some v := by
  unfold loadA at hl ⊢
  split at hl
  · exact load_new H o hl
  · exact hl
  · split at hl
    · rename_i hg
      simp only [(get_new H o hg).2]
      exact hl
    · cases hl
  · cases hl
theorem flok_new {ρ : Rho} {h : AH} {w : World} (H : HRel ρ h w) (o : ABlk) {fl : Float} (hf : FlOk P h fl) : FlOk P (h.new o) fl := by
  cases fl with
  | load t p v => exact loadA_new H o hf
  | new b n z => exact (get_new H o hf).2
  | newMap b => exact (get_new H o hf).2

theorem newOf_lt {ρ : Rho} {h : AH} {w : World} (H : HRel ρ h w) {fl : Float} (hf : FlOk P h fl) {b : Nat} (hb : newOf fl = some b) : b < h.next := by
  cases fl with
  | load t p v => cases hb
  | new b' n z => cases hb; exact (get_new H (.map [] 0) hf).1
  | newMap b' => cases hb; exact (get_new H (.map [] 0) hf).1

theorem firstOf_none {done : Nat} : ∀ {l : List RI}, firstOf done l = none → ∀ x ∈ l, done.testBit x.i = true
  | [], _, x, hx => by cases hx
  | y :: l, h, x, hx => by
    simp only [firstOf] at h
    split at h
    · rename_i hy
      rcases List.mem_cons.mp hx with rfl | hx
      · exact hy
      · exact firstOf_none h x hx
    · cases h

theorem firstOf_some {done : Nat} {x : RI} : ∀ {l : List RI}, firstOf done l = some x → x ∈ l ∧ done.testBit x.i = false
  | [], h => by cases h
  | y :: l, h => by
    simp only [firstOf] at h
    split at h
    · obtain ⟨h1, h2⟩ := firstOf_some h; exact ⟨List.mem_cons_of_mem _ h1, h2⟩
    · rename_i hy; cases h; exact ⟨List.mem_cons_self .., hy⟩

theorem isFirst_spec {done : Nat} {x : RI} : ∀ {l : List RI}, isFirst done x l = true → ∀ y ∈ l, done.testBit y.i = true ∨ y.i = x.i ∨ y.mask.testBit x.i = true
  | [], _, y, hy => by cases hy
  | z :: l, h, y, hy => by
    simp only [isFirst, Bool.and_eq_true, Bool.or_eq_true, Tr.beq_true] at h
    rcases List.mem_cons.mp hy with rfl | hy
    · rcases h.1 with (h1 | h1) | h1
      · exact .inl h1
      · exact .inr (.inl h1)
      · exact .inr (.inr h1)
    · exact isFirst_spec h.2 y hy
end
end Go.EV
