/- Own text of this claim: an abstract machine over the given program form, and what follows from it. No condition. -/
import Derived.Test.YtekijepgmmemiaaGreatEvD
set_option linter.unusedVariables false
set_option linter.unusedSimpArgs false
set_option maxHeartbeats 1000000
namespace Go.EV
section
variable {P : Program} {N : Nat} {own : Own}

def World.turned (w : World) (b : Nat) (o : Obj) : World := { w with heap := w.heap.setIfInBounds b o }

theorem run_getLoop {w : World} {b : Nat} {r : Loop} (h : w.heap[b]? = some (.loop r)) : (Instr.getLoop b).run P w = .ok r w := by
  simp [Instr.getLoop, getObj, Sem.run, h, Sem.run_bind]

theorem run_setLoop {w : World} {b : Nat} {r : Loop} (h : w.heap[b]? = some (.loop r)) (o : Obj) : (setObj b o).run P w = .ok () (World.turned w b o) := by
  simp [setObj, Sem.run, h, World.turned]

theorem run_endRound {w : World} {b : Nat} {r : Loop} (h : w.heap[b]? = some (.loop r)) (jump : Option Code) :
    (Instr.endRound b jump).run P w = .ok (.bool jump.isNone) (World.turned w b (.loop { r with state := if jump.isNone then .ready else .done, pending := jump })) := by
  simp [Instr.endRound, run_getLoop h, run_setLoop h]

theorem run_endLoop {w : World} {b : Nat} {r : Loop} (h : w.heap[b]? = some (.loop r)) (hs : r.state ≠ .busy) :
    (Instr.endLoop b).run P w = .ok r.pending (World.turned w b (.loop { r with state := .exhausted })) := by
  have : (r.state == .busy) = false := by cases hr : r.state <;> simp_all <;> rfl
  simp [Instr.endLoop, run_getLoop h, run_setLoop h, this]
  exact fun e => absurd e hs

theorem run_beginRound {w : World} {b : Nat} {r : Loop} (h : w.heap[b]? = some (.loop r)) (hs : r.state = .ready) :
    (Instr.beginRound b).run P w = .ok () (World.turned w b (.loop { r with state := .busy })) := by
  simp [Instr.beginRound, run_getLoop h, run_setLoop h, hs]

theorem run_takeDeferred {w : World} {b : Nat} (h : w.heap[b]? = some (.deferred (some []))) :
    (Instr.takeDeferred b).run P w = .ok [] (World.turned w b (.deferred none)) := by
  simp [Instr.takeDeferred, getObj, setObj, Sem.run, h, Sem.run_bind, World.turned]

/-- an object that is no row has turned -/
theorem HRel.turn {ρ : Rho} {h : AH} {w : World} (H : HRel ρ h w) (O : Owned N own ρ) {b : Nat} {cb : Cb} (hb : ρ b = some cb) {o o' : ABlk} (hg : h.bs.get b = some o) {obj : Obj} (hR : blkR ρ (some obj) cb o') (hw : ∀ n f, o ≠ .ro n f := by intro n f hh; cases hh) :
    HRel ρ ⟨Tr.set o' h.bs b, h.next⟩ (World.turned w cb.blk obj) ∧ Keep N own w (World.turned w cb.blk obj) := by
  have hbd := H.bound b cb hb
  have h8 : 8 ≤ b := H.ro b _ hg hw
  refine ⟨H.upd hb hg h8 (by simp [World.turned]) (fun k hk => by simp only [World.turned]; rw [Array.getElem?_setIfInBounds_ne (by omega)]) (by simp only [World.turned]; rw [Array.getElem?_setIfInBounds_self_of_lt hbd]; exact hR), ⟨rfl, rfl, rfl, by simp [World.turned], fun x hx ho => ?_⟩⟩
  simp only [World.turned]
  rw [Array.getElem?_setIfInBounds_ne]
  rintro rfl
  rcases O b cb h8 hb with h1 | h1
  · omega
  · exact ho h1

/-- what a frame has entered is over -/
theorem take_step {f : Frame} {cs : List Frame} {w : World} {b : Nat} {ds : List Deferred} (hm : f.mode = .returning) (hd : f.defers = { target := .collected b, args := #[] } :: ds) (hw : w.heap[b]? = some (.deferred (some []))) :
    step P (lone f cs w) = .next (lone { f with defers := ds } cs (World.turned w b (.deferred none))) := by
  refine step_lone_go ?_
  simp [stepG, unwind, hm, hd, run_takeDeferred hw]

theorem take_steps {ρ : Rho} (O : Owned N own ρ) : ∀ {ms : List Nat} {h h' : AH} {w : World} {f : Frame} {cs : List Frame}, HRel ρ h w → f.mode = .returning → MarksR ρ ms f.defers → takeMarks h ms = some h' →
    ∃ w', Steps P (lone f cs w) (lone { f with defers := [] } cs w') ∧ HRel ρ h' w' ∧ Keep N own w w' ∧ h'.next = h.next
  | [], h, h', w, f, cs, H, hm, hd, e => by
    simp [takeMarks] at e; subst e
    simp only [MarksR] at hd
    refine ⟨w, ?_, H, Keep.refl _ _ w, rfl⟩
    rw [← hd]; exact Steps.refl P _
  | b :: ms, h, h', w, f, cs, H, hm, hd, e => by
    simp only [takeMarks] at e
    split at e
    · rename_i hg
      simp only [MarksR] at hd
      obtain ⟨cb, r, hb, hd, hr⟩ := hd
      have hw : w.heap[cb.blk]? = some (.deferred (some [])) := H.blk b _ hg cb hb
      obtain ⟨H1, K1⟩ := H.turn O hb hg (o' := .dfr false) (obj := .deferred none) rfl
      obtain ⟨w', s, H2, K2, hn⟩ := take_steps O (f := { f with defers := r }) (cs := cs) H1 hm hr e
      exact ⟨w', .head (take_step hm hd hw) s, H2, K1.trans K2, hn⟩
    · cases e

/-- a round's end -/
theorem round_end {f c : Frame} {cs : List Frame} {w : World} {b : Nat} {r : Loop} (hm : f.mode = .run) (hk : f.kind = .normal) (hr : f.roundOf = some b) (hw : w.heap[b]? = some (.loop r)) {jump : Option Code}
    (ht : (f.todo = [] ∧ jump = none) ∨ (∃ k, f.todo = .code .ret :: k ∧ jump = some .ret) ∨ (∃ id k, f.todo = .code (.exit id) :: k ∧ exitTo id k = none ∧ jump = some (.exit id)) ∨ (∃ l k, f.todo = .code (.goto l) :: k ∧ gotoIn l k = none ∧ jump = some (.goto l))) :
    step P (lone f (c :: cs) w) = .next (lone (c.finish (.bool jump.isNone)) cs (World.turned w b (.loop { r with state := if jump.isNone then .ready else .done, pending := jump }))) := by
  refine exec_step hm ?_
  unfold stepG.exec
  rcases ht with ⟨ht, rfl⟩ | ⟨k, ht, rfl⟩ | ⟨id, k, ht, he, rfl⟩ | ⟨l, k, ht, he, rfl⟩
  · rw [ht]; simp [hr, run_endRound hw, doReturn, hk]
  · rw [ht]; simp [hr, run_endRound hw, doReturn, hk]
  · rw [ht]; simp [hr, he, run_endRound hw, doReturn, hk]
  · rw [ht]; simp [hr, he, run_endRound hw, doReturn, hk]

theorem begin_step {f : Frame} {cs : List Frame} {w : World} {b : Nat} {r : Loop} {k : List Item} (hm : f.mode = .run) (hr : f.roundOf = some b) (hw : w.heap[b]? = some (.loop r)) (hs : r.state = .ready) (ht : f.todo = .beginRound :: k) :
    step P (lone f cs w) = .next (lone { f with todo := k } cs (World.turned w b (.loop { r with state := .busy }))) := by
  refine exec_step hm ?_
  unfold stepG.exec
  rw [ht]
  simp [hr, stepG.apply, run_beginRound hw hs, Frame.finish, ht]

theorem endLoop_step {f : Frame} {cs : List Frame} {w : World} {b : Nat} {r : Loop} {k : List Item} (hm : f.mode = .run) (hw : w.heap[b]? = some (.loop r)) (hs : r.state ≠ .busy) (ht : f.todo = .endRangeFunc b :: k) :
    step P (lone f cs w) = .next (lone { f with todo := (r.pending.map Item.code).toList ++ k } cs (World.turned w b (.loop { r with state := .exhausted }))) := by
  refine exec_step hm ?_
  unfold stepG.exec
  rw [ht]
  simp [run_endLoop hw hs]
end
end Go.EV
