/- Own text of this claim: an abstract machine over the given program form, and what follows from it. No condition. -/
import Derived.Test.YtekijepgmmemiaaGreatEv2
import Derived.Laws.StructEq
import Derived.Laws.MakeOwn
import Derived.WalkKit
import Derived.Laws.Cover3
set_option linter.unusedVariables false
set_option linter.unusedSimpArgs false
namespace Go.EV

def EvR (ρ : Rho) (f : Operand → Option AV) (e : Operand → Value) : Prop := ∀ o v, f o = some v → VR ρ v (e o)

theorem ofValue_rel {ρ : Rho} {v : Value} {a : AV} (h : ofValue v = some a) : VR ρ a v := by
  unfold ofValue at h
  split at h <;> first
    | (simp at h; subst h; simp only [VR])
    | simp at h

theorem allOf_rel {α : Type} {ρ : Rho} {f : α → Option AV} {e : α → Value} (hf : ∀ a v, f a = some v → VR ρ v (e a)) :
    ∀ {l : List α} {vs : List AV}, allOf f l = some vs → VRs ρ vs (l.map e) := by
  intro l
  induction l with
  | nil => intro vs h; simp [allOf] at h; subst h; simp [VRs]
  | cons a l ih =>
    intro vs h
    simp only [allOf] at h
    split at h
    · rename_i b hb
      split at h
      · rename_i bs hbs
        simp at h; subst h
        simp only [List.map_cons, VRs]
        exact ⟨_, _, rfl, hf a b hb, ih hbs⟩
      · simp at h
    · simp at h

theorem cellsOfValue_rel {ρ : Rho} {v : Value} {cs : List AV} (h : cellsOfValue v = some cs) : VRs ρ cs v.cells.toList := by
  unfold cellsOfValue at h
  split at h
  · have := allOf_rel (ρ := ρ) (e := id) (fun a u hu => ofValue_rel hu) h
    simpa [Value.cells] using this
  · rename_i hv
    split at h
    · rename_i a ha
      simp at h; subst h
      have hr := ofValue_rel (ρ := ρ) ha
      have hc : v.cells = #[v] := by cases v <;> first | rfl | (exact (hv _ rfl).elim)
      rw [hc]; simp only [VRs]; exact ⟨_, _, rfl, hr, rfl⟩
    · simp at h

section
variable {P : Program} (w : World)

theorem run_ul {t : TypeId} {d : TypeDesc} (h : P.underlying t = some d) : (Go.underlying t).run P w = .ok d w := run_underlying h w

theorem run_ti {t : TypeId} {i : TypeInfo} (h : P.info? t = some i) : (typeInfo t).run P w = .ok i w := by
  simp [typeInfo, h]

theorem run_sz {t : TypeId} {n : Nat} (h : EV.sizeOf P t = some n) : (Go.sizeOf t).run P w = .ok n w := by
  unfold EV.sizeOf at h
  split at h
  · rename_i i hi; simp at h; subst h; simp [Go.sizeOf, run_ti w hi]
  · simp at h

theorem run_ag {t : TypeId} {b : Bool} (h : EV.isAgg P t = some b) : (Go.isAgg t).run P w = .ok b w := by
  unfold EV.isAgg at h
  split at h
  · rename_i fs hu; simp at h; subst h; simp [Go.isAgg, run_ul w hu]
  · rename_i n e hu; simp at h; subst h; simp [Go.isAgg, run_ul w hu]
  · rename_i d h1 h2 hu
    simp at h; subst h
    simp only [Go.isAgg, Sem.run_bind, run_ul w hu, Result.andThen_ok]
    cases d <;> first
      | rfl
      | exact (h1 _ rfl).elim
      | exact (h2 _ _ rfl).elim
  · simp at h

theorem run_zero {t : TypeId} {z : List AV} (h : zeroOf P t = some z) {ρ : Rho} : ∃ v, (zeroValue t).run P w = .ok v w ∧ VRs ρ z v.cells.toList := by
  unfold zeroOf at h
  split at h
  · rename_i i hi
    split at h
    · rename_i v hv
      refine ⟨v, ?_, cellsOfValue_rel h⟩
      simp [zeroValue, run_ti w hi, hv]
    · simp at h
  · simp at h

theorem extract_toList (cs : Array Value) (a n : Nat) (h : a + n ≤ cs.size) : (cs.extract a (a + n)).toList = (cs.toList.drop a).take n := by
  rw [Array.toList_extract, List.extract_eq_take_drop]; congr 1; omega

theorem run_part {ρ : Rho} {t : TypeId} {cs : List AV} {off : Nat} {v : AV} (h : EV.part P t cs off = some v) {arr : Array Value} (ha : VRs ρ cs arr.toList) :
    ∃ c, (Go.part t arr off).run P w = .ok c w ∧ VR ρ v c := by
  unfold EV.part at h
  split at h
  · rename_i hag
    split at h
    · rename_i n hn
      split at h
      · rename_i hle
        simp at h; subst h
        refine ⟨.agg (arr.extract off (off + n)), ?_, ?_⟩
        · simp [Go.part, run_ag w hag, run_sz w hn]
        · have hl := VRs.length ha
          simp at hle hl
          simp only [VR]
          exact ⟨_, rfl, by rw [extract_toList _ _ _ (by omega)]; exact (ha.drop off).take n⟩
      · simp at h
    · simp at h
  · rename_i hag
    obtain ⟨c, hc, hv⟩ := VRs.get ha h
    have hc' : arr[off]? = some c := by simpa using hc
    exact ⟨c, by simp [Go.part, run_ag w hag, hc'], hv⟩
  · simp at h

theorem run_idx {ρ : Rho} {t : TypeId} {x ix v : AV} (h : idx P t x ix = some v) {cx ci : Value} (hx : VR ρ x cx) (hi : VR ρ ix ci) :
    ∃ c, (Instr.indexAt t cx ci).run P w = .ok c w ∧ VR ρ v c := by
  unfold idx at h
  split at h
  · rename_i k i
    simp only [VR] at hi; subst hi
    split at h
    · rename_i elem n f e full hu
      split at h
      · rename_i sz hcond hsz
        split at h
        · rename_i he
          rw [Tr.beq_true] at he; subst he
          simp at h; subst h
          simp only [Bool.and_eq_true, decide_eq_true_eq] at hcond
          simp only [VR] at hx
          rcases hx with ⟨rfl, _⟩ | ⟨h0, blk, off, k', arr, rfl, h2, h3, h4, h5, h6⟩
          · omega
          · have hj : i.toNat < n := by omega
            have hr := row_in h5 hj
            have hv := (h6 _ hj).1
            have hl := VRs.length hv
            rw [cellsAt_len (by omega)] at hl
            refine ⟨.pointer (some ⟨blk, off + i.toNat * sz, none⟩), ?_, by simp only [VR]; exact ⟨blk, off + i.toNat * sz, arr, rfl, h4, by omega, by rw [← hl]; exact hv⟩⟩
            simp [Instr.indexAt, asIntOf, run_ul w hu, hcond.1, hcond.2, run_sz w hsz, add_addr, Nat.add_assoc]
        · simp at h
      · simp at h
    · rename_i elem b j n cap e hu
      split at h
      · rename_i sz hcond hsz
        split at h
        · rename_i he
          rw [Tr.beq_true] at he; subst he
          simp at h; subst h
          simp only [Bool.and_eq_true, decide_eq_true_eq] at hcond
          simp only [VR] at hx
          rcases hx with ⟨rfl, _⟩ | ⟨cb, k', h1, rfl, h3, h4, h5⟩
          · omega
          · have hj : i.toNat < n := by omega
            refine ⟨.pointer (some ⟨cb.blk, cb.base + j * sz + i.toNat * sz, none⟩), ?_, by
              simp only [VR, addZ_eq]
              refine ⟨cb, h1, by rw [Nat.add_mul]; simp [Nat.add_assoc], ?_⟩
              have : (j + i.toNat + 1) * sz ≤ (j + n) * sz := Nat.mul_le_mul_right _ (by omega)
              omega⟩
            simp [Instr.indexAt, asIntOf, run_ul w hu, hcond.1, hcond.2, run_sz w hsz, add_addr, Nat.add_assoc]
        · simp at h
      · simp at h
    · rename_i elem b off len cap esz hu
      split at h
      · rename_i sz hcond hsz
        simp at h; subst h
        simp only [Bool.and_eq_true, decide_eq_true_eq] at hcond
        simp only [VR] at hx
        obtain ⟨cb, k', hb, rfl, _⟩ := hx
        refine ⟨_, ?_, by simp only [VR]; exact ⟨cb, hb, rfl⟩⟩
        simp [Instr.indexAt, asIntOf, run_ul w hu, hcond.1, hcond.2, run_sz w hsz, add_addr, Nat.add_assoc]
      · simp at h
    · rename_i len elem b off hu
      split at h
      · rename_i sz hcond hsz
        simp at h; subst h
        simp only [Bool.and_eq_true, decide_eq_true_eq] at hcond
        simp only [VR] at hx
        obtain ⟨cb, hb, rfl⟩ := hx
        refine ⟨_, ?_, by simp only [VR]; exact ⟨cb, hb, rfl⟩⟩
        simp [Instr.indexAt, asIntOf, run_ul w hu, Instr.sureAddr, hcond.1, hcond.2, run_sz w hsz, add_addr, Nat.add_assoc]
      · simp at h
    · simp at h
  · simp at h

theorem run_indexV {ρ : Rho} {t : TypeId} {x ix v : AV} (h : indexV P t x ix = some v) {cx ci : Value} (hx : VR ρ x cx) (hi : VR ρ ix ci) :
    ∃ c, (Instr.index t cx ci).run P w = .ok c w ∧ VR ρ v c := by
  unfold indexV at h
  split at h
  · rename_i k i
    simp only [VR] at hi; subst hi
    split at h
    · rename_i len elem cs hu
      split at h
      · rename_i sz hcond hsz
        simp only [Bool.and_eq_true, decide_eq_true_eq] at hcond
        simp only [VR] at hx
        obtain ⟨as, rfl, hv⟩ := hx
        obtain ⟨c, hc, hvc⟩ := run_part w h hv
        exact ⟨c, by simp [Instr.index, asIntOf, run_ul w hu, hcond.1, hcond.2, run_sz w hsz, hc], hvc⟩
      · simp at h
    · rename_i s hu
      split at h
      · rename_i h0
        split at h
        · rename_i c hc
          simp at h; subst h
          simp only [VR] at hx; subst hx
          simp only [decide_eq_true_eq] at h0
          exact ⟨.int .u8 c.toNat, by simp [Instr.index, asIntOf, run_ul w hu, h0, hc], by simp only [VR]⟩
        · simp at h
      · simp at h
    · simp at h
  · simp at h

theorem run_bound {ρ : Rho} {x : AV} {y n : Nat} (h : bound x y = some n) {cx : Value} (hx : VR ρ x cx) {z : Nat} (hz : y ≤ z) (code : BoundsCode) :
    (Instr.sliceBound cx z code).run P w = .ok n w ∧ n ≤ y := by
  unfold bound at h
  split at h
  · rename_i k i
    split at h
    · rename_i hc
      simp at h; subst h
      simp only [Bool.and_eq_true, decide_eq_true_eq] at hc
      simp only [VR] at hx; subst hx
      refine ⟨?_, by omega⟩
      simp only [Instr.sliceBound, asIntOf, Sem.run_bind, Sem.run_pure, Result.andThen_ok]
      rw [if_pos ⟨hc.1, by omega⟩]; rfl
    · simp at h
  · simp at h

/-- bounds of a slice expression: over a length and a capacity that may be greater than what is known -/
theorem run_cutS {ρ : Rho} {len k : Nat} {cap : Option Nat} {lo hi mx : Option AV} {l h : Nat} {c : Option Nat} (hc : cutS len cap lo hi mx = some (l, h, c))
    (hk : len ≤ k) (hcap : ∀ n, cap = some n → k = n) {clo chi cmx : Option Value}
    (h1 : ∀ a, lo = some a → ∃ b, clo = some b ∧ VR ρ a b) (h1' : lo = none → clo = none)
    (h2 : ∀ a, hi = some a → ∃ b, chi = some b ∧ VR ρ a b) (h2' : hi = none → chi = none)
    (h3 : ∀ a, mx = some a → ∃ b, cmx = some b ∧ VR ρ a b) (h3' : mx = none → cmx = none) (isS : Bool) :
    ∃ m, (Instr.sliceBounds isS len k clo chi cmx).run P w = .ok (l, h, m) w ∧ l ≤ h ∧ h ≤ m ∧ m ≤ k ∧ (∀ n, c = some n → m - l = n) ∧ (c = none → cap = none ∧ m = k ∧ h ≤ len) ∧ (c ≠ none → m ≤ capOr cap len) := by
  unfold cutS at hc
  have hbig : capOr cap len ≤ k := by
    cases cap with
    | none => simpa [capOr] using hk
    | some n => have := hcap n rfl; simp [capOr]; omega
  cases mx with
  | some mv =>
    obtain ⟨bm, rfl, hbm⟩ := h3 mv rfl
    simp only at hc
    split at hc
    · rename_i m hm
      obtain ⟨r1, r1'⟩ := run_bound (P := P) w hm hbm hbig (if isS then .slice3Acap else .slice3Alen)
      cases hi with
      | some hv =>
        obtain ⟨bh, rfl, hbh⟩ := h2 hv rfl
        simp only at hc
        split at hc
        · rename_i h' hh
          obtain ⟨r2, r2'⟩ := run_bound (P := P) w hh hbh (Nat.le_refl m) .slice3B
          cases lo with
          | some lv =>
            obtain ⟨bl, rfl, hbl⟩ := h1 lv rfl
            simp only at hc
            split at hc
            · rename_i l' hl
              obtain ⟨r3, r3'⟩ := run_bound (P := P) w hl hbl (Nat.le_refl h') .slice3C
              simp at hc; obtain ⟨rfl, rfl, rfl⟩ := hc
              refine ⟨m, ?_, r3', r2', by omega, by intro n hn; simpa using hn, by simp, fun _ => r1'⟩
              simp [Instr.sliceBounds, r1, r2, r3]
            · simp at hc
          | none =>
            have := h1' rfl; subst this
            simp at hc; obtain ⟨rfl, rfl, rfl⟩ := hc
            refine ⟨m, ?_, Nat.zero_le _, r2', by omega, by intro n hn; simpa using hn, by simp, fun _ => r1'⟩
            simp [Instr.sliceBounds, r1, r2]
        · simp at hc
      | none => simp at hc
    · simp at hc
  | none =>
    have := h3' rfl; subst this
    simp only at hc
    split at hc
    · rename_i h' hh
      have hh2 : ∃ s, s = chi ∧ (match s with | some v => Instr.sliceBound v k (if isS then .sliceAcap else .sliceAlen) | none => (pure len : Sem Nat)).run P w = .ok h' w ∧ h' ≤ k ∧ (cap = none → h' ≤ len) := by
        cases hi with
        | some hv =>
          obtain ⟨bh, rfl, hbh⟩ := h2 hv rfl
          obtain ⟨r2, r2'⟩ := run_bound (P := P) w hh hbh hbig (if isS then .sliceAcap else .sliceAlen)
          exact ⟨_, rfl, r2, by omega, by rintro rfl; simpa [capOr] using r2'⟩
        | none =>
          have := h2' rfl; subst this
          simp at hh; subst hh
          exact ⟨_, rfl, by simp, hk, fun _ => Nat.le_refl _⟩
      obtain ⟨s, rfl, r2, r2', r2''⟩ := hh2
      cases lo with
      | some lv =>
        obtain ⟨bl, rfl, hbl⟩ := h1 lv rfl
        simp only at hc
        split at hc
        · rename_i l' hl
          obtain ⟨r3, r3'⟩ := run_bound (P := P) w hl hbl (Nat.le_refl h') .sliceB
          simp at hc; obtain ⟨rfl, rfl, rfl⟩ := hc
          refine ⟨k, ?_, r3', r2', Nat.le_refl _, ?_, ?_, ?_⟩
          · cases s with
            | some q => simp only at r2; simp [Instr.sliceBounds, r2, r3]
            | none => simp at r2; subst r2; simp [Instr.sliceBounds, r3]
          · intro n hn
            cases cap with
            | none => simp [capLess] at hn
            | some q => have := hcap q rfl; simp [capLess] at hn; omega
          · intro hn
            cases cap with
            | none => exact ⟨rfl, rfl, r2'' rfl⟩
            | some q => simp [capLess] at hn
          · intro hn
            cases cap with
            | none => simp [capLess] at hn
            | some q => have := hcap q rfl; simp [capOr]; omega
        · simp at hc
      | none =>
        have := h1' rfl; subst this
        simp at hc; obtain ⟨rfl, rfl, rfl⟩ := hc
        refine ⟨k, ?_, Nat.zero_le _, r2', Nat.le_refl _, ?_, ?_, ?_⟩
        · cases s with
          | some q => simp only at r2; simp [Instr.sliceBounds, r2]
          | none => simp at r2; subst r2; simp [Instr.sliceBounds]
        · intro n hn; have := hcap n hn; omega
        · intro hn; exact ⟨hn, rfl, r2'' hn⟩
        · intro hn
          cases cap with
          | none => simp at hn
          | some q => have := hcap q rfl; simp [capOr]; omega
    · simp at hc

theorem optA_rel {ρ : Rho} {f : Operand → Option AV} {e : Operand → Value} (hf : EvR ρ f e) {o : Option Operand} {r : Option AV} (h : optA f o = some r) :
    (∀ a, r = some a → ∃ b, o.map e = some b ∧ VR ρ a b) ∧ (r = none → o.map e = none) := by
  cases o with
  | none => simp [optA] at h; subst h; simp
  | some x =>
    simp only [optA] at h
    split at h
    · rename_i v hv
      simp at h; subst h
      refine ⟨fun a ha => ?_, by simp⟩
      simp at ha; subst ha
      exact ⟨_, rfl, hf x v hv⟩
    · simp at h

theorem run_sliceV {ρ : Rho} {t : TypeId} {x v : AV} {lo hi mx : Option AV} (h : sliceV P t x lo hi mx = some v) {cx : Value} (hx : VR ρ x cx) {clo chi cmx : Option Value}
    (h1 : ∀ a, lo = some a → ∃ b, clo = some b ∧ VR ρ a b) (h1' : lo = none → clo = none)
    (h2 : ∀ a, hi = some a → ∃ b, chi = some b ∧ VR ρ a b) (h2' : hi = none → chi = none)
    (h3 : ∀ a, mx = some a → ∃ b, cmx = some b ∧ VR ρ a b) (h3' : mx = none → cmx = none) :
    ∃ c, (Instr.sliceAt t cx clo chi cmx).run P w = .ok c w ∧ VR ρ v c := by
  unfold sliceV at h
  split at h
  · rename_i elem n f e full hu
    split at h
    · rename_i l hh c sz hcut hsz
      split at h
      · rename_i he
        rw [Tr.beq_true] at he; subst he
        simp at h; subst h
        simp only [VR] at hx
        rcases hx with ⟨rfl, hx⟩ | ⟨h0, blk, off, k, arr, rfl, q2, q3, q4, q5, q6⟩
        · obtain ⟨a, k, rfl⟩ := hx.sl
          obtain ⟨m, hr, m1, m2, m3, m4, m5, m6⟩ := run_cutS (P := P) w hcut (Nat.zero_le k) (by simp) h1 h1' h2 h2' h3 h3' true
          have hz : hh = 0 := by
            cases hc : c with
            | none => have := (m5 hc).2.2; omega
            | some q => have := m6 (by rw [hc]; simp); simp [capOr] at this; omega
          subst hz
          obtain rfl : l = 0 := by omega
          refine ⟨_, by simp only [Instr.sliceAt, Sem.run_bind, run_ul w hu, Result.andThen_ok, Instr.slice, hr, run_sz w hsz, Sem.run_pure]; rfl, ?_⟩
          simp only [VR, Nat.sub_self, Nat.sub_zero]
          refine .inl ⟨trivial, ?_⟩
          have hf : fullS 0 full 0 0 c = true → m = 0 := by
            intro hf
            unfold fullS at hf
            cases hc : c with
            | none =>
              rw [hc] at hf
              simp only [Bool.and_eq_true] at hf
              have := (m5 hc).2.1
              rcases hx with h | ⟨a', k', h, hk⟩
              · cases h; omega
              · cases h; have := hk hf.1; omega
            | some q => have := m6 (by rw [hc]; simp); simp [capOr] at this; omega
          cases a with
          | none =>
            rcases hx with h | ⟨a', k', h, hk⟩
            · cases h
              obtain rfl : m = 0 := by omega
              exact .inl (by simp)
            · cases h
          | some a =>
            split
            · exact .inr ⟨_, _, rfl, hf⟩
            · exact .inr ⟨_, _, rfl, hf⟩
        · obtain ⟨m, hr, m1, m2, m3, m4, m5, m6⟩ := run_cutS (P := P) w hcut q2 (by simp) h1 h1' h2 h2' h3 h3' true
          have hrun : (Instr.sliceAt t (.slice (some ⟨blk, off, none⟩) n k) clo chi cmx).run P w = .ok (.slice (if m = l then some ⟨blk, off, none⟩ else some ⟨blk, off + l * sz, none⟩) (hh - l) (m - l)) w := by
            simp only [Instr.sliceAt, Sem.run_bind, run_ul w hu, Result.andThen_ok, Instr.slice, hr, run_sz w hsz, Sem.run_pure, Option.map_some, add_addr]
          refine ⟨_, hrun, ?_⟩
          have hn : hh ≤ n := by
            cases hc : c with
            | none => exact (m5 hc).2.2
            | some q => have := m6 (by rw [hc]; simp); simp [capOr] at this; omega
          have hf : fullS n full l hh c = true → m - l = hh - l := by
            intro hf
            unfold fullS at hf
            cases hc : c with
            | none =>
              rw [hc] at hf
              simp only [Bool.and_eq_true, Tr.beq_true] at hf
              have := (m5 hc).2.1
              have := q3 hf.1
              omega
            | some q =>
              rw [hc] at hf
              simp only [Tr.beq_true] at hf
              have := m4 q hc
              omega
          simp only [VR]
          by_cases hlh : l = hh
          · subst hlh
            refine .inl ⟨by omega, ?_⟩
            rw [Nat.sub_self]
            split
            · exact .inr ⟨_, m - l, rfl, fun h => by have := hf h; omega⟩
            · exact .inr ⟨_, m - l, rfl, fun h => by have := hf h; omega⟩
          · rw [if_neg (by omega)]
            refine .inr ⟨by omega, blk, off + l * sz, m - l, arr, rfl, by omega, hf, q4, ?_, fun j hj => ?_⟩
            · have : (hh - l) * sz + l * sz ≤ n * sz := by rw [← Nat.add_mul]; exact Nat.mul_le_mul_right _ (by omega)
              omega
            · have := q6 (l + j) (by omega)
              rw [addZ_eq, show off + l * sz + j * sz = off + (l + j) * sz by rw [Nat.add_mul]; omega]
              exact this
      · simp at h
    · simp at h
  · rename_i elem b j n cap e hu
    split at h
    · rename_i l hh c sz hcut hsz
      split at h
      · rename_i he
        rw [Tr.beq_true] at he; subst he
        simp at h; subst h
        simp only [VR] at hx
        rcases hx with ⟨rfl, rfl, hx⟩ | ⟨cb, k, q1, rfl, q2, q3, q5, q4⟩
        · obtain ⟨a, k, rfl⟩ := hx.sl
          have hk0 : k = 0 := by
            rcases hx with h | ⟨a', k', h, hk⟩
            · cases h; rfl
            · cases h; exact hk rfl
          subst hk0
          obtain ⟨m, hr, m1, m2, m3, m4, m5, m6⟩ := run_cutS (P := P) w hcut (Nat.le_refl 0) (by simp) h1 h1' h2 h2' h3 h3' true
          obtain rfl : m = 0 := by omega
          obtain rfl : hh = 0 := by omega
          obtain rfl : l = 0 := by omega
          refine ⟨_, by simp only [Instr.sliceAt, Sem.run_bind, run_ul w hu, Result.andThen_ok, Instr.slice, hr, run_sz w hsz, Sem.run_pure]; rfl, ?_⟩
          simp only [VR, Nat.sub_self]
          exact .inl ⟨trivial, trivial, by simpa using hx⟩
        · obtain ⟨m, hr, m1, m2, m3, m4, m5, m6⟩ := run_cutS (P := P) w hcut q2 (fun m hm => (q4 m hm).1) h1 h1' h2 h2' h3 h3' true
          have hrun : (Instr.sliceAt t (.slice (some ⟨cb.blk, cb.base + j * sz, none⟩) n k) clo chi cmx).run P w = .ok (.slice (if m = l then some ⟨cb.blk, cb.base + j * sz, none⟩ else some ⟨cb.blk, cb.base + j * sz + l * sz, none⟩) (hh - l) (m - l)) w := by
            simp only [Instr.sliceAt, Sem.run_bind, run_ul w hu, Result.andThen_ok, Instr.slice, hr, run_sz w hsz, Sem.run_pure, Option.map_some, add_addr]
          refine ⟨_, hrun, ?_⟩
          simp only [VR]
          have hhn : cb.base + (j + hh) * sz ≤ cb.kn := by
            cases hc : cap with
            | none =>
              have hn : hh ≤ n := by
                cases hc2 : c with
                | none => exact (m5 hc2).2.2
                | some q => have := m6 (by rw [hc2]; simp); rw [hc] at this; simp [capOr] at this; omega
              have : (j + hh) * sz ≤ (j + n) * sz := Nat.mul_le_mul_right _ (by omega)
              omega
            | some q =>
              have h5 := q4 q hc
              have : (j + hh) * sz ≤ (j + q) * sz := Nat.mul_le_mul_right _ (by omega)
              omega
          by_cases hlm : m = l
          · subst hlm
            obtain rfl : hh = m := by omega
            rw [if_pos rfl]
            exact .inl ⟨by omega, trivial, .inr ⟨_, 0, by rw [Nat.sub_self], fun _ => rfl⟩⟩
          · rw [if_neg hlm]
            refine .inr ⟨cb, m - l, q1, by rw [addZ_eq, Nat.add_mul]; simp [Nat.add_assoc], by omega, ?_, ?_, by simp⟩
            · rw [addZ_eq, show j + l + (hh - l) = j + hh by omega]; exact hhn
            · rw [addZ_eq, show j + l + (m - l) = j + m by omega]
              have : (j + m) * sz ≤ (j + k) * sz := Nat.mul_le_mul_right _ (by omega)
              omega
      · simp at h
    · simp at h
  · rename_i elem b off len cap esz hu
    split at h
    · rename_i l hh c sz hcut hsz
      simp only [VR] at hx
      obtain ⟨cb, k, hb, rfl, hlk, htot, hcap⟩ := hx
      obtain ⟨m, hr, m1, m2, m3, m4, m5, m6⟩ := run_cutS (P := P) w hcut hlk hcap h1 h1' h2 h2' h3 h3' true
      have hrun : (Instr.sliceAt t (.slice (some ⟨cb.blk, cb.base + off, none⟩) len k) clo chi cmx).run P w = .ok (.slice (if m = l then some ⟨cb.blk, cb.base + off, none⟩ else some ⟨cb.blk, cb.base + off + l * sz, none⟩) (hh - l) (m - l)) w := by
        simp only [Instr.sliceAt, Sem.run_bind, run_ul w hu, Result.andThen_ok, Instr.slice, hr, run_sz w hsz, Sem.run_pure, Option.map_some, add_addr]
      refine ⟨_, hrun, ?_⟩
      split at h
      · rename_i hq
        simp only [Bool.and_eq_true, Tr.beq_true] at hq
        obtain ⟨rfl, _⟩ := hq
        obtain ⟨m5a, m5b, m5c⟩ := m5 rfl
        split at h
        · rename_i hl0
          simp at h; subst h
          rw [Tr.beq_true] at hl0; subst hl0
          simp only [VR]
          have : m * sz ≤ k * sz := Nat.mul_le_mul_right _ m3
          exact ⟨cb, m - 0, hb, by simp, by omega, by simp; omega, by simp⟩
        · rename_i hl0 hlh
          simp at h; subst h
          rw [Tr.beq_true] at hlh; subst hlh
          simp only [VR]
          split
          · exact ⟨_, _, by rw [Nat.sub_self], by simp⟩
          · exact ⟨_, _, by rw [Nat.sub_self], by simp⟩
        · rename_i hl0 hlh
          simp at h; subst h
          have hne : l ≠ hh := by intro e; subst e; rw [Nat.beq_refl] at hlh; cases hlh
          rw [if_neg (by omega)]
          simp only [VR]
          refine ⟨cb, m - l, hb, by simp [Nat.add_assoc], by omega, ?_, by simp⟩
          have : (m - l) * sz + l * sz ≤ k * sz := by rw [← Nat.add_mul]; exact Nat.mul_le_mul_right _ (by omega)
          omega
      · rename_i n hq
        simp only [Bool.and_eq_true, Tr.beq_true] at hq
        obtain ⟨rfl, _⟩ := hq
        have hm4 := m4 n rfl
        split at h
        · rename_i hn
          simp at h; subst h
          rw [Tr.beq_true] at hn; subst hn
          rw [if_pos (by omega)]
          simp only [VR]
          exact ⟨_, 0, by rw [show hh - l = 0 by omega, show m - l = 0 by omega], by simp⟩
        · rename_i hn
          simp at h; subst h
          have hne : n ≠ 0 := by intro e; subst e; simp at hn
          rw [if_neg (by omega)]
          simp only [VR]
          refine ⟨cb, m - l, hb, by simp [Nat.add_assoc], by omega, ?_, by intro q hq; simp at hq; omega⟩
          have : (m - l) * sz + l * sz ≤ k * sz := by rw [← Nat.add_mul]; exact Nat.mul_le_mul_right _ (by omega)
          omega
      · simp at h
    · simp at h
  · rename_i elem hu
    split at h
    · rename_i r sz hcut hsz
      obtain ⟨l, hh, c⟩ := r
      simp at h; subst h
      simp only [VR] at hx; subst hx
      obtain ⟨m, hr, m1, m2, m3, m4, m5, m6⟩ := run_cutS (P := P) w hcut (Nat.le_refl 0) (by simp) h1 h1' h2 h2' h3 h3' true
      obtain rfl : m = 0 := by omega
      obtain rfl : hh = 0 := by omega
      obtain rfl : l = 0 := by omega
      exact ⟨_, by simp only [Instr.sliceAt, Sem.run_bind, run_ul w hu, Result.andThen_ok, Instr.slice, hr, run_sz w hsz, Sem.run_pure]; rfl, by simp [VR]⟩
    · simp at h
  · rename_i elem hu
    split at h
    · rename_i r sz hcut hsz
      obtain ⟨l, hh, c⟩ := r
      simp at h; subst h
      simp only [VR] at hx
      obtain ⟨a, k, rfl, hk⟩ := hx
      have := hk trivial; subst this
      obtain ⟨m, hr, m1, m2, m3, m4, m5, m6⟩ := run_cutS (P := P) w hcut (Nat.le_refl 0) (by simp) h1 h1' h2 h2' h3 h3' true
      obtain rfl : m = 0 := by omega
      obtain rfl : hh = 0 := by omega
      obtain rfl : l = 0 := by omega
      exact ⟨_, by simp only [Instr.sliceAt, Sem.run_bind, run_ul w hu, Result.andThen_ok, Instr.slice, hr, run_sz w hsz, Sem.run_pure]; rfl, by simp [VR]⟩
    · simp at h
  · rename_i elem hu
    simp only [VR] at hx
    obtain ⟨a, k, rfl, hk⟩ := hx
    split at h
    · rename_i l hh c sz hcut hsz
      simp at h; subst h
      obtain ⟨m, hr, m1, m2, m3, m4, m5, m6⟩ := run_cutS (P := P) w hcut (Nat.zero_le k) (by simp) h1 h1' h2 h2' h3 h3' true
      refine ⟨_, by simp only [Instr.sliceAt, Sem.run_bind, run_ul w hu, Result.andThen_ok, Instr.slice, hr, run_sz w hsz, Sem.run_pure]; rfl, ?_⟩
      have m7 := m6 (by simp)
      simp [capOr] at m7
      subst m7
      simp only [VR]
      split
      · exact ⟨_, _, by rw [show hh - l = 0 by omega], by simp⟩
      · exact ⟨_, _, by rw [show hh - l = 0 by omega]; rfl, by simp⟩
    · rename_i l hh sz hcut hsz
      simp at h; subst h
      obtain ⟨m, hr, m1, m2, m3, m4, m5, m6⟩ := run_cutS (P := P) w hcut (Nat.zero_le k) (by simp) h1 h1' h2 h2' h3 h3' true
      obtain ⟨_, rfl, m5c⟩ := m5 rfl
      refine ⟨_, by simp only [Instr.sliceAt, Sem.run_bind, run_ul w hu, Result.andThen_ok, Instr.slice, hr, run_sz w hsz, Sem.run_pure]; rfl, ?_⟩
      simp only [VR]
      split
      · exact ⟨_, _, by rw [show hh - l = 0 by omega], by simp⟩
      · exact ⟨_, _, by rw [show hh - l = 0 by omega]; rfl, by simp⟩
    · simp at h
  · simp at h
end
end Go.EV
